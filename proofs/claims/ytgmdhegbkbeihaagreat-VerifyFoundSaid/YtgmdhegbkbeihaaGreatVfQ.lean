/- What verify accepts and what evidence finds. -/
import Derived.Test.YtgmdhegbkbeihaaGreatVfP
set_option linter.unusedVariables false
set_option linter.unusedSimpArgs false
set_option maxRecDepth 4000
set_option maxHeartbeats 1000000
namespace Go.Pv
open Go

theorem accept_taken {m : List Obj} {l : List Edit} {κ : Int} {f : List Nat} (hm : mapV m = true) (he : ∀ e ∈ l, editV e = true) (h1 : 1 ≤ κ) (h4 : κ ≤ 4) (hlen : f.length = manyE κ) (hd : ¬ (κ = 1 ∧ 2 * dropsF l ≤ l.length)) (hb : ∀ i ∈ f, i < l.length) (h : Taken m l κ f) : acceptF m l ⟨κ, f.map Int.ofNat⟩ = true := by
  have hg : goF (showsF κ m) (togF κ) l (f.map Int.ofNat) [] (-1) = true := by
    refine go_of _ _ l f [] (-1) (fun i hi => ⟨by omega, hb i hi, ?_, fun y hy => by cases hy⟩) h.inc ?_
    · rw [shows_eq hm (by rw [atE_get (hb i hi)]; exact he _ (List.getElem_mem _)) h1 h4]
      exact h.show_ i hi
    · exact h.tog.imp fun hab => by rw [togs_eq]; exact hab
  unfold acceptF
  dsimp only
  have e5 : (!decide (κ = 1) || decide ((l.length : Int) - (dropsF l : Nat) < (dropsF l : Nat))) = true := by
    by_cases c : κ = 1
    · rw [decide_eq_true (by omega : (l.length : Int) - (dropsF l : Nat) < (dropsF l : Nat)), Bool.or_true]
    · rw [decide_eq_false c]
      rfl
  rw [decide_eq_true h1, decide_eq_true h4, List.length_map, many_eq h1 h4, decide_eq_true (by omega : ((f.length : Nat) : Int) = ((manyE κ : Nat) : Int)), hg, e5]
  rfl
theorem accept_find {m : List Obj} {l : List Edit} (hc : closedF m = true) (hv : changeV l = true) (h0 : findE m l ≠ ⟨0, []⟩) : acceptF m l (findE m l) = true := by
  rcases findE_cases m l with ⟨h, _⟩ | ⟨κ, h1, h4, hk, _⟩
  · exact absurd h h0
  · obtain ⟨hd, i, hi, _, _, hfu, he⟩ := kindE_some hk
    rw [he]
    have hlen : (firstE m l κ i).length = manyE κ := by
      unfold fullE at hfu
      simpa using hfu
    have ht : Taken m l κ (firstE m l κ i) := firstS_taken m l κ (manyE κ) i _
    have hb : ∀ x ∈ firstE m l κ i, x < l.length := fun x hx => by
      have := (firstS_mem (fitsE m κ) l (manyE κ) i (l.length - i) x hx).2
      omega
    have hm : mapV m = true := by
      unfold closedF at hc
      rw [Bool.and_eq_true] at hc
      exact hc.1
    have hed : ∀ e ∈ l, editV e = true := by
      unfold changeV at hv
      simp only [Bool.and_eq_true, List.all_eq_true] at hv
      exact hv.2.2
    exact accept_taken hm hed h1 h4 hlen hd hb ht
theorem accept_none (m : List Obj) (l : List Edit) : acceptF m l ⟨0, []⟩ = false := rfl
theorem accept_holds {m : List Obj} {l : List Edit} {e : Evid} (hc : closedF m = true) (hv : changeV l = true) (h : acceptF m l e = true) : holdsF m l e = true := by
  obtain ⟨κ, es⟩ := e
  unfold acceptF at h
  simp only [Bool.and_eq_true, decide_eq_true_eq] at h
  obtain ⟨⟨⟨⟨h1, h4⟩, hlen⟩, hg⟩, hd⟩ := h
  obtain ⟨f, rfl, g1, g2, g3⟩ := go_to _ _ l es [] (-1) (by omega) hg
  have hm : mapV m = true := by
    unfold closedF at hc
    rw [Bool.and_eq_true] at hc
    exact hc.1
  have hed : ∀ e ∈ l, editV e = true := by
    unfold changeV at hv
    simp only [Bool.and_eq_true, List.all_eq_true] at hv
    exact hv.2.2
  rw [List.length_map, many_eq h1 h4] at hlen
  refine holds_taken h1 h4 (by omega) (fun c => ?_) (fun i hi => (g1 i hi).2.1) ⟨g2, fun i hi => ?_, g3.imp fun hab => by rw [← togs_eq]; exact hab⟩
  · rw [decide_eq_true c.1] at hd
    simp at hd
    omega
  · obtain ⟨_, a, b, _⟩ := g1 i hi
    rw [← shows_eq hm (by rw [atE_get a]; exact hed _ (List.getElem_mem _)) h1 h4]
    exact b
end Go.Pv
