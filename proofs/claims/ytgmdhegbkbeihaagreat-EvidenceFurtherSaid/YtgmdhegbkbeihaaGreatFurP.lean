/- Evidence when an edit comes at the end: the plain law. -/
import Derived.Test.YtgmdhegbkbeihaaGreatFstQ
set_option linter.unusedVariables false
set_option linter.unusedSimpArgs false
set_option maxRecDepth 4000
set_option maxHeartbeats 1000000
namespace Go.Pv
open Go

theorem atE_app {l : List Edit} {x : Edit} {i : Nat} (h : i < l.length) : atE (l ++ [x]) i = atE l i := by
  unfold atE
  rw [List.getD_eq_getElem?_getD, List.getD_eq_getElem?_getD, List.getElem?_append_left h]
theorem firstS_app (fits : Edit → List Edit → Bool) (l : List Edit) (x : Edit) (M fro : Nat) : ∀ n, fro + n ≤ l.length → firstS fits (l ++ [x]) M fro n = firstS fits l M fro n
  | 0, _ => rfl
  | n + 1, h => by
    have ih := firstS_app fits l x M fro n (by omega)
    have hm : (firstS fits l M fro n).map (atE (l ++ [x])) = (firstS fits l M fro n).map (atE l) := List.map_congr_left fun i hi => atE_app (by have := firstS_mem fits l M fro n i hi; omega)
    have e : ∀ l' : List Edit, firstS fits l' M fro (n + 1) = if (firstS fits l' M fro n).length < M ∧ fits (atE l' (fro + n)) ((firstS fits l' M fro n).map (atE l')) = true then firstS fits l' M fro n ++ [fro + n] else firstS fits l' M fro n := fun _ => rfl
    rw [e, e, ih, hm, atE_app (by omega)]
theorem firstE_app {m : List Obj} {l : List Edit} (x : Edit) {κ : Int} {i : Nat} (hi : i < l.length) (hf : fullE m l κ i = true) : firstE m (l ++ [x]) κ i = firstE m l κ i := by
  unfold fullE firstE firstF at hf
  have hlen : (firstS (fitsE m κ) l (manyE κ) i (l.length - i)).length = manyE κ := by simpa using hf
  unfold firstE firstF
  have e : (l ++ [x]).length - i = (l.length - i) + 1 := by simp; omega
  have a := firstS_app (fitsE m κ) l x (manyE κ) i (l.length - i) (by omega)
  rw [e, firstS_full (n := l.length - i) (by rw [a, hlen]; omega) 1, a]
theorem fullE_app {m : List Obj} {l : List Edit} (x : Edit) {κ : Int} {i : Nat} (hi : i < l.length) (hf : fullE m l κ i = true) : fullE m (l ++ [x]) κ i = true := by
  have := firstE_app (m := m) x hi hf
  unfold fullE at hf ⊢
  rw [this]
  exact hf
theorem kind_app {m : List Obj} {l : List Edit} (x : Edit) {κ : Int} {e : Evid} (h1 : κ ≠ 1) (h : kindE m l κ = some e) : ∃ e', kindE m (l ++ [x]) κ = some e' ∧ (κ ≠ 4 → e' = e) := by
  obtain ⟨_, i, hi, hmin, hst, hfu, rfl⟩ := kindE_some h
  have hk : kindE m (l ++ [x]) κ = (match (List.range (l ++ [x]).length).find? (stopE m (l ++ [x]) κ) with
      | none => none
      | some i => if fullE m (l ++ [x]) κ i = true then some ⟨κ, (firstE m (l ++ [x]) κ i).map Int.ofNat⟩ else none) := by unfold kindE; rw [if_neg (fun c => h1 c.1)]; rfl
  have hfu' := fullE_app (m := m) x hi hfu
  have hst' : stopE m (l ++ [x]) κ i = true := by
    unfold stopE at hst ⊢
    rw [Bool.and_eq_true] at hst
    rw [atE_app hi, hst.1, hfu', Bool.or_true]
    rfl
  have hi' : i < (l ++ [x]).length := by simp; omega
  rcases hfd : (List.range (l ++ [x]).length).find? (stopE m (l ++ [x]) κ) with _ | j
  · exact absurd hst' (List.find?_eq_none.1 hfd i (List.mem_range.2 hi'))
  · rw [hfd] at hk
    rw [List.find?_eq_some_iff_getElem] at hfd
    obtain ⟨hsj, q, hq, hqj, hmj⟩ := hfd
    simp only [List.getElem_range] at hqj
    subst hqj
    dsimp only at hk
    have hle : q ≤ i := by
      by_cases c : i < q
      · have := hmj i c
        simp [hst'] at this
      · omega
    by_cases c4 : κ = 4
    · have hfq : fullE m (l ++ [x]) κ q = true := by
        unfold stopE at hsj
        rw [Bool.and_eq_true, decide_eq_true c4] at hsj
        exact hsj.2
      rw [if_pos hfq] at hk
      exact ⟨_, hk, fun c => absurd c4 c⟩
    · have hqi : q = i := by
        by_cases c : q < i
        · have := hmin q c
          unfold stopE at this hsj
          rw [decide_eq_false c4] at this hsj
          rw [atE_app (by omega)] at hsj
          rw [Bool.and_eq_true] at hsj
          rw [hsj.1] at this
          cases this
        · omega
      subst hqi
      rw [if_pos hfu', firstE_app (m := m) x hi hfu] at hk
      exact ⟨_, hk, fun _ => rfl⟩
theorem find_further {m : List Obj} {l : List Edit} (x : Edit) (h0 : (findE m l).kind ≠ 0) (h1 : (findE m l).kind ≠ 1) :
    (findE m (l ++ [x])).kind ≠ 0 ∧ (findE m (l ++ [x])).kind ≤ (findE m l).kind ∧ ((findE m l).kind = (findE m (l ++ [x])).kind → (findE m l).kind ≠ 4 → findE m l = findE m (l ++ [x])) := by
  rcases findE_cases m l with ⟨h, _⟩ | ⟨κ, a1, a4, hk, hn⟩
  · rw [h] at h0
    exact absurd rfl h0
  · obtain ⟨_, i, _, _, _, _, he⟩ := kindE_some hk
    have hkd : (findE m l).kind = κ := by rw [he]
    rw [hkd] at h0 h1 ⊢
    obtain ⟨e', hk', hs⟩ := kind_app x h1 hk
    rcases findE_cases m (l ++ [x]) with ⟨_, hn'⟩ | ⟨κ', b1, b4, hk2, hn2⟩
    · rw [hn' κ a1 a4] at hk'
      cases hk'
    · obtain ⟨_, _, _, _, _, _, he2⟩ := kindE_some hk2
      have hkd2 : (findE m (l ++ [x])).kind = κ' := by rw [he2]
      have hle : κ' ≤ κ := by
        by_cases c : κ < κ'
        · rw [hn2 κ a1 c] at hk'
          cases hk'
        · omega
      rw [hkd2]
      refine ⟨by omega, hle, fun e c4 => ?_⟩
      subst e
      rw [hk'] at hk2
      have := Option.some.inj hk2
      rw [← this]
      exact (hs c4).symm
end Go.Pv
