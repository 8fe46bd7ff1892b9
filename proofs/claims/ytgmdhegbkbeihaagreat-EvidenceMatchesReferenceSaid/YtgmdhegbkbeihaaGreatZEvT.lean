/- Whether evidence holds. -/
import Derived.Test.YtgmdhegbkbeihaaGreatZEvR
set_option linter.unusedVariables false
set_option linter.unusedSimpArgs false
set_option maxRecDepth 4000
set_option maxHeartbeats 4000000
namespace Go.Pv
open Go

theorem SExt.over {s s' : Hp} {id : Nat} (x : Option Blk) (h : SExt s s') : SExt (upd s id x) (upd s' id x) := fun i hi => by
  by_cases e : i = id
  · subst e; rw [upd_same, upd_same]
  · rw [upd_other _ _ _ _ e] at hi
    rw [upd_other _ _ _ _ e, upd_other _ _ _ _ e]
    exact h i hi
end Go.Pv
set_option linter.unusedVariables false
set_option linter.unusedSimpArgs false
set_option maxRecDepth 4000
set_option maxHeartbeats 1000000
namespace Go.Pv
open Go

theorem findE_cases (m : List Obj) (l : List Edit) : (findE m l = ⟨0, []⟩ ∧ ∀ κ : Int, 1 ≤ κ → κ ≤ 4 → kindE m l κ = none) ∨ ∃ κ : Int, 1 ≤ κ ∧ κ ≤ 4 ∧ kindE m l κ = some (findE m l) ∧ ∀ κ' : Int, 1 ≤ κ' → κ' < κ → kindE m l κ' = none := by
  unfold findE
  simp only [List.findSome?]
  cases h1 : kindE m l 1
  · cases h2 : kindE m l 2
    · cases h3 : kindE m l 3
      · cases h4 : kindE m l 4
        · refine .inl ⟨rfl, fun κ a b => ?_⟩
          have : κ = 1 ∨ κ = 2 ∨ κ = 3 ∨ κ = 4 := by omega
          rcases this with rfl | rfl | rfl | rfl <;> assumption
        · refine .inr ⟨4, by omega, by omega, h4, fun κ a b => ?_⟩
          have : κ = 1 ∨ κ = 2 ∨ κ = 3 := by omega
          rcases this with rfl | rfl | rfl <;> assumption
      · refine .inr ⟨3, by omega, by omega, h3, fun κ a b => ?_⟩
        have : κ = 1 ∨ κ = 2 := by omega
        rcases this with rfl | rfl <;> assumption
    · refine .inr ⟨2, by omega, by omega, h2, fun κ a b => ?_⟩
      have : κ = 1 := by omega
      subst this
      assumption
  · exact .inr ⟨1, by omega, by omega, h1, fun κ a b => by omega⟩
theorem kindE_some {m : List Obj} {l : List Edit} {κ : Int} {e : Evid} (h : kindE m l κ = some e) : ¬ (κ = 1 ∧ 2 * dropsF l ≤ l.length) ∧ ∃ i, i < l.length ∧ (∀ i', i' < i → stopE m l κ i' = false) ∧ stopE m l κ i = true ∧ fullE m l κ i = true ∧ e = ⟨κ, (firstE m l κ i).map Int.ofNat⟩ := by
  unfold kindE at h
  split at h
  · cases h
  · rename_i hn
    refine ⟨hn, ?_⟩
    split at h
    · cases h
    · rename_i i hf
      split at h
      · rename_i hfull
        rw [List.find?_eq_some_iff_getElem] at hf
        obtain ⟨h1, j, hj, h2, h3⟩ := hf
        simp at hj h2
        subst h2
        cases h
        exact ⟨j, hj, fun i' hi' => by simpa using h3 i' hi', h1, hfull, rfl⟩
      · cases h
/-- What the indices that were taken are like. -/
structure Taken (m : List Obj) (l : List Edit) (κ : Int) (f : List Nat) : Prop where
  inc : f.Pairwise (· < ·)
  show_ : ∀ i ∈ f, showE m κ (atE l i) = true
  tog : f.Pairwise fun a b => togE κ (atE l a) (atE l b) = true
theorem firstS_taken (m : List Obj) (l : List Edit) (κ : Int) (many fro : Nat) : ∀ n, Taken m l κ (firstS (fitsE m κ) l many fro n)
  | 0 => ⟨.nil, (fun i h => by cases h), .nil⟩
  | n + 1 => by
    have ih := firstS_taken m l κ many fro n
    have hmem := firstS_mem (fitsE m κ) l many fro n
    simp only [firstS]
    split
    · rename_i h
      have hf := h.2
      unfold fitsE at hf
      rw [Bool.and_eq_true, List.all_eq_true] at hf
      refine ⟨?_, ?_, ?_⟩
      · rw [List.pairwise_append]
        refine ⟨ih.inc, List.pairwise_singleton _ _, fun a ha b hb => ?_⟩
        rw [List.mem_singleton.1 hb]
        exact (hmem a ha).2
      · intro i hi
        rcases List.mem_append.1 hi with hi | hi
        · exact ih.show_ i hi
        · rw [List.mem_singleton.1 hi]; exact hf.1
      · rw [List.pairwise_append]
        refine ⟨ih.tog, List.pairwise_singleton _ _, fun a ha b hb => ?_⟩
        rw [List.mem_singleton.1 hb]
        exact hf.2 _ (List.mem_map.2 ⟨a, ha, rfl⟩)
    · exact ih
end Go.Pv
set_option linter.unusedVariables false
set_option linter.unusedSimpArgs false
set_option maxRecDepth 4000
set_option maxHeartbeats 1000000
namespace Go.Pv
open Go

def keyE (κ : Int) (e : Edit) : ByteArray := if κ = 4 then e.obj.id else e.id
def clsE (κ : Int) (a b : Edit) : Bool := if κ = 4 then (decide (a.obj.x = b.obj.x) && decide (a.obj.y = b.obj.y)) && decide (a.obj.tags = b.obj.tags) else true
theorem tog_iff {κ : Int} {a b : Edit} : togE κ a b = true ↔ keyE κ a ≠ keyE κ b ∧ clsE κ a b = true := by
  unfold togE keyE clsE
  by_cases c : κ = 4
  · simp only [if_pos c, Bool.and_eq_true, Bool.not_eq_true', decide_eq_false_iff_not, ne_eq]
  · simp only [if_neg c, Bool.not_eq_true', decide_eq_false_iff_not, ne_eq, and_true]
theorem cls_iff {κ : Int} {a b : Edit} : clsE κ a b = true ↔ (κ = 4 → a.obj.x = b.obj.x ∧ a.obj.y = b.obj.y ∧ a.obj.tags = b.obj.tags) := by
  unfold clsE
  by_cases c : κ = 4
  · rw [if_pos c]
    simp only [Bool.and_eq_true, decide_eq_true_eq, c, true_implies, and_assoc]
  · rw [if_neg c]
    simp only [c, false_implies]
theorem cls_refl (κ : Int) (a : Edit) : clsE κ a a = true := cls_iff.2 fun _ => ⟨rfl, rfl, rfl⟩
theorem cls_symm {κ : Int} {a b : Edit} (h : clsE κ a b = true) : clsE κ b a = true := cls_iff.2 fun c => by
  obtain ⟨h1, h2, h3⟩ := cls_iff.1 h c
  exact ⟨h1.symm, h2.symm, h3.symm⟩
theorem cls_trans {κ : Int} {a b c : Edit} (h : clsE κ a b = true) (h' : clsE κ b c = true) : clsE κ a c = true := cls_iff.2 fun e => by
  obtain ⟨h1, h2, h3⟩ := cls_iff.1 h e
  obtain ⟨g1, g2, g3⟩ := cls_iff.1 h' e
  exact ⟨h1.trans g1, h2.trans g2, h3.trans g3⟩
theorem nodup_le {α : Type} [DecidableEq α] : ∀ (a b : List α), a.Pairwise (· ≠ ·) → (∀ x ∈ a, x ∈ b) → a.length ≤ b.length
  | [], b, _, _ => Nat.zero_le _
  | x :: a, b, h, hs => by
    obtain ⟨h1, h2⟩ := List.pairwise_cons.1 h
    have hx : x ∈ b := hs x List.mem_cons_self
    have hl : (b.erase x).length + 1 = b.length := by
      have := List.length_erase_of_mem hx
      have : 0 < b.length := List.length_pos_of_mem hx
      omega
    have := nodup_le a (b.erase x) h2 fun y hy => (List.mem_erase_of_ne (fun e => h1 y hy e.symm)).2 (hs y (List.mem_cons_of_mem _ hy))
    rw [List.length_cons]
    omega
section
variable {m : List Obj} {l : List Edit} {κ : Int} {M fro : Nat}
theorem fitsE_eq (m : List Obj) (κ : Int) (x : Edit) (b : List Edit) : fitsE m κ x b = (showE m κ x && b.all fun y => togE κ y x) := rfl
theorem firstS_le (fits : Edit → List Edit → Bool) (l : List Edit) (M fro : Nat) : ∀ n, (firstS fits l M fro n).length ≤ M
  | 0 => Nat.zero_le _
  | n + 1 => by
    have ih := firstS_le fits l M fro n
    simp only [firstS]
    split
    · rename_i h
      have := h.1
      simp
      omega
    · exact ih
theorem firstS_pre (fits : Edit → List Edit → Bool) (l : List Edit) (M fro n : Nat) : ∀ d, ∃ t, firstS fits l M fro (n + d) = firstS fits l M fro n ++ t
  | 0 => ⟨[], by simp⟩
  | d + 1 => by
    obtain ⟨t, ht⟩ := firstS_pre fits l M fro n d
    rw [← Nat.add_assoc]
    simp only [firstS]
    split
    · exact ⟨t ++ [fro + (n + d)], by rw [ht, List.append_assoc]⟩
    · exact ⟨t, ht⟩
theorem firstS_head (hs : showE m κ (atE l fro) = true) (hM : 0 < M) (n : Nat) : ∃ t, firstS (fitsE m κ) l M fro (n + 1) = fro :: t := by
  have h1 : firstS (fitsE m κ) l M fro 1 = [fro] := by
    simp [firstS, fitsE, hs, hM]
  obtain ⟨t, ht⟩ := firstS_pre (fitsE m κ) l M fro 1 n
  rw [Nat.add_comm, ht, h1]
  exact ⟨t, rfl⟩
/-- What may be among the evidence that begins with an edit. -/
def Sh (m : List Obj) (l : List Edit) (κ : Int) (fro i : Nat) : Prop := showE m κ (atE l i) = true ∧ clsE κ (atE l fro) (atE l i) = true
theorem firstS_sh (hs : showE m κ (atE l fro) = true) (hM : 0 < M) : ∀ n, ∀ i ∈ firstS (fitsE m κ) l M fro n, Sh m l κ fro i
  | 0, i, h => by cases h
  | n + 1, i, h => by
    have ih := firstS_sh hs hM n
    by_cases hin : i ∈ firstS (fitsE m κ) l M fro n
    · exact ih i hin
    · have hf : i = fro + n ∧ fitsE m κ (atE l i) ((firstS (fitsE m κ) l M fro n).map (atE l)) = true := by
        simp only [firstS] at h
        split at h
        · rename_i hh
          rcases List.mem_append.1 h with h | h
          · exact absurd h hin
          · have e := List.mem_singleton.1 h
            exact ⟨e, by rw [e]; exact hh.2⟩
        · exact absurd h hin
      obtain ⟨e, hf⟩ := hf
      rw [fitsE_eq, Bool.and_eq_true, List.all_eq_true] at hf
      refine ⟨hf.1, ?_⟩
      cases n with
      | zero => rw [e]; exact cls_refl _ _
      | succ n =>
        obtain ⟨t, ht⟩ := firstS_head (m := m) (l := l) (κ := κ) (M := M) hs hM n
        have := hf.2 (atE l fro) (List.mem_map.2 ⟨fro, by rw [ht]; exact List.mem_cons_self, rfl⟩)
        exact (tog_iff.1 this).2
theorem firstS_cover (hs : showE m κ (atE l fro) = true) (hM : 0 < M) : ∀ n, (firstS (fitsE m κ) l M fro n).length < M → ∀ i, fro ≤ i → i < fro + n → Sh m l κ fro i → ∃ j ∈ firstS (fitsE m κ) l M fro n, keyE κ (atE l j) = keyE κ (atE l i)
  | 0, _, i, h1, h2, _ => by omega
  | n + 1, hlt, i, h1, h2, hi => by
    obtain ⟨t, ht⟩ := firstS_pre (fitsE m κ) l M fro n 1
    have hlt' : (firstS (fitsE m κ) l M fro n).length < M := by
      rw [ht, List.length_append] at hlt
      omega
    by_cases hin : i < fro + n
    · obtain ⟨j, hj, hk⟩ := firstS_cover hs hM n hlt' i h1 hin hi
      exact ⟨j, by rw [ht]; exact List.mem_append_left _ hj, hk⟩
    · have e : i = fro + n := by omega
      by_cases hf : fitsE m κ (atE l (fro + n)) ((firstS (fitsE m κ) l M fro n).map (atE l)) = true
      · refine ⟨i, ?_, rfl⟩
        simp only [firstS]
        rw [if_pos ⟨hlt', hf⟩, e]
        simp
      · rw [fitsE_eq, ← e, hi.1, Bool.true_and, List.all_eq_true] at hf
        simp only [Classical.not_forall] at hf
        obtain ⟨y, hy, hno⟩ := hf
        obtain ⟨j, hj, rfl⟩ := List.mem_map.1 hy
        refine ⟨j, by rw [ht]; exact List.mem_append_left _ hj, ?_⟩
        have hc := cls_trans (cls_symm (firstS_sh hs hM n j hj).2) hi.2
        by_cases hk : keyE κ (atE l j) = keyE κ (atE l i)
        · exact hk
        · exact absurd (tog_iff.2 ⟨hk, hc⟩) hno
theorem firstS_many (hs : showE m κ (atE l fro) = true) (hM : 0 < M) (n : Nat) (h : List Nat) (hk : (h.map fun i => keyE κ (atE l i)).Pairwise (· ≠ ·)) (hb : ∀ i ∈ h, fro ≤ i ∧ i < fro + n ∧ Sh m l κ fro i) : min M h.length ≤ (firstS (fitsE m κ) l M fro n).length := by
  by_cases hlt : (firstS (fitsE m κ) l M fro n).length < M
  · have := nodup_le (h.map fun i => keyE κ (atE l i)) ((firstS (fitsE m κ) l M fro n).map fun i => keyE κ (atE l i)) hk fun x hx => by
      obtain ⟨i, hi, rfl⟩ := List.mem_map.1 hx
      obtain ⟨b1, b2, b3⟩ := hb i hi
      obtain ⟨j, hj, hjk⟩ := firstS_cover hs hM n hlt i b1 b2 b3
      exact List.mem_map.2 ⟨j, hj, hjk⟩
    rw [List.length_map, List.length_map] at this
    omega
  · omega
end
theorem many_pos (κ : Int) : 0 < manyE κ := by
  unfold manyE
  split
  · omega
  · split <;> omega
end Go.Pv
