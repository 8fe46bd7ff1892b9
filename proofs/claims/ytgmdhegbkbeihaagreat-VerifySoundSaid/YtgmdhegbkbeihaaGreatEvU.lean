/- What is found holds: the plain law. -/
import Derived.Test.YtgmdhegbkbeihaaGreatEvT
set_option linter.unusedVariables false
set_option linter.unusedSimpArgs false
set_option maxRecDepth 4000
set_option maxHeartbeats 1000000
namespace Go.Pv
open Go

theorem findE_cases (m : List Obj) (l : List Edit) : (findE m l = ⟨0, []⟩ ∧ ∀ κ : Int, 1 ≤ κ → κ ≤ 4 → kindE m l κ = none) ∨ ∃ κ : Int, 1 ≤ κ ∧ κ ≤ 4 ∧ kindE m l κ = some (findE m l) ∧ ∀ κ' : Int, 1 ≤ κ' → κ' < κ → kindE m l κ' = none := by
  unfold findE
  simp only [List.findSome?]
  cases h1 : kindE m l 1
  · cases h2 : kindE m l 2
    · cases h3 : kindE m l 3
      · cases h4 : kindE m l 4
        · refine .inl ⟨rfl, fun κ a b => ?_⟩
          have : κ = 1 ∨ κ = 2 ∨ κ = 3 ∨ κ = 4 := by omega
          rcases this with rfl | rfl | rfl | rfl <;> assumption
        · refine .inr ⟨4, by omega, by omega, h4, fun κ a b => ?_⟩
          have : κ = 1 ∨ κ = 2 ∨ κ = 3 := by omega
          rcases this with rfl | rfl | rfl <;> assumption
      · refine .inr ⟨3, by omega, by omega, h3, fun κ a b => ?_⟩
        have : κ = 1 ∨ κ = 2 := by omega
        rcases this with rfl | rfl <;> assumption
    · refine .inr ⟨2, by omega, by omega, h2, fun κ a b => ?_⟩
      have : κ = 1 := by omega
      subst this
      assumption
  · exact .inr ⟨1, by omega, by omega, h1, fun κ a b => by omega⟩
theorem kindE_some {m : List Obj} {l : List Edit} {κ : Int} {e : Evid} (h : kindE m l κ = some e) : ¬ (κ = 1 ∧ 2 * dropsF l ≤ l.length) ∧ ∃ i, i < l.length ∧ (∀ i', i' < i → stopE m l κ i' = false) ∧ stopE m l κ i = true ∧ fullE m l κ i = true ∧ e = ⟨κ, (firstE m l κ i).map Int.ofNat⟩ := by
  unfold kindE at h
  split at h
  · cases h
  · rename_i hn
    refine ⟨hn, ?_⟩
    split at h
    · cases h
    · rename_i i hf
      split at h
      · rename_i hfull
        rw [List.find?_eq_some_iff_getElem] at hf
        obtain ⟨h1, j, hj, h2, h3⟩ := hf
        simp at hj h2
        subst h2
        cases h
        exact ⟨j, hj, fun i' hi' => by simpa using h3 i' hi', h1, hfull, rfl⟩
      · cases h
/-- What the indices that were taken are like. -/
structure Taken (m : List Obj) (l : List Edit) (κ : Int) (f : List Nat) : Prop where
  inc : f.Pairwise (· < ·)
  show_ : ∀ i ∈ f, showE m κ (atE l i) = true
  tog : f.Pairwise fun a b => togE κ (atE l a) (atE l b) = true
theorem firstS_taken (m : List Obj) (l : List Edit) (κ : Int) (many fro : Nat) : ∀ n, Taken m l κ (firstS (fitsE m κ) l many fro n)
  | 0 => ⟨.nil, (fun i h => by cases h), .nil⟩
  | n + 1 => by
    have ih := firstS_taken m l κ many fro n
    have hmem := firstS_mem (fitsE m κ) l many fro n
    simp only [firstS]
    split
    · rename_i h
      have hf := h.2
      unfold fitsE at hf
      rw [Bool.and_eq_true, List.all_eq_true] at hf
      refine ⟨?_, ?_, ?_⟩
      · rw [List.pairwise_append]
        refine ⟨ih.inc, List.pairwise_singleton _ _, fun a ha b hb => ?_⟩
        rw [List.mem_singleton.1 hb]
        exact (hmem a ha).2
      · intro i hi
        rcases List.mem_append.1 hi with hi | hi
        · exact ih.show_ i hi
        · rw [List.mem_singleton.1 hi]; exact hf.1
      · rw [List.pairwise_append]
        refine ⟨ih.tog, List.pairwise_singleton _ _, fun a ha b hb => ?_⟩
        rw [List.mem_singleton.1 hb]
        exact hf.2 _ (List.mem_map.2 ⟨a, ha, rfl⟩)
    · exact ih
theorem lookM_setM_ne {α : Type} {x y : ByteArray} (h : x ≠ y) (v : α) (m : List (ByteArray × α)) : lookM x (setM y v m) = lookM x m := by rw [lookM_set, if_neg h]
theorem setM_len {α : Type} {x : ByteArray} (v : α) : ∀ {m : List (ByteArray × α)}, lookM x m = none → (setM x v m).length = m.length + 1
  | [], _ => rfl
  | p :: m, h => by
    simp only [lookM] at h
    simp only [setM]
    split at h
    · cases h
    · rename_i hne
      rw [if_neg hne, List.length_cons, List.length_cons, setM_len v h]
theorem seenM_len : ∀ (l : List ByteArray) (m : List (ByteArray × Bool)), l.Pairwise (· ≠ ·) → (∀ x ∈ l, lookM x m = none) → (seenM l m).length = l.length + m.length
  | [], m, _, _ => by simp [seenM]
  | x :: l, m, h, hm => by
    obtain ⟨h1, h2⟩ := List.pairwise_cons.1 h
    simp only [seenM]
    rw [seenM_len l _ h2 fun y hy => by rw [lookM_setM_ne (fun e => h1 y hy e.symm)]; exact hm y (List.mem_cons_of_mem _ hy), setM_len _ (hm x List.mem_cons_self), List.length_cons]
    omega
theorem tog_key {κ : Int} {l : List Edit} {a b : Nat} (h : togE κ (atE l a) (atE l b) = true) : keyI l κ (a : Int) ≠ keyI l κ (b : Int) := by
  unfold keyI
  rw [Int.toNat_natCast, Int.toNat_natCast]
  unfold togE at h
  by_cases c : κ = 4
  · rw [if_pos c] at h
    rw [if_pos c, if_pos c]
    rw [Bool.and_eq_true] at h
    simpa using h.1
  · rw [if_neg c] at h
    rw [if_neg c, if_neg c]
    simpa using h
theorem ids_taken {m : List Obj} {l : List Edit} {κ : Int} {f : List Nat} (h : Taken m l κ f) : (idsL l κ (f.map Int.ofNat)).length = f.length := by
  unfold idsL
  rw [List.map_map, seenM_len _ _ ?_ fun x _ => rfl]
  · simp
  · rw [List.pairwise_map]
    exact h.tog.imp fun hab => tog_key hab
theorem holds_taken {m : List Obj} {l : List Edit} {κ : Int} {f : List Nat} (h1 : 1 ≤ κ) (h4 : κ ≤ 4) (hlen : f.length = manyE κ) (hd : ¬ (κ = 1 ∧ 2 * dropsF l ≤ l.length)) (hb : ∀ i ∈ f, i < l.length) (h : Taken m l κ f) : holdsF m l ⟨κ, f.map Int.ofNat⟩ = true := by
  unfold holdsF
  dsimp only
  rw [decide_eq_true h1, decide_eq_true h4, List.length_map, decide_eq_true hlen, decide_eq_true (ids_taken h)]
  have q4 : (!(decide (κ = 1) && decide (2 * dropsF l ≤ l.length))) = true := by
    rw [← Bool.decide_and, decide_eq_false hd]; rfl
  rw [q4]
  simp only [Bool.true_and, Bool.and_true]
  rw [List.all_eq_true]
  intro i hi
  have hi' : i < f.length := List.mem_range.1 hi
  have hget : ∀ j (hj : j < f.length), (f.map Int.ofNat).getD j 0 = ((f[j] : Nat) : Int) := fun j hj => by
    rw [List.getD_eq_getElem?_getD, List.getElem?_map, List.getElem?_eq_getElem hj]
    rfl
  unfold okI
  rw [hget i hi']
  refine okX_yes (by omega) ?_ ?_ ?_ ?_
  · have := hb f[i] (List.getElem_mem hi')
    omega
  · by_cases c : i = 0
    · exact .inl c
    · rw [hget (i - 1) (by omega)]
      have := List.pairwise_iff_getElem.1 h.inc (i - 1) i (by omega) hi' (by omega)
      exact .inr (by omega)
  · rw [Int.toNat_natCast]
    exact h.show_ _ (List.getElem_mem hi')
  · by_cases c : κ = 4
    · refine .inr ?_
      unfold alikeX
      rw [hget 0 (by omega), Int.toNat_natCast, Int.toNat_natCast]
      by_cases c0 : i = 0
      · subst c0
        simp
      · have := List.pairwise_iff_getElem.1 h.tog 0 i (by omega) hi' (by omega)
        unfold togE at this
        rw [if_pos c] at this
        simp only [Bool.and_eq_true, decide_eq_true_eq] at this
        obtain ⟨_, ⟨e1, e2⟩, e3⟩ := this
        rw [e1, e2, e3]
        simp
    · exact .inl c
theorem find_holds (m : List Obj) (l : List Edit) : findE m l = ⟨0, []⟩ ∨ ((findE m l).kind ≠ 0 ∧ 3 ≤ l.length ∧ holdsF m l (findE m l) = true) := by
  rcases findE_cases m l with ⟨h, _⟩ | ⟨κ, h1, h4, hk, _⟩
  · exact .inl h
  · obtain ⟨hd, i, hi, _, _, hfu, he⟩ := kindE_some hk
    refine .inr ?_
    rw [he]
    have hlen : (firstE m l κ i).length = manyE κ := by
      unfold fullE at hfu
      simpa using hfu
    have ht : Taken m l κ (firstE m l κ i) := firstS_taken m l κ (manyE κ) i _
    have hb : ∀ x ∈ firstE m l κ i, x < l.length := fun x hx => by
      have := (firstS_mem (fitsE m κ) l (manyE κ) i (l.length - i) x hx).2
      omega
    have hle : (firstE m l κ i).length ≤ l.length - i := firstS_len (fitsE m κ) l (manyE κ) i (l.length - i)
    have h3 : 3 ≤ manyE κ := by
      unfold manyE
      split
      · omega
      · split <;> omega
    refine ⟨?_, by omega, holds_taken h1 h4 hlen hd hb ht⟩
    dsimp only
    omega
end Go.Pv
