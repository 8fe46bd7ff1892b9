/- The order of strings, and of a map's Ids. -/
import Derived.Test.YtlcacobkiglmbaaEvG
set_option linter.unusedVariables false
set_option linter.unusedSimpArgs false
namespace Go.Pv
open Go

theorem bl_total : ∀ x y : List UInt8, (!Op.bytesLess x y) = (Op.bytesLess y x || decide (x = y))
  | [], [] => rfl
  | [], b :: y => rfl
  | a :: x, [] => rfl
  | a :: x, b :: y => by
    have ih := bl_total x y
    have e : decide (a :: x = b :: y) = (decide (a = b) && decide (x = y)) := by rw [← Bool.decide_and]; exact decide_eq_decide.2 (by simp)
    unfold Op.bytesLess
    rw [e]
    by_cases h : a = b
    · subst h
      have hl : decide (a < a) = false := decide_eq_false (UInt8.lt_irrefl a)
      simp only [hl, beq_self_eq_true, Bool.false_or, Bool.true_and, decide_true, ih]
    · have hn : (a == b) = false := by simpa using h
      have hn' : (b == a) = false := by simpa using fun e => h e.symm
      have ht : (!decide (a < b)) = decide (b < a) := by
        rw [Bool.eq_iff_iff]
        simp only [Bool.not_eq_true', decide_eq_false_iff_not, decide_eq_true_eq]
        rw [UInt8.not_lt]
        constructor
        · intro h2
          rcases UInt8.lt_or_eq_of_le h2 with h3 | h3
          · exact h3
          · exact absurd h3.symm h
        · exact UInt8.le_of_lt
      simp only [hn, hn', Bool.false_and, Bool.or_false, decide_eq_false h, ht]
theorem lt_total (a b : ByteArray) : (!ltS a b) = leS b a := by
  unfold leS ltS
  rw [bl_total]
  congr 1
  rw [Bool.eq_iff_iff, decide_eq_true_eq, decide_eq_true_eq]
  constructor
  · intro h
    exact (ByteArray.ext (Array.toList_inj.1 h)).symm
  · intro h
    rw [h]
theorem bl_irrefl : ∀ x : List UInt8, Op.bytesLess x x = false
  | [] => rfl
  | a :: x => by
    have hl : decide (a < a) = false := decide_eq_false (UInt8.lt_irrefl a)
    unfold Op.bytesLess
    rw [hl, bl_irrefl x]
    simp
theorem bl_trans : ∀ x y z : List UInt8, Op.bytesLess x y = true → Op.bytesLess y z = true → Op.bytesLess x z = true
  | x, [], z, h, _ => by cases x <;> simp [Op.bytesLess] at h
  | x, b :: y, [], _, h => by simp [Op.bytesLess] at h
  | [], b :: y, c :: z, _, _ => rfl
  | a :: x, b :: y, c :: z, h1, h2 => by
    unfold Op.bytesLess at h1 h2 ⊢
    simp only [Bool.or_eq_true, Bool.and_eq_true, decide_eq_true_eq, beq_iff_eq] at h1 h2 ⊢
    rcases h1 with h1 | ⟨h1, h1'⟩
    · rcases h2 with h2 | ⟨h2, _⟩
      · exact .inl (UInt8.lt_trans h1 h2)
      · subst h2; exact .inl h1
    · subst h1
      rcases h2 with h2 | ⟨h2, h2'⟩
      · exact .inl h2
      · exact .inr ⟨h2, bl_trans x y z h1' h2'⟩
theorem le_false {a b : ByteArray} (h : leS b a = false) : ltS a b = true := by
  have := lt_total a b
  rw [h] at this
  simpa using this
theorem chain_lt : ∀ {l : List Obj} {a : ByteArray}, chain inMap Obj.id a l = true → (∀ o ∈ l, ltS a o.id = true) ∧ l.Pairwise fun o p => ltS o.id p.id = true
  | [], _, _ => ⟨fun o h => (by cases h), .nil⟩
  | x :: l, a, h => by
    simp only [chain, Bool.and_eq_true] at h
    obtain ⟨h1, h2⟩ := h
    obtain ⟨g1, g2⟩ := chain_lt h2
    unfold inMap at h1
    simp only [Bool.and_eq_true, Bool.not_eq_true'] at h1
    have hx := le_false h1.2
    refine ⟨fun o ho => ?_, List.pairwise_cons.2 ⟨g1, g2⟩⟩
    rcases List.mem_cons.1 ho with rfl | ho
    · exact hx
    · exact bl_trans _ _ _ hx (g1 o ho)
theorem map_ids {m : List Obj} (h : mapV m = true) : m.Pairwise fun o p => o.id ≠ p.id := by
  unfold mapV at h
  rw [Bool.and_eq_true] at h
  refine (chain_lt h.1).2.imp fun {o p} hl e => ?_
  rw [e] at hl
  unfold ltS at hl
  rw [bl_irrefl] at hl
  cases hl
theorem lt_of_le {a b : ByteArray} (h : leS a b = true) : ltS b a = false := by
  have := lt_total b a
  rw [h] at this
  simpa using this
theorem lt_irrefl (a : ByteArray) : ltS a a = false := bl_irrefl _
theorem lt_trans {a b c : ByteArray} (h : ltS a b = true) (h' : ltS b c = true) : ltS a c = true := bl_trans _ _ _ h h'
theorem not_le_of_lt {a b : ByteArray} (h : ltS a b = true) : leS b a = false := by
  have := lt_total a b
  rw [h] at this
  simpa using this.symm
theorem chain_iff : ∀ {l : List Obj} {a : ByteArray}, chain inMap Obj.id a l = true ↔ (∀ o ∈ l, objV o = true) ∧ (∀ o ∈ l, ltS a o.id = true) ∧ l.Pairwise fun o p => ltS o.id p.id = true
  | [], _ => by simp [chain]
  | x :: l, a => by
    constructor
    · intro h
      refine ⟨?_, chain_lt h⟩
      simp only [chain, Bool.and_eq_true] at h
      have h1 := h.1
      unfold inMap at h1
      simp only [Bool.and_eq_true, Bool.not_eq_true'] at h1
      intro o ho
      rcases List.mem_cons.1 ho with rfl | ho
      · exact h1.1
      · exact (chain_iff.1 h.2).1 o ho
    · rintro ⟨h1, h2, h3⟩
      rw [List.pairwise_cons] at h3
      simp only [chain, Bool.and_eq_true]
      refine ⟨?_, chain_iff.2 ⟨fun o ho => h1 o (List.mem_cons_of_mem _ ho), h3.1, h3.2⟩⟩
      unfold inMap
      rw [h1 x (List.mem_cons_self ..), not_le_of_lt (h2 x (List.mem_cons_self ..))]
      rfl
theorem mapV_filter {m : List Obj} (h : mapV m = true) (q : Obj → Bool) : mapV (m.filter q) = true := by
  unfold mapV at h ⊢
  simp only [Bool.and_eq_true, decide_eq_true_eq] at h ⊢
  obtain ⟨h1, h2, h3⟩ := chain_iff.1 h.1
  refine ⟨chain_iff.2 ⟨fun o ho => h1 o (List.mem_filter.1 ho).1, fun o ho => h2 o (List.mem_filter.1 ho).1, h3.filter _⟩, Nat.le_trans (List.length_filter_le _ _) h.2⟩
theorem id_inj {m : List Obj} (h : mapV m = true) {o p : Obj} (ho : o ∈ m) (hp : p ∈ m) (he : o.id = p.id) : o = p := by
  have hd := map_ids h
  clear h
  induction hd with
  | nil => cases ho
  | cons hx _ ih =>
    rcases List.mem_cons.1 ho with rfl | ho'
    · rcases List.mem_cons.1 hp with rfl | hp'
      · rfl
      · exact absurd he (hx p hp')
    · rcases List.mem_cons.1 hp with rfl | hp'
      · exact absurd he.symm (hx o ho')
      · exact ih ho' hp'
end Go.Pv
