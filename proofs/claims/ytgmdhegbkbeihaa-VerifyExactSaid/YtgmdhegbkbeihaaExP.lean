/- VerifyExact: the plain law. -/
import Derived.Test.YtgmdhegbkbeihaaOthP
set_option linter.unusedVariables false
set_option linter.unusedSimpArgs false
namespace Go.Pv
open Go

theorem goF_true (sh : Edit → Bool) (tog : Edit → Edit → Bool) (l : List Edit) : ∀ (es : List Int) (shown : List Edit) (last : Int), goF sh tog l es shown last = true → (∀ i ∈ es, last < i ∧ i < (l.length : Int)) ∧ es.Pairwise (· < ·)
  | [], _, _, _ => ⟨by simp, .nil⟩
  | i :: r, shown, last, h => by
    rw [goF_cons] at h
    simp only [Bool.and_eq_true, decide_eq_true_eq] at h
    obtain ⟨⟨h1, h2⟩, h3⟩ := h
    split at h3
    · rename_i x hx
      simp only [Bool.and_eq_true] at h3
      obtain ⟨g1, g2⟩ := goF_true sh tog l r _ _ h3.2
      refine ⟨fun j hj => ?_, List.pairwise_cons.2 ⟨fun j hj => (g1 j hj).1, g2⟩⟩
      rcases List.mem_cons.1 hj with rfl | hj
      · exact ⟨h1, h2⟩
      · exact ⟨by have := (g1 j hj).1; omega, (g1 j hj).2⟩
    · cases h3
theorem accept_true {m : List Obj} {l : List Edit} {kd : Int} {es : List Int} (h : acceptF m l ⟨kd, es⟩ = true) : (es.length : Int) = manyF kd ∧ 3 ≤ es.length ∧ es.length ≤ 5 ∧ (∀ i ∈ es, 0 ≤ i ∧ i < (l.length : Int)) ∧ es.Pairwise (· < ·) := by
  unfold acceptF at h
  simp only [Bool.and_eq_true, decide_eq_true_eq] at h
  obtain ⟨⟨⟨⟨h1, h2⟩, h3⟩, h4⟩, h5⟩ := h
  obtain ⟨g1, g2⟩ := goF_true _ _ _ _ _ _ h4
  have : 3 ≤ manyF kd ∧ manyF kd ≤ 5 := by
    unfold manyF
    split
    · omega
    · split <;> omega
  exact ⟨h3, by omega, by omega, fun i hi => ⟨by have := (g1 i hi).1; omega, (g1 i hi).2⟩, g2⟩
theorem accept_not {m : List Obj} {l : List Edit} {kd : Int} {es : List Int} (h : ¬ ((es.length : Int) = manyF kd ∧ (∀ i ∈ es, 0 ≤ i ∧ i < (l.length : Int)) ∧ es.Pairwise (· < ·))) : acceptF m l ⟨kd, es⟩ = false := by
  cases hb : acceptF m l ⟨kd, es⟩ with
  | false => rfl
  | true =>
    obtain ⟨h1, h2, h3, h4, h5⟩ := accept_true hb
    exact absurd ⟨h1, h4, h5⟩ h
theorem accept_less {m m' : List Obj} {l : List Edit} {kd : Int} {es : List Int} (h : acceptF m l ⟨kd, es⟩ = true) {k : Nat} (hk : k < es.length) : acceptF m' l ⟨kd, es.take k ++ es.drop (k + 1)⟩ = false := by
  obtain ⟨h1, _⟩ := accept_true h
  refine accept_not fun ⟨h2, _⟩ => ?_
  simp only [List.length_append, List.length_take, List.length_drop] at h2
  omega
theorem accept_twice {m m' : List Obj} {l : List Edit} {kd : Int} {es : List Int} (h : acceptF m l ⟨kd, es⟩ = true) {k : Nat} (hk : k < es.length) : acceptF m' l ⟨kd, es.take (k + 1) ++ es.drop k⟩ = false := by
  obtain ⟨h1, _⟩ := accept_true h
  refine accept_not fun ⟨h2, _⟩ => ?_
  simp only [List.length_append, List.length_take, List.length_drop] at h2
  omega
theorem accept_far {m m' : List Obj} {l : List Edit} {kd : Int} {es : List Int} (h : acceptF m l ⟨kd, es⟩ = true) {x : Int} {j : Nat} (hj : j < es.length) (hx : x < 0 ∨ (l.length : Int) ≤ x) : acceptF m' l ⟨kd, es.set j x⟩ = false := by
  refine accept_not fun ⟨_, h2, _⟩ => ?_
  have := h2 x (List.mem_iff_getElem.2 ⟨j, by simpa using hj, by simp⟩)
  omega
theorem accept_swapped {m m' : List Obj} {l : List Edit} {kd : Int} {es : List Int} (h : acceptF m l ⟨kd, es⟩ = true) {k : Nat} (hk : k < es.length) (hj : (k + 1) % es.length < es.length) :
    acceptF m' l ⟨kd, (es.set k es[(k + 1) % es.length]).set ((k + 1) % es.length) es[k]⟩ = false := by
  obtain ⟨h1, h2, h3, _, h5⟩ := accept_true h
  have hp : ∀ (a b : Nat) (ha : a < es.length) (hb : b < es.length), a < b → es[a] < es[b] := fun a b ha hb hab => List.pairwise_iff_getElem.1 h5 a b ha hb hab
  refine accept_not fun ⟨_, _, h4⟩ => ?_
  have hq := List.pairwise_iff_getElem.1 h4
  by_cases hkn : k + 1 < es.length
  · have e : (k + 1) % es.length = k + 1 := Nat.mod_eq_of_lt hkn
    have := hq k (k + 1) (by simpa using hk) (by simpa using hkn) (by omega)
    simp only [e] at this
    rw [List.getElem_set_self, List.getElem_set_ne (by omega), List.getElem_set_self] at this
    have := hp k (k + 1) hk hkn (by omega)
    omega
  · have hk1 : k + 1 = es.length := by omega
    have e : (k + 1) % es.length = 0 := by rw [hk1, Nat.mod_self]
    have := hq 0 k (by simp; omega) (by simpa using hk) (by omega)
    simp only [e] at this
    rw [List.getElem_set_self, List.getElem_set_ne (by omega), List.getElem_set_self] at this
    have := hp 0 k (by omega) hk (by omega)
    omega
theorem strip_strip (x : A) : x.strip.strip = x.strip := by
  cases x with
  | sl e xs t => cases t <;> rfl
  | _ => rfl
/-- Boxes of whole numbers. -/
def intC (x : Int) : A := .int .i64 x
theorem flatS_ints (es : List Int) : flatS (es.map encInt) = es.map intC := by
  induction es with
  | nil => rfl
  | cons x es ih =>
    simp only [flatS, List.map_cons, List.flatten_cons] at ih ⊢
    rw [ih]
    rfl
theorem splice_ints (es : List Int) (R : List A) {j : Nat} (hj : j < es.length) (v : Int) : splice (es.map intC ++ R) j [.int .i64 v] = (es.set j v).map intC ++ R := by
  unfold splice
  have h1 : (es.map intC ++ R).take j = (es.take j).map intC := by
    rw [List.take_append_of_le_length (by simp; omega), List.map_take]
  have h2 : (es.map intC ++ R).drop (j + 1) = (es.drop (j + 1)).map intC ++ R := by
    rw [List.drop_append_of_le_length (by simp; omega), List.map_drop]
  simp only [List.length_cons, List.length_nil, Nat.zero_add]
  rw [h1, h2, List.set_eq_take_append_cons_drop, if_pos hj]
  simp [intC]
theorem fits_ints (es : List Int) (R : List A) {j : Nat} (hj : j < es.length) : (j + 1 ≤ (es.map intC ++ R).length) = True := by simp; omega
theorem frz_ints {s : Hp} {id c : Nat} (es : List Int) (R : List A) (h : s id = some (.cells (es.map intC ++ R))) : Frz s (fun _ => none) (.sb id 0 1 es.length c) (.sl 1 (es.map encInt) .no) := by
  refine .sb id 0 1 es.length c _ (es.map encInt) h rfl (by simp) (by simp) fun i x hx => ?_
  rw [List.getElem?_map, Option.map_eq_some_iff] at hx
  obtain ⟨y, hy, rfl⟩ := hx
  have hi := (List.getElem?_eq_some_iff.1 hy).1
  have : ((es.map intC ++ R).drop (0 + i * 1)).take 1 = [intC y] := by
    rw [Nat.zero_add, Nat.mul_one, List.drop_append_of_le_length (by simp; omega), ← List.map_drop, List.drop_eq_getElem_cons hi]
    have : es[i] = y := by rw [List.getElem?_eq_getElem hi] at hy; simpa using hy
    rw [this]
    rfl
  rw [this]
  rfl
end Go.Pv
