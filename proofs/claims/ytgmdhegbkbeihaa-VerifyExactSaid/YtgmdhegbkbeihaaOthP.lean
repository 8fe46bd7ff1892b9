/- VerifyOthers: the plain law. -/
import Derived.Test.YtgmdhegbkbeihaaOthA
import Derived.Test.YtgmdhegbkbeihaaPvV
set_option linter.unusedVariables false
set_option linter.unusedSimpArgs false
namespace Go.Pv
open Go

def nmd (names : List ByteArray) (o : Obj) : Bool := names.any fun x => decide (x = o.id)
def bareF (names : List ByteArray) (m : List Obj) : List Obj := m.filter (nmd names)
def harmlessE (e : Edit) : Bool := !decide (e.op = 5) && !decide (e.op = 3) && !decide (e.op = 2) && !decide (e.op = 1)
theorem objF_bare (names : List ByteArray) (m : List Obj) (i : ByteArray) (h : names.any (fun x => decide (x = i)) = true) : objF (bareF names m) i = objF m i := by
  unfold objF bareF
  rw [List.find?_filter]
  have : (fun a : Obj => decide (nmd names a = true ∧ decide (a.id = i) = true)) = fun a : Obj => decide (a.id = i) := by
    funext a
    by_cases e : a.id = i
    · simp [e, nmd, h]
    · simp [e]
  rw [this]
theorem showsF_bare (k : Int) (names : List ByteArray) (m : List Obj) (e : Edit) (h : names.any (fun x => decide (x = e.id)) = true) : showsF k (bareF names m) e = showsF k m e := by
  have ho := objF_bare names m e.id h
  unfold showsF
  split
  · simp only [droppedF, ho]
  · split
    · simp only [blankedF, ho]
    · split
      · simp only [movedF, ho]
      · rfl
theorem goF_shows (sh sh' : Edit → Bool) (tog : Edit → Edit → Bool) (l : List Edit) : ∀ (es : List Int) (shown : List Edit) (last : Int), -1 ≤ last → (∀ i ∈ es, ∀ x, 0 ≤ i → l[i.toNat]? = some x → sh x = sh' x) → goF sh tog l es shown last = goF sh' tog l es shown last
  | [], _, _, _, _ => rfl
  | i :: r, shown, last, hl, h => by
    rw [goF_cons, goF_cons]
    by_cases h1 : last < i
    · cases hx : l[i.toNat]? with
      | none => rfl
      | some x =>
        simp only [h i (by simp) x (by omega) hx, goF_shows sh sh' tog l r (shown ++ [x]) i (by omega) fun j hj y h2 h3 => h j (by simp [hj]) y h2 h3]
    · simp [h1]
theorem names_has (l : List Edit) (es : List Int) {i : Int} (hi : i ∈ es) (h0 : 0 ≤ i) {x : Edit} (hx : l[i.toNat]? = some x) : (namesF l es).any (fun y => decide (y = x.id)) = true := by
  rw [List.any_eq_true]
  refine ⟨x.id, ?_, by simp⟩
  unfold namesF
  rw [List.mem_filterMap]
  refine ⟨i, hi, ?_⟩
  have := (List.getElem?_eq_some_iff.1 hx).1
  unfold nameAt
  rw [if_pos ⟨h0, by omega⟩, hx]
  rfl
theorem accept_bare (m : List Obj) (l : List Edit) (kd : Int) (es : List Int) : acceptF (bareF (namesF l es) m) l ⟨kd, es⟩ = acceptF m l ⟨kd, es⟩ := by
  unfold acceptF
  rw [goF_shows (showsF kd (bareF (namesF l es) m)) (showsF kd m) (togF kd) l es [] (-1) (by omega) fun i hi x h0 hx => showsF_bare kd _ m x (names_has l es hi h0 hx)]
theorem shows_not_harmless (k : Int) (m : List Obj) (e : Edit) (h : showsF k m e = true) : harmlessE e = false := by
  unfold showsF at h
  unfold harmlessE
  split at h
  · simp [droppedF] at h; simp [h]
  · split at h
    · simp [blankedF] at h; simp [h]
    · split at h
      · simp [movedF] at h; simp [h]
      · simp [putF] at h; simp [h]
theorem accept_harmless (m : List Obj) (l : List Edit) (e : Evid) (h : l.all harmlessE = true) : acceptF m l e = false := by
  obtain ⟨kd, es⟩ := e
  cases hb : acceptF m l ⟨kd, es⟩ with
  | false => rfl
  | true =>
    exfalso
    unfold acceptF at hb
    simp only [Bool.and_eq_true, decide_eq_true_eq] at hb
    obtain ⟨⟨⟨⟨h1, h2⟩, h3⟩, h4⟩, h5⟩ := hb
    cases es with
    | nil =>
      unfold manyF at h3
      simp at h3
      split at h3
      · omega
      · split at h3 <;> omega
    | cons i r =>
      rw [goF_cons] at h4
      simp only [Bool.and_eq_true] at h4
      obtain ⟨_, h6⟩ := h4
      split at h6
      · rename_i x hx
        simp only [Bool.and_eq_true] at h6
        have := shows_not_harmless _ _ _ h6.1.1
        rw [List.all_eq_true.1 h x (List.mem_of_getElem? hx)] at this
        cases this
      · cases h6
theorem goF_more (sh : Edit → Bool) (tog : Edit → Edit → Bool) (l : List Edit) (x : Edit) : ∀ (es : List Int) (shown : List Edit) (last : Int), -1 ≤ last → (∀ i ∈ es, i < l.length) → goF sh tog (l ++ [x]) es shown last = goF sh tog l es shown last
  | [], _, _, _, _ => rfl
  | i :: r, shown, last, hl, h => by
    rw [goF_cons, goF_cons]
    have hi := h i (by simp)
    by_cases h1 : last < i
    · have h2 : i < (l ++ [x]).length := by simp; omega
      have hg : (l ++ [x])[i.toNat]? = l[i.toNat]? := List.getElem?_append_left (by omega)
      rw [hg]
      simp only [hi, h2, decide_true]
      cases hx : l[i.toNat]? with
      | none => rfl
      | some y => simp only [goF_more sh tog l x r (shown ++ [y]) i (by omega) fun j hj => h j (by simp [hj])]
    · simp [h1]
theorem accept_more (m : List Obj) (l : List Edit) (x : Edit) (kd : Int) (es : List Int) (hk : kd ≠ 1) (h : ∀ i ∈ es, i < (l.length : Int)) : acceptF m (l ++ [x]) ⟨kd, es⟩ = acceptF m l ⟨kd, es⟩ := by
  unfold acceptF
  rw [goF_more _ _ l x es [] (-1) (by omega) h]
  simp [hk]
end Go.Pv
