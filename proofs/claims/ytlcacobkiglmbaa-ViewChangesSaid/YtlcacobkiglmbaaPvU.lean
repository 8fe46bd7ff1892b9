/- The arguments of a row, as abstract values: nothing is the call's own. -/
import Derived.Test.YtlcacobkiglmbaaPvS
import Derived.ChangeArms
set_option linter.unusedVariables false
set_option linter.unusedSimpArgs false
namespace Go.Pv
open Go

def E0 (w : World) : Env := ⟨fun _ => none, fun b o => ∃ v, w.cell? ⟨b, o, none⟩ = some v, fun _ => none⟩
theorem inv0 (w : World) : InvS w (E0 w) (fun _ => none) (fun _ => .unused) :=
  ⟨by simp, by simp, by simp, by simp, by simp, fun b o h => h, ⟨0, fun id _ => ⟨rfl, rfl⟩⟩⟩
/-- Cells, one by one. -/
structure RelL (w : World) (E : Env) (xs : List A) (cs : List Value) : Prop where
  len : cs.length = xs.length
  one : ∀ j, j < xs.length → (cs.getD j Go.undef).oneCell' = true
  rel : ∀ j x, xs[j]? = some x → Rel w E x (cs.getD j Go.undef)
theorem RelL.single {w : World} {E : Env} {x : A} {v : Value} (h : Rel w E x v) (h1 : v.oneCell' = true) : RelL w E [x] [v] := by
  refine ⟨rfl, fun j hj => ?_, fun j y hy => ?_⟩
  · obtain rfl : j = 0 := by simpa using hj
    exact h1
  · cases j with
    | zero => simp at hy; subst hy; simpa using h
    | succ j => simp at hy
theorem RelL.app {w : World} {E : Env} {a b : List A} {cs : List Value} {o k k' : Nat} (h : RelL w E a ((cs.drop o).take k)) (h' : RelL w E b ((cs.drop (o + k)).take k')) (hk : a.length = k) : RelL w E (a ++ b) ((cs.drop o).take (k + k')) := by
  have hl := h.len
  have hl' := h'.len
  simp only [List.length_take, List.length_drop] at hl hl'
  have e1 : ∀ j, j < a.length → ((cs.drop o).take (k + k')).getD j Go.undef = ((cs.drop o).take k).getD j Go.undef := by
    intro j hj
    simp only [List.getD_eq_getElem?_getD, List.getElem?_take]
    rw [if_pos (by omega), if_pos (by omega)]
  have e2 : ∀ j, j < b.length → ((cs.drop o).take (k + k')).getD (a.length + j) Go.undef = ((cs.drop (o + k)).take k').getD j Go.undef := by
    intro j hj
    simp only [List.getD_eq_getElem?_getD, List.getElem?_take, List.getElem?_drop]
    rw [if_pos (by omega), if_pos (by omega), hk, Nat.add_assoc]
  refine ⟨by simp; omega, fun j hj => ?_, fun j x hx => ?_⟩
  · simp only [List.length_append] at hj
    by_cases hja : j < a.length
    · rw [e1 j hja]; exact h.one j hja
    · obtain ⟨i, rfl⟩ : ∃ i, j = a.length + i := ⟨j - a.length, by omega⟩
      rw [e2 i (by omega)]; exact h'.one i (by omega)
  · by_cases hja : j < a.length
    · rw [List.getElem?_append_left hja] at hx
      rw [e1 j hja]; exact h.rel j x hx
    · obtain ⟨i, rfl⟩ : ∃ i, j = a.length + i := ⟨j - a.length, by omega⟩
      rw [List.getElem?_append_right (by omega), Nat.add_sub_cancel_left] at hx
      rw [e2 i (List.getElem?_eq_some_iff.1 hx).1]
      exact h'.rel i x hx
/-- What reads as data of a type is some value of a kind. -/
def Opens {H : Type} (enc : TypeId × Value → H) (P : Program) (w : World) (t : TypeId) {α : Type} (f : α → List A) : Prop :=
  ∀ fuel cs d, DataW.trod enc P w 0 (fun _ => true) true fuel t cs = some d → ∃ x, RelL w (E0 w) (f x) cs
section
variable {H : Type} {enc : TypeId × Value → H} {P : Program} {w : World} {t : TypeId}
theorem opens_int {k : IntKind} (ht : P.underlying t = some (.int k)) : Opens enc P w t (fun n : Int => [.int k n]) := fun fuel cs d h => by
  obtain ⟨n, rfl, _, _⟩ := DataW.trod_int ht h
  exact ⟨n, .single (.int k n) rfl⟩
theorem opens_string (ht : P.underlying t = some .string) : Opens enc P w t (fun s : ByteArray => [.str s]) := fun fuel cs d h => by
  obtain ⟨s, rfl, _, _⟩ := DataW.trod_string ht h
  exact ⟨s, .single (.str s) rfl⟩
theorem cells_get {a : Addr} {n : Nat} {cs : List Value} (h : w.cells? 0 a n = some cs) : cs.length = n ∧ ∀ j, j < n → w.cell? (a.add j) = some (cs.getD j Go.undef) := by
  unfold World.cells? at h
  rw [if_pos (Nat.zero_le _)] at h
  obtain ⟨h1, h2⟩ := mapM_get h
  have hl : cs.length = n := by simpa using h1
  refine ⟨hl, fun j hj => ?_⟩
  obtain ⟨y, e1, e2⟩ := h2 j j (by simp [hj])
  rw [e2, List.getD_eq_getElem?_getD, e1]
  rfl
theorem choose_list {α : Type} {p : Nat → α → Prop} : ∀ n : Nat, (∀ i, i < n → ∃ x, p i x) → ∃ xs : List α, xs.length = n ∧ ∀ i x, xs[i]? = some x → p i x
  | 0, _ => ⟨[], rfl, by simp⟩
  | n + 1, h => by
    obtain ⟨xs, h1, h2⟩ := choose_list n fun i hi => h i (by omega)
    obtain ⟨x, hx⟩ := h n (by omega)
    refine ⟨xs ++ [x], by simp [h1], fun i y hy => ?_⟩
    by_cases hi : i < xs.length
    · rw [List.getElem?_append_left hi] at hy; exact h2 i y hy
    · have : i = xs.length := by
        have := (List.getElem?_eq_some_iff.1 hy).1
        simp at this
        omega
      subst this
      simp at hy
      subst hy
      rw [h1]
      exact hx
theorem opens_slice {e : TypeId} {α : Type} {f : α → List A} {n : Nat} (ht : P.underlying t = some (.slice e)) (hn : P.cellsOf e = n) (hpos : 0 < n) (hf : ∀ x, (f x).length = n) (he : Opens enc P w e f) : Opens enc P w t (fun xs : List α => [.sl n (xs.map f) .no]) := fun fuel cs d h => by
  rcases DataW.trod_slice ht h with ⟨rfl, _⟩ | ⟨a, len, cap, elems, rest, m, _, rfl, _, _, hl, hm, hlen, hel, _, _⟩
  · exact ⟨[], .single (.sl n [] .no none 0 (fun _ _ => Go.undef) (by simp) (by simp [maxLen]) (by simp) (by simp) (by simp) (by simp) (by simp)) rfl⟩
  · have each : ∀ i, i < len → ∃ x : α, ∃ vs : List Value, w.cells? 0 (a.add (i * n)) n = some vs ∧ RelL w (E0 w) (f x) vs := by
      intro i hi
      have h1 := hel i hi
      rw [hn, List.getElem?_eq_getElem (by omega), Option.bind_eq_some_iff] at h1
      obtain ⟨vs, h2, h3⟩ := h1
      obtain ⟨x, hx⟩ := he m vs _ h3
      exact ⟨x, vs, h2, hx⟩
    obtain ⟨xs, hxl, hx⟩ := choose_list len each
    refine ⟨xs, .single ?_ rfl⟩
    have hget : ∀ i j, i < len → j < n → ∃ b o, some a = some ⟨b, o, none⟩ ∧ w.cell? ⟨b, o + (i * n + j), none⟩ = some ((w.cell? ⟨a.block, a.off + (i * n + j), none⟩).getD Go.undef) := by
      intro i j hi hj
      obtain ⟨x, vs, h2, h3⟩ := each 0 (by omega)
      have h4 := (cells_get h2).2 0 hpos
      have hsp : a.spot = none := by
        simp only [Nat.zero_mul, Addr.add, if_true] at h4
        unfold World.cell? at h4
        split at h4
        · split at h4
          · cases h4
          · rename_i hs
            simpa using hs
        · cases h4
      obtain ⟨x, vs, h2, h3⟩ := each i hi
      have h5 := (cells_get h2).2 j hj
      have h6 : (a.add (i * n)).add j = ⟨a.block, a.off + (i * n + j), none⟩ := by
        obtain ⟨b, o, sp⟩ := a
        simp only at hsp
        subst hsp
        simp only [Addr.add]
        split <;> split <;> simp_all <;> omega
      rw [h6] at h5
      refine ⟨a.block, a.off, by rw [← hsp], ?_⟩
      rw [h5]
      rfl
    have hcell : ∀ (i : Nat) (vs : List Value), i < len → w.cells? 0 (a.add (i * n)) n = some vs → ∀ j, j < n → (w.cell? ⟨a.block, a.off + (i * n + j), none⟩).getD Go.undef = vs.getD j Go.undef := by
      intro i vs hi h2 j hj
      obtain ⟨b, o, hab, _⟩ := hget i j hi hj
      have h5 := (cells_get h2).2 j hj
      have h6 : (a.add (i * n)).add j = ⟨a.block, a.off + (i * n + j), none⟩ := by
        cases hab
        simp only [Addr.add]
        split <;> split <;> simp_all <;> omega
      rw [h6] at h5
      rw [h5]
      rfl
    have e : len = (xs.map f).length := by simp [hxl]
    rw [e]
    refine .sl n (xs.map f) .no (some a) cap (fun i j => (w.cell? ⟨a.block, a.off + (i * n + j), none⟩).getD Go.undef) (by omega) hm (by simp) (by simp) ?_ ?_ ?_
    · intro i c hc
      rw [List.getElem?_map, Option.map_eq_some_iff] at hc
      obtain ⟨x, _, rfl⟩ := hc
      exact hf x
    · intro i j hi hj
      have hi' : i < len := by omega
      obtain ⟨b, o, hab, hc⟩ := hget i j hi' hj
      refine ⟨b, o, hab, ⟨_, hc⟩, hc, ?_⟩
      obtain ⟨vs, h2, h3⟩ := hx i xs[i] (List.getElem?_eq_getElem (by omega))
      have := hcell i vs hi' h2 j hj
      rw [this]
      exact h3.one j (by rw [hf]; exact hj)
    · intro i c j x hc hxj
      rw [List.getElem?_map, Option.map_eq_some_iff] at hc
      obtain ⟨y, hy, rfl⟩ := hc
      have hi' : i < len := by rw [← hxl]; exact (List.getElem?_eq_some_iff.1 hy).1
      obtain ⟨vs, h2, h3⟩ := hx i y hy
      have hj : j < n := by rw [← hf y]; exact (List.getElem?_eq_some_iff.1 hxj).1
      rw [hcell i vs hi' h2 j hj]
      exact h3.rel j x hxj

/-- A struct's fields: type, offset, cells. -/
def fieldsOf (P : Program) (t : TypeId) : Option (List (TypeId × Nat × Nat)) := match P.underlying t with
  | some (.struct fs) => some (fs.toList.map fun f => (f.type, f.offset, P.cellsOf f.type))
  | _ => none
theorem opens_fields {l : List (TypeId × Nat × Nat)} (hl : fieldsOf P t = some l) {fuel : Nat} {cs : List Value} {d : DataW H × List MemPlace} (h : DataW.trod enc P w 0 (fun _ => true) true fuel t cs = some d) :
    cs.length = P.cellsOf t ∧ ∀ (i u o n : Nat), l[i]? = some (u, o, n) → ∃ m d', DataW.trod enc P w 0 (fun _ => true) true m u ((cs.drop o).take n) = some d' := by
  unfold fieldsOf at hl
  split at hl
  · rename_i fs hu
    cases hl
    obtain ⟨xs, m, rfl, _, h1, h2, h3⟩ := DataW.trod_struct hu h
    refine ⟨h1, fun i u o n hi => ?_⟩
    rw [List.getElem?_map, Option.map_eq_some_iff] at hi
    obtain ⟨f, hf, he⟩ := hi
    cases he
    have hf' : fs[i]? = some f := by simpa using hf
    have := h3 i f hf'
    have hlt : i < xs.length := by rw [h2]; exact (Array.getElem?_eq_some_iff.1 hf').1
    rw [List.getElem?_eq_getElem hlt] at this
    exact ⟨m, _, this⟩
  · cases hl
theorem RelL.whole {w : World} {E : Env} {xs : List A} {cs : List Value} {n : Nat} (h : RelL w E xs ((cs.drop 0).take n)) (hn : cs.length = n) : RelL w E xs cs := by
  rw [List.drop_zero, List.take_of_length_le (by omega)] at h
  exact h
theorem RelL.agg {w : World} {E : Env} {xs : List A} {vs : Array Value} (h : RelL w E xs vs.toList) : Rel w E (.agg xs) (.agg vs) := by
  have e : ∀ j, vs.toList.getD j Go.undef = vs.getD j Go.undef := fun j => by simp [List.getD_eq_getElem?_getD, Array.getD_eq_getD_getElem?]
  exact .agg xs vs (by have := h.len; simpa using this) (fun j hj => by rw [← e]; exact h.one j hj) (fun j x hx => by rw [← e]; exact h.rel j x hx)
theorem RelL.one_cell {w : World} {E : Env} {x : A} {v : Value} (h : RelL w E [x] [v]) : Rel w E x v := by simpa using h.rel 0 x rfl
end
end Go.Pv
