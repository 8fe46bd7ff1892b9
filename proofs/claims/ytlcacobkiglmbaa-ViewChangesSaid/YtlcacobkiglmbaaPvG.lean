/- Each operation of the program that has a compact form does what that form says. -/
import Derived.Test.YtlcacobkiglmbaaPvF
set_option linter.unusedVariables false
set_option linter.unusedSimpArgs false
namespace Go.Pv
open Go

/-- An operation comes to a value, at once or by a call. -/
def Good (P : Program) (w : World) (N : Value → World → Prop) (s : Sem Next) : Prop :=
  match s.run P w with
  | .ok (.value v) w' => N v w'
  | .ok .skip w' => N Go.undef w'
  | .ok (.enter f args) w' => Calls P f args w' fun e w'' => ∃ v, e = .returned v ∧ N v w''
  | _ => False
theorem upon_calls {P : Program} {f : FuncId} {args : Array Value} {w : World} {next : Value → World → Prop} {R : Ending → World → Prop} (hR : ∀ v w', next v w' → R (.returned v) w')
    (h : Calls P f args w fun e w'' => ∃ v, e = .returned v ∧ next v w'') : Calls P f args w R :=
  Calls.mono h fun e w'' h' => by
    obtain ⟨v, rfl, hv⟩ := h'
    exact hR v w'' hv
theorem wp_good {P : Program} {o : Oper} {a : Act} {w : World} {next : Act → World → Prop} {Q : Exit → Act → World → Prop} (h : Good P w (fun v w' => next (a.put o.dst v) w') (execOp a.eval o)) : o.wp P a w next Q := by
  unfold Oper.wp
  unfold Good at h
  cases hr : (execOp a.eval o).run P w with
  | halt x w' => rw [hr] at h; exact h.elim
  | ok n w' =>
    rw [hr] at h
    cases n with
    | value v => rw [Oper.upon_value]; exact h
    | skip => rw [Oper.upon_skip]; exact h
    | enter f args =>
      rw [Oper.upon_enter]
      exact upon_calls (next := fun v w' => next (a.put o.dst v) w') (fun v w' hv => hv) h
    | _ => exact h.elim
theorem good_value {P : Program} {w w' : World} {N : Value → World → Prop} {s : Sem Next} {v : Value} (h : s.run P w = .ok (.value v) w') (hN : N v w') : Good P w N s := by
  unfold Good
  rw [h]
  exact hN
theorem good_enter {P : Program} {w w' : World} {N : Value → World → Prop} {s : Sem Next} {f : FuncId} {args : Array Value} (h : s.run P w = .ok (.enter f args) w')
    (hN : Calls P f args w' fun e w'' => ∃ v, e = .returned v ∧ N v w'') : Good P w N s := by
  unfold Good
  rw [h]
  exact hN
theorem good_v {P : Program} {w w' : World} {N : Value → World → Prop} {s : Sem Value} {v : Value} (h : s.run P w = .ok v w') (hN : N v w') : Good P w N (do pure (.value (← s))) :=
  good_value (v := v) (by simp [h]) hN
theorem good_u {P : Program} {w w' : World} {N : Value → World → Prop} {s : Sem Unit} (h : s.run P w = .ok () w') (hN : N Go.undef w') : Good P w N (do s; pure .skip) := by
  unfold Good
  simp only [Sem.run_bind, h, Result.andThen_ok, Sem.run_pure]
  exact hN

/-! ### Operands -/
def eszOf (P : Program) (t : TypeId) : Nat :=
  match P.underlying t with
  | some (.slice e) => ((P.info? e).map (·.size)).getD 0
  | _ => 0
def constA (P : Program) (t : TypeId) : Value → Option A
  | .int k n => some (.int k n)
  | .bool b => some (.bool b)
  | .string s => some (.str s)
  | .slice none 0 0 => some (.sl (eszOf P t) [] .nil)
  | .nilFunc => some .nilfn
  | .pointer none => some .nilptr
  | .map none => some .nilmap
  | _ => none
def opdA (P : Program) (t : TypeId) : Operand → Option Opd
  | .tmp i => some (.t i)
  | .const v => (constA P t v).map .c
  | .func f => some (.c (.fn f []))
  | .global _ => none
theorem constA_rel {P : Program} {t : TypeId} {v : Value} {x : A} (h : constA P t v = some x) (w : World) (E : Env) : Rel w E x v ∧ (∀ esz xs g e, x ≠ .sl esz xs (.own g e)) ∧ v.oneCell' = true := by
  unfold constA at h
  split at h <;> first | (cases h; done) | (injection h with h; subst h)
  · exact ⟨.int .., by simp, rfl⟩
  · exact ⟨.bool _, by simp, rfl⟩
  · exact ⟨.str _, by simp, rfl⟩
  · exact ⟨.sl _ [] .nil none 0 (fun _ _ => Go.undef) (by simp) (by simp [maxLen]) (by simp) (by simp) (by simp) (by simp) (by simp), by simp, rfl⟩
  · exact ⟨.nilfn, by simp, rfl⟩
  · exact ⟨.nilptr, by simp, rfl⟩
  · exact ⟨.nilmap, by simp, rfl⟩
theorem opdA_rel {P : Program} {t : TypeId} {X : Operand} {x : Opd} (h : opdA P t X = some x) {w : World} {E : Env} {st : St} {a : Act} (ht : Tm w E st a) : RelP w E st.k (ev st x) (a.eval X) := by
  cases X with
  | tmp i => simp only [opdA, Option.some.injEq] at h; subst h; exact ht i
  | const v =>
    simp only [opdA, Option.map_eq_some_iff] at h
    obtain ⟨y, hy, rfl⟩ := h
    obtain ⟨h1, h2, _⟩ := constA_rel hy w E
    exact relp_of h1 h2
  | func f =>
    simp only [opdA, Option.some.injEq] at h; subst h
    exact relp_of (.fn f [] #[] rfl (by simp)) (by simp [ev])
  | global g => simp [opdA] at h

/-! ### Types -/
/-- How a variable of a type is read: one cell, or so many as one value. -/
def aggN (P : Program) (t : TypeId) : Option (Option Nat) :=
  match P.underlying t with
  | some (.struct _) | some (.array _ _) => (P.info? t).map fun i => some i.size
  | some _ => some none
  | none => none
def sizeT (P : Program) (t : TypeId) : Option Nat := (P.info? t).map (·.size)
theorem run_isAgg {P : Program} {t : TypeId} {n : Option Nat} (h : aggN P t = some n) (w : World) : (isAgg t).run P w = .ok n.isSome w := by
  unfold aggN at h
  split at h
  · rename_i fs hu
    obtain ⟨i, hi, rfl⟩ := Option.map_eq_some_iff.1 h
    simp [isAgg, run_underlying hu]
  · rename_i m e hu
    obtain ⟨i, hi, rfl⟩ := Option.map_eq_some_iff.1 h
    simp [isAgg, run_underlying hu]
  · rename_i d h1 h2 hu
    cases h
    simp only [isAgg, Sem.run_bind, run_underlying hu, Result.andThen_ok]
    cases d <;> first | exact absurd rfl (h1 _) | exact absurd rfl (h2 _ _) | simp
  · cases h
theorem run_sizeOf_agg {P : Program} {t : TypeId} {n : Nat} (h : aggN P t = some (some n)) (w : World) : (sizeOf t).run P w = .ok n w := by
  unfold aggN at h
  split at h
  · obtain ⟨i, hi, he⟩ := Option.map_eq_some_iff.1 h
    cases he
    simp [sizeOf, typeInfo, hi]
  · obtain ⟨i, hi, he⟩ := Option.map_eq_some_iff.1 h
    cases he
    simp [sizeOf, typeInfo, hi]
  · cases h
  · cases h
theorem run_sizeOf {P : Program} {t : TypeId} {n : Nat} (h : sizeT P t = some n) (w : World) : (sizeOf t).run P w = .ok n w := by
  obtain ⟨i, hi, rfl⟩ := Option.map_eq_some_iff.1 h
  simp [sizeOf, typeInfo, hi]

/-! ### Reading -/
theorem read_cells {P : Program} {w : World} {E : Env} {t : TypeId} {n : Option Nat} (ht : aggN P t = some n) {cs : List A} {off b o : Nat} {f : Nat → Value}
    (hc : ∀ j, j < cs.length → w.cell? ⟨b, o + j, none⟩ = some (f j) ∧ (f j).oneCell' = true) (hr : ∀ j x, cs[j]? = some x → Rel w E x (f j)) {K : A → Prop} (h : readP cs off n K) :
    ∃ v x, (loadVar t ⟨b, o + off, none⟩).run P w = .ok v w ∧ K x ∧ Rel w E x v ∧ ((∃ j, cs[j]? = some x ∧ v = f j) ∨ ∀ esz xs g e, x ≠ .sl esz xs (.own g e)) := by
  cases n with
  | none =>
    simp only [readP] at h
    split at h
    · rename_i x hx
      have hlt : off < cs.length := (List.getElem?_eq_some_iff.1 hx).1
      refine ⟨f off, x, ?_, h, hr off x hx, .inl ⟨off, hx, rfl⟩⟩
      simp [loadVar, run_isAgg ht, (hc off hlt).1]
    · exact h.elim
  | some m =>
    obtain ⟨h1, h2⟩ := h
    have hl := run_loadCells (P := P) w ⟨b, o + off, none⟩ m (fun j => f (off + j)) (fun j hj => by
      rw [add_lit0, Nat.add_assoc]; exact (hc (off + j) (by omega)).1)
    refine ⟨_, _, by simp [loadVar, run_isAgg ht, run_sizeOf_agg ht, hl]; rfl, h2, .agg _ _ ?_ ?_ ?_, .inr (by simp)⟩
    · simp; omega
    · intro j hj
      simp only [List.length_map, List.length_take, List.length_drop] at hj
      have hjm : j < m := by omega
      simp only [Array.getD_eq_getD_getElem?, List.getElem?_toArray, List.getElem?_map, List.getElem?_range hjm]
      exact (hc (off + j) (by omega)).2
    · intro j x hx
      rw [List.getElem?_map, List.getElem?_take] at hx
      obtain ⟨y, hy, rfl⟩ := Option.map_eq_some_iff.1 hx
      split at hy
      · rename_i hjm
        rw [List.getElem?_drop] at hy
        simp only [Array.getD_eq_getD_getElem?, List.getElem?_toArray, List.getElem?_map, List.getElem?_range hjm]
        exact (hr (off + j) y hy).strip
      · cases hy
/-- Reading a part of a value. -/
theorem read_part {P : Program} {w : World} {E : Env} {t : TypeId} {n : Option Nat} (ht : aggN P t = some n) {cs : List A} {off : Nat} {vs : Array Value} (hs : vs.size = cs.length)
    (h1 : ∀ j, j < cs.length → (vs.getD j Go.undef).oneCell' = true) (hr : ∀ j x, cs[j]? = some x → Rel w E x (vs.getD j Go.undef)) {K : A → Prop} (h : readP cs off n K) :
    ∃ v x, (part t vs off).run P w = .ok v w ∧ K x ∧ Rel w E x v := by
  cases n with
  | none =>
    simp only [readP] at h
    split at h
    · rename_i x hx
      have hlt : off < vs.size := by rw [hs]; exact (List.getElem?_eq_some_iff.1 hx).1
      refine ⟨vs.getD off Go.undef, x, ?_, h, hr off x hx⟩
      simp [part, run_isAgg ht, Array.getElem?_eq_getElem hlt, Array.getD_eq_getD_getElem?]
    · exact h.elim
  | some m =>
    obtain ⟨h2, h3⟩ := h
    refine ⟨_, _, by simp [part, run_isAgg ht, run_sizeOf_agg ht]; rfl, h3, .agg _ _ ?_ ?_ ?_⟩
    · simp; omega
    · intro j hj
      simp only [List.length_map, List.length_take, List.length_drop] at hj
      have := h1 (off + j) (by omega)
      simp only [Array.getD_eq_getD_getElem?, Array.getElem?_extract] at this ⊢
      rw [if_pos (by omega)]
      exact this
    · intro j x hx
      rw [List.getElem?_map, List.getElem?_take] at hx
      obtain ⟨y, hy, rfl⟩ := Option.map_eq_some_iff.1 hx
      split at hy
      · rename_i hjm
        rw [List.getElem?_drop] at hy
        have := hr (off + j) y hy
        simp only [Array.getD_eq_getD_getElem?, Array.getElem?_extract] at this ⊢
        rw [if_pos (by omega)]
        exact this.strip
      · cases hy

end Go.Pv
