/- '==' of structs and arrays. -/
import Derived.Test.YtlcacobkiglmbaaPvI
set_option linter.unusedVariables false
set_option linter.unusedSimpArgs false
namespace Go.Pv
open Go
def basicT (P : Program) (t : TypeId) : Option Basic :=
  match P.underlying t with
  | some (.int k) => some (.int k)
  | some .string => some .str
  | some .bool => some .bool
  | _ => none
theorem basicT_und {P : Program} {t : TypeId} {b : Basic} (h : basicT P t = some b) : P.underlying t = some (match b with | .int k => .int k | .str => .string | .bool => .bool) := by
  unfold basicT at h
  split at h <;> first | (cases h; assumption) | cases h
theorem beq_bytes (a b : ByteArray) : (a == b) = decide (a = b) := by
  rw [Bool.eq_iff_iff, decide_eq_true_iff]
  obtain ⟨a⟩ := a
  obtain ⟨b⟩ := b
  show ByteArray.beq (ByteArray.mk a) (ByteArray.mk b) = true ↔ _
  simp only [ByteArray.mk.injEq]
  unfold ByteArray.beq
  exact beq_iff_eq
theorem equalIn_basic {P : Program} {w : World} {E : Env} {t : TypeId} {b : Basic} (h : basicT P t = some b) (d : Nat) {x y : A} {u v : Value} (hx : Rel w E x u) (hy : Rel w E y v) (hb : fitB b x = true) {r : Bool} (he : eqCells [x] [y] = some r) :
    (Op.equalIn (d + 1) t u v).run P w = .ok r w := by
  have hu := basicT_und h
  cases b <;> cases hx <;> simp [fitB] at hb <;> cases hy <;> simp [eqCells] at he
  · obtain ⟨rfl, rfl⟩ := he
    simp [Op.equalIn, run_underlying hu, int_beq]
  · subst he
    simp [Op.equalIn, run_underlying hu, beq_bytes]
  · subst he
    simp [Op.equalIn, run_underlying hu]
    rw [Bool.eq_iff_iff]
    simp
theorem run_part_one {P : Program} {w : World} {t : TypeId} {b : Basic} (h : basicT P t = some b) (vs : Array Value) (o : Nat) (v : Value) (hv : vs[o]? = some v) : (part t vs o).run P w = .ok v w := by
  have hu := basicT_und h
  cases b <;> simp [part, isAgg, run_underlying hu, hv]
theorem eqCells_cons (c d : A) (r r' : List A) : eqCells (c :: r) (d :: r') = (eqCells [c] [d]).bind fun q => (eqCells r r').map (q && ·) := by
  cases c <;> cases d <;> simp [eqCells]
  rename_i k a k' b
  by_cases h : k = k' <;> simp [h]
theorem eq_two {P : Program} {w : World} {E : Env} {t : TypeId} {f g : Field} {bf bg : Basic} (hu : P.underlying t = some (.struct #[f, g])) (hf : basicT P f.type = some bf) (hg : basicT P g.type = some bg) (of : f.offset = 0) (og : g.offset = 1)
    (nf : f.name ≠ "_") (ng : g.name ≠ "_") (hs : P.stoodInHeld t = false) {c0 c1 d0 d1 : A} {us vs : Array Value} (hx : Rel w E (.agg [c0, c1]) (.agg us)) (hy : Rel w E (.agg [d0, d1]) (.agg vs)) (f0 : fitB bf c0 = true) (f1 : fitB bg c1 = true)
    {r : Bool} (he : eqCells [c0, c1] [d0, d1] = some r) : (Op.equal t (.agg us) (.agg vs)).run P w = .ok r w := by
  cases hx with
  | agg _ _ s1 o1 r1 =>
  cases hy with
  | agg _ _ s2 o2 r2 =>
    have a0 : us[0]? = some (us.getD 0 Go.undef) := by rw [Array.getD_eq_getD_getElem?, Array.getElem?_eq_getElem (by rw [s1]; simp)]; rfl
    have a1 : us[1]? = some (us.getD 1 Go.undef) := by rw [Array.getD_eq_getD_getElem?, Array.getElem?_eq_getElem (by rw [s1]; simp)]; rfl
    have b0 : vs[0]? = some (vs.getD 0 Go.undef) := by rw [Array.getD_eq_getD_getElem?, Array.getElem?_eq_getElem (by rw [s2]; simp)]; rfl
    have b1 : vs[1]? = some (vs.getD 1 Go.undef) := by rw [Array.getD_eq_getD_getElem?, Array.getElem?_eq_getElem (by rw [s2]; simp)]; rfl
    have hc0 := r1 0 c0 rfl
    have hc1 := r1 1 c1 rfl
    have hd0 := r2 0 d0 rfl
    have hd1 := r2 1 d1 rfl
    obtain ⟨q0, q1, e0, e1, rfl⟩ : ∃ q0 q1, eqCells [c0] [d0] = some q0 ∧ eqCells [c1] [d1] = some q1 ∧ r = (q0 && q1) := by
      rw [eqCells_cons] at he
      obtain ⟨q0, h0, he⟩ := Option.bind_eq_some_iff.1 he
      obtain ⟨q1, h1, rfl⟩ := Option.map_eq_some_iff.1 he
      exact ⟨q0, q1, h0, h1, rfl⟩
    generalize us.getD 0 Go.undef = u0 at a0 hc0
    generalize us.getD 1 Go.undef = u1 at a1 hc1
    generalize vs.getD 0 Go.undef = v0 at b0 hd0
    generalize vs.getD 1 Go.undef = v1 at b1 hd1
    unfold Op.equal Op.maxDepth Op.equalIn
    simp only [run_underlying hu, Sem.run_bind, Result.andThen_ok, run_program, hs, Bool.false_eq_true, if_false]
    simp [nf, ng, of, og, run_part_one hf us 0 _ a0, run_part_one hf vs 0 _ b0, run_part_one hg us 1 _ a1, run_part_one hg vs 1 _ b1, equalIn_basic hf 9998 hc0 hd0 f0 e0, equalIn_basic hg 9998 hc1 hd1 f1 e1]
    cases q0 <;> cases q1 <;> simp
end Go.Pv
