/- The compact operations, what they do to abstract states, and what each is of the program's. -/
import Derived.Test.YtlcacobkiglmbaaPvD
import Derived.Laws.Strings
import Derived.Laws.Shifts
namespace Go.Pv
open Go

inductive Opd where
  | t (i : Nat)
  | c (a : A)

/-- A basic type of one cell. -/
inductive Basic where
  | int (k : IntKind)
  | str
  | bool
  deriving DecidableEq

inductive Ins where
  | mv (x : Opd)
  | pick (c a b : Opd)
  | new (z : List A)
  | box (x : Opd)
  | build (z : List A) (ps : List (Nat × Nat × Opd))
  | lit (esz e : Nat) (z : List A) (n : Nat) (ps : List (Nat × Opd))
  | load (n : Option Nat) (a : Opd)
  | store (n : Nat) (a x : Opd)
  | fld (off : Nat) (a : Opd)
  | idx (esz : Nat) (x i : Opd)
  | idxA (len esz : Nat) (x i : Opd)
  | getf (off : Nat) (n : Option Nat) (x : Opd)
  | geti (len esz : Nat) (n : Option Nat) (x i : Opd)
  | gets (x i : Opd)
  | bin (op : BinOp) (x y : Opd)
  | eqs (bs : List Basic) (neq : Bool) (x y : Opd)
  | eqb (neq : Bool) (x y : Opd)
  | eqn (neq : Bool) (x y : Opd)
  | un (op : UnOp) (x : Opd)
  | conv (k : IntKind) (x : Opd)
  | idc (x : Opd)
  | mkfn (f : FuncId) (caps : List Opd)
  | call (q : Bool) (f : Opd) (args : List Opd)
  | len (q : Bool) (x : Opd)
  | clen (n : Nat)
  | app (esz e bytes : Nat) (s x : Opd)
  | mm (big : Bool) (x y : Opd)
  | slc (esz : Nat) (x : Opd) (lo hi mx : Option Opd)
  | cut (x : Opd) (lo hi : Option Opd)
  | ext (x : Opd) (i : Nat)
  | mkmap
  | look (kb : Basic) (ok : Bool) (z : A) (m x : Opd)
  | mset (kb : Basic) (m x v : Opd)
  | mlen (m : Opd)
  | nilc (x : Opd)
  | appB (esz e bytes : Nat) (s x : Opd)
  | capn (x : Opd)
  | isn (neg : Bool) (x : Opd)
  | appZ (esz e bytes : Nat) (z : List A) (s n : Opd)
  | cpy (esz : Nat) (d x : Opd)
  | clr (esz : Nat) (z : List A) (x : Opd)

/-- An operation: where its value goes, when it is carried out, what it is. -/
structure PI where
  dst : Option Nat
  g : Option (Nat × Bool)
  i : Ins

/-- A range over a map: what comes before it, the slots of the map, the iterator, the step, its flag, the entry, its key, the loop's key, the block's exits, and the round. -/
structure Rng where
  pre : List PI
  ml : Nat
  it : Nat
  nx : Nat
  c : Nat
  e : Nat
  f : Nat
  ks : Nat
  i : Nat
  j : Nat
inductive PC where
  | skip
  | reg (ins : List PI) (draw : Bool) (keep : Option (List Nat))
  | regR (bs : List Nat) (ins : List PI)
  | seq (a b : PC)
  | cond (c : Opd) (a b : PC)
  | block (id : Nat) (b : PC)

  | loop (b : PC)
  | exit (id : Nat)
  | ret
  | rng (r : Rng) (b : PC)

structure St where
  t : Nat → A
  s : Nat → Option Blk
  k : Nat → Tk

def St.put (st : St) (d : Option Nat) (v : A) : St :=
  match d with
  | some i => { st with t := upd st.t i v }
  | none => st

def ev (st : St) : Opd → A
  | .t i => st.t i
  | .c a => a

/-! ### Values -/
def binA (op : BinOp) (x y : A) : Option A :=
  match x, y with
  | .int k a, .int k' b =>
    if k = k' then
      match op with
      | .add => some (.int k (k.wrap (a + b)))
      | .sub => some (.int k (k.wrap (a - b)))
      | .mul => some (.int k (k.wrap (a * b)))
      | .quo => if b = 0 then none else some (.int k (k.wrap (a.tdiv b)))
      | .rem => if b = 0 then none else some (.int k (a.tmod b))
      | .eql => some (.bool (decide (a = b)))
      | .neq => some (.bool (!decide (a = b)))
      | .lss => some (.bool (decide (a < b)))
      | .leq => some (.bool (decide (a ≤ b)))
      | .gtr => some (.bool (decide (a > b)))
      | .geq => some (.bool (decide (a ≥ b)))
      | .shr => if 0 ≤ b then some (.int k (a / 2 ^ min b.toNat k.bits)) else none
      | _ => none
    else none
  | .str a, .str b =>
    match op with
    | .add => if a.size + b.size ≤ 9223372036854775807 then some (.str (a ++ b)) else none
    | .eql => some (.bool (decide (a = b)))
    | .neq => some (.bool (!decide (a = b)))
    | .lss => some (.bool (Op.bytesLess a.toList b.toList))
    | .leq => some (.bool (Op.bytesLess a.toList b.toList || decide (a = b)))
    | .gtr => some (.bool (!(Op.bytesLess a.toList b.toList || decide (a = b))))
    | .geq => some (.bool (!Op.bytesLess a.toList b.toList))
    | _ => none
  | _, _ => none
theorem beq_toList (a b : ByteArray) : (a.toList == b.toList) = decide (a = b) := by
  rw [Bool.eq_iff_iff, beq_iff_eq, decide_eq_true_iff, ByteArray.toList_eq, ByteArray.toList_eq]
  constructor
  · intro h
    exact ByteArray.ext (Array.toList_inj.1 h)
  · intro h
    rw [h]
theorem int_beq (a b : Int) : (a == b) = decide (a = b) := by rw [Bool.eq_iff_iff]; simp
theorem binA_sound {P : Program} {w : World} {E : Env} {op : BinOp} {x y z : A} {u v : Value} {X Y : Operand} {t : TypeId} (hx : Rel w E x u) (hy : Rel w E y v) (h : binA op x y = some z) :
    ∃ r, (do eqGuard op t X Y u v; binOp op t u v : Sem Value).run P w = .ok r w ∧ Rel w E z r ∧ ∀ esz xs t, z ≠ .sl esz xs t := by
  cases hx <;> cases hy <;> simp only [binA] at h <;> try (cases h; done)
  · rename_i k a k' b
    by_cases hk : k = k'
    · subst hk
      rw [if_pos rfl] at h
      cases op <;> simp only [reduceCtorEq, Option.some.injEq] at h <;> try (subst h)
      case add => exact ⟨.int k (k.wrap (a + b)), by simp [eqGuard_at_int, binOp, Op.intArith], .int _ _, by simp⟩
      case sub => exact ⟨.int k (k.wrap (a - b)), by simp [eqGuard_at_int, binOp, Op.intArith], .int _ _, by simp⟩
      case mul => exact ⟨.int k (k.wrap (a * b)), by simp [eqGuard_at_int, binOp, Op.intArith], .int _ _, by simp⟩
      case lss => exact ⟨.bool (decide (a < b)), by simp [eqGuard_at_int, binOp, Op.intCmp], .bool _, by simp⟩
      case leq => exact ⟨.bool (decide (a ≤ b)), by simp [eqGuard_at_int, binOp, Op.intCmp], .bool _, by simp⟩
      case gtr => exact ⟨.bool (decide (a > b)), by simp [eqGuard_at_int, binOp, Op.intCmp], .bool _, by simp⟩
      case geq => exact ⟨.bool (decide (a ≥ b)), by simp [eqGuard_at_int, binOp, Op.intCmp], .bool _, by simp⟩
      case eql => exact ⟨.bool (decide (a = b)), by simp [eqGuard_at_int, binOp, Op.intCmp, int_beq], .bool _, by simp⟩
      case neq => exact ⟨.bool (!decide (a = b)), by simp [eqGuard_at_int, binOp, Op.intCmp, bne, int_beq], .bool _, by simp⟩
      case shr =>
        by_cases hb : 0 ≤ b
        · rw [if_pos hb] at h; cases h
          exact ⟨.int k (a / 2 ^ min b.toNat k.bits), by simp [eqGuard_shr, binOp, Go.shift_shr_any _ _ _ _ hb], .int _ _, by simp⟩
        · rw [if_neg hb] at h; cases h
      case quo =>
        by_cases hb : b = 0
        · simp [hb] at h
        · rw [if_neg hb] at h; cases h
          exact ⟨.int k (k.wrap (a.tdiv b)), by simp [eqGuard_quo, binOp, Op.intDiv, hb], .int _ _, by simp⟩
      case rem =>
        by_cases hb : b = 0
        · simp [hb] at h
        · rw [if_neg hb] at h; cases h
          exact ⟨.int k (a.tmod b), by simp [eqGuard_rem, binOp, Op.intDiv, hb], .int _ _, by simp⟩
    · rw [if_neg hk] at h; cases h
  · rename_i a b
    cases op <;> simp only [reduceCtorEq, Option.some.injEq] at h <;> try (subst h)
    case add =>
      by_cases hb : a.size + b.size ≤ 9223372036854775807
      · rw [if_pos hb] at h; cases h
        refine ⟨_, ?_, .str _, by simp⟩
        have : ¬ (((a.size + b.size : Nat) : Int) > IntKind.i64.max) := by simp [IntKind.max, IntKind.signed, IntKind.bits]; omega
        simp only [eqGuard_add, binOp, Op.stringOp, Sem.run_bind, Sem.run_pure, Result.andThen_ok, this, if_false]
      · rw [if_neg hb] at h; cases h
    case eql => exact ⟨.bool (decide (a = b)), by simp only [eqGuard_at_string, binOp, Op.stringOp, Sem.run_bind, Sem.run_pure, Result.andThen_ok, beq_toList], .bool _, by simp⟩
    case neq => exact ⟨.bool (!decide (a = b)), by simp only [eqGuard_at_string, binOp, Op.stringOp, Sem.run_bind, Sem.run_pure, Result.andThen_ok, beq_toList], .bool _, by simp⟩
    case lss => exact ⟨.bool (Op.bytesLess a.toList b.toList), by simp only [eqGuard_at_string, binOp, Op.stringOp, Sem.run_bind, Sem.run_pure, Result.andThen_ok], .bool _, by simp⟩
    case leq => exact ⟨.bool (Op.bytesLess a.toList b.toList || decide (a = b)), by simp only [eqGuard_at_string, binOp, Op.stringOp, Sem.run_bind, Sem.run_pure, Result.andThen_ok, beq_toList], .bool _, by simp⟩
    case gtr => exact ⟨.bool (!(Op.bytesLess a.toList b.toList || decide (a = b))), by simp only [eqGuard_at_string, binOp, Op.stringOp, Sem.run_bind, Sem.run_pure, Result.andThen_ok, beq_toList], .bool _, by simp⟩
    case geq => exact ⟨.bool (!Op.bytesLess a.toList b.toList), by simp only [eqGuard_at_string, binOp, Op.stringOp, Sem.run_bind, Sem.run_pure, Result.andThen_ok], .bool _, by simp⟩

end Go.Pv
