/- Regions of operations. -/
import Derived.Test.YtlcacobkiglmbaaPvN
set_option linter.unusedVariables false
set_option linter.unusedSimpArgs false
namespace Go.Pv
open Go
variable {B : List Nat}

/-- The state and the frame fit, since the call began. -/
structure Inv (n : Nat) (w0 : World) (E0 : Env) (s0 : Nat → Option Blk) (k0 : Nat → Tk) (st : St) (a : Act) (w : World) (E : Env) : Prop where
  reach : Reach w0 E0 s0 k0 w E st.s st.k
  tm : Tm w E st a
  size : a.tmps.size = n
  df : a.defers = []

def PI.fits (n : Nat) (d : Option Nat) : Bool :=
  match d with
  | none => true
  | some i => decide (i < n)
theorem tm_put {w w' : World} {E E' : Env} {st : St} {a : Act} {s' : Nat → Option Blk} {k' : Nat → Tk} (hT : Tm w E st a) (hext : Ext w E st.k w' E' k') {x : A} {v : Value} (hr : RelP w' E' k' x v) {n : Nat} (hn : a.tmps.size = n) {d : Option Nat} (hd : PI.fits n d = true) :
    Tm w' E' (St.put ⟨st.t, s', k'⟩ d x) (a.put d v) := by
  intro j
  cases d with
  | none => exact hext.relp (hT j)
  | some i =>
    simp only [PI.fits, decide_eq_true_eq] at hd
    simp only [St.put, Act.put]
    by_cases e : j = i
    · subst e
      rw [upd_same, Array.getD_eq_getD_getElem?, Array.getElem?_setIfInBounds_self_of_lt (by omega)]
      exact hr
    · rw [upd_other _ _ _ _ e, Array.getD_eq_getD_getElem?, Array.getElem?_setIfInBounds_ne (fun h => e h.symm), ← Array.getD_eq_getD_getElem?]
      exact hext.relp (hT j)
theorem Inv.put {n : Nat} {w0 : World} {E0 : Env} {s0 : Nat → Option Blk} {k0 : Nat → Tk} {st : St} {a : Act} {w : World} {E : Env} (h : Inv n w0 E0 s0 k0 st a w E) {w' : World} {E' : Env} {s' : Nat → Option Blk} {k' : Nat → Tk} (hr : Reach w E st.s st.k w' E' s' k')
    {x : A} {v : Value} (hx : RelP w' E' k' x v) {d : Option Nat} (hd : PI.fits n d = true) : Inv n w0 E0 s0 k0 (St.put ⟨st.t, s', k'⟩ d x) (a.put d v) w' E' := by
  refine ⟨?_, tm_put h.tm hr.ext hx h.size hd, ?_, ?_⟩
  · have := h.reach.trans hr
    cases d <;> exact this
  · cases d with
    | none => exact h.size
    | some i => simp [Act.put, h.size]
  · cases d <;> exact h.df

/-! ### Regions -/
def run1 (P : Program) (p : PI) (K : St → Prop) (st : St) : Prop :=
  match p.g with
  | none => step P p.i st fun v st' => K (st'.put p.dst v)
  | some (j, want) => match st.t j with
    | .bool b => if b = want then step P p.i st (fun v st' => K (st'.put p.dst v)) else K (st.put p.dst (.tup []))
    | .tup _ => K (st.put p.dst (.tup []))
    | _ => False
def runs (P : Program) : List PI → (St → Prop) → St → Prop
  | [], K, st => K st
  | p :: ps, K, st => run1 P p (runs P ps K) st

def trG (ops : Array Oper) : Option (Nat × Bool) → Option (Option (Nat × Bool))
  | none => some none
  | some (j, b) => ((ops[j]?).bind (·.dst)).map fun d => some (d, b)
def isBox (B : List Nat) : Option Nat → Bool
  | some d => B.contains d
  | none => false
def trPI (P : Program) (B : List Nat) (ops : Array Oper) (n : Nat) (q : Bool) (o : Oper) : Option PI := do
  let i ← trOp P q (isBox B o.dst) o
  let g ← trG ops o.guard
  if PI.fits n o.dst then some ⟨o.dst, g, i⟩ else none

/-- One operation of a region, in whatever region. -/
theorem run1_sound {P : Program} {ops : Array Oper} {n : Nat} {q : Bool} {o : Oper} {p : PI} (htr : trPI P B ops n q o = some p) {w0 : World} {E0 : Env} {s0 : Nat → Option Blk} {k0 : Nat → Tk} {st : St} {a : Act} {w : World} {E : Env}
    (h : Inv n w0 E0 s0 k0 st a w E) {K : St → Prop} (hs : run1 P p K st) {next : Act → World → Prop} {Q : Exit → Act → World → Prop} (hn : ∀ st' a' w' E', K st' → Inv n w0 E0 s0 k0 st' a' w' E' → next a' w') :
    if Region.wanted o (yielded ops a.tmps) then o.wp P a w next Q else next (a.put o.dst Go.undef) w := by
  unfold trPI at htr
  simp only [Option.bind_eq_bind, Option.bind_eq_some_iff] at htr
  obtain ⟨i, hi, g, hg, htr⟩ := htr
  split at htr
  case isFalse => cases htr
  rename_i hd
  cases htr
  have hskip : K (st.put o.dst (.tup [])) → next (a.put o.dst Go.undef) w := fun hk =>
    hn _ _ _ _ hk (h.put (Reach.refl h.reach.S) (relp_of (.tup [] #[] rfl (by simp)) (by simp)) hd)
  have hstep : step P i st (fun v st' => K (st'.put o.dst v)) → o.wp P a w next Q := fun hs =>
    wp_good (trOp_sound hi hs h.reach.S h.tm fun x s' k' w' E' v hk hr hx => hn _ _ _ _ hk (h.put hr hx hd))
  unfold run1 at hs
  cases hgd : o.guard with
  | none =>
    simp only [hgd, trG, Option.some.injEq] at hg
    subst hg
    rw [if_pos (by simp [Region.wanted, hgd])]
    exact hstep hs
  | some jb =>
    obtain ⟨j, want⟩ := jb
    simp only [hgd, trG, Option.map_eq_some_iff] at hg
    obtain ⟨d, hdst, rfl⟩ := hg
    have hT := (h.tm d).rel
    have hy : yielded ops a.tmps j = match a.tmps[d]? with
        | some (.bool b) => some b
        | _ => none := by
      simp only [yielded, hdst, Option.bind_some]
      rfl
    simp only at hs
    split at hs
    · rename_i b hb
      rw [hb] at hT
      have hv : a.tmps[d]? = some (.bool b) := by
        rw [Array.getD_eq_getD_getElem?] at hT
        cases ht : a.tmps[d]? with
        | none => rw [ht] at hT; cases hT
        | some v => rw [ht] at hT; cases hT; rfl
      rw [hv] at hy
      simp only at hy
      by_cases e : b = want
      · rw [if_pos e] at hs
        rw [if_pos (by simp [Region.wanted, hgd, hy, e])]
        exact hstep hs
      · rw [if_neg e] at hs
        rw [if_neg (by simp [Region.wanted, hgd, hy, e])]
        exact hskip hs
    · rename_i cs hb
      rw [hb] at hT
      have hv : (match a.tmps[d]? with
        | some (.bool b) => some b
        | _ => none) = none := by
        rw [Array.getD_eq_getD_getElem?] at hT
        cases ht : a.tmps[d]? with
        | none => rfl
        | some v => rw [ht] at hT; cases hT; rfl
      rw [hv] at hy
      rw [if_neg (by simp [Region.wanted, hgd, hy])]
      exact hskip hs
    · exact hs.elim

theorem runs_sound {P : Program} {ops : Array Oper} {n : Nat} {q : Bool} {w0 : World} {E0 : Env} {s0 : Nat → Option Blk} {k0 : Nat → Tk} {Q : Exit → Act → World → Prop} {K : St → Prop}
    (hQ : ∀ st' a' w' E', K st' → Inv n w0 E0 s0 k0 st' a' w' E' → Q .normal a' w') : ∀ (l : List Oper) (ps : List PI), l.mapM (trPI P B ops n q) = some ps → ∀ (st : St) (a : Act) (w : World) (E : Env), Inv n w0 E0 s0 k0 st a w E → runs P ps K st → wpList P ops Q l a w
  | [], ps, h, st, a, w, E, hI, hr => by
    simp at h; subst h
    exact wpList_nil (hQ st a w E hr hI)
  | o :: l, ps, h, st, a, w, E, hI, hr => by
    simp only [List.mapM_cons, Option.bind_eq_bind, Option.bind_eq_some_iff, Option.pure_def, Option.some.injEq] at h
    obtain ⟨p, hp, qs, hqs, rfl⟩ := h
    refine wpList_step fun N hN => ?_
    exact run1_sound hp hI hr fun st' a' w' E' hk hI' => hN _ _ (runs_sound hQ l qs hqs st' a' w' E' hI' hk)

end Go.Pv
