/- Code on abstract states; a function's contract out of its compact code. -/
import Derived.Test.YtgmdhegbkbeihaaGreatZPvQ
import Derived.Scope
set_option linter.unusedVariables false
set_option linter.unusedSimpArgs false
namespace Go.Pv
open Go
variable {B : List Nat}

/-! ### Code -/
inductive PX where
  | normal
  | exit (id : Nat)
  | ret
def PX.ex : PX → Exit
  | .normal => .normal
  | .exit id => .exit id
  | .ret => .ret
def St.keep (st : St) (l : List Nat) : St := { st with t := fun i => if i ∈ l then st.t i else .undef }
/-- Less is known. -/
structure A.le (x y : A) : Prop where
  rel : ∀ w E v, Rel w E x v → Rel w E y v
  own : ∀ esz xs g e, y = .sl esz xs (.own g e) → x = y
theorem A.le.relp {x y : A} (h : A.le x y) {w : World} {E : Env} {k : Nat → Tk} {v : Value} (hr : RelP w E k x v) : RelP w E k y v :=
  ⟨h.rel w E v hr.rel, fun esz xs g e he => hr.tok esz xs g e ((h.own esz xs g e he).trans he)⟩
theorem A.le_refl (x : A) : A.le x x := ⟨fun _ _ _ h => h, fun _ _ _ _ _ => rfl⟩
theorem A.le_undef (x : A) : A.le x .undef := ⟨fun _ _ v _ => .undef v, by simp⟩
theorem A.le_no (esz : Nat) (xs : List (List A)) (t : Tok) : A.le (.sl esz xs t) (.sl esz xs .no) := ⟨fun w E v hr => by
  cases hr with
  | sl _ _ _ ad c f h1 h2 h3 h4 h5 h6 h7 => exact .sl esz xs .no ad c f h1 h2 (by simp) (by simp) h5 h6 h7, by simp⟩
theorem A.le_empty (esz esz' : Nat) (t : Tok) : A.le (.sl esz [] t) (.sl esz' [] .no) := ⟨fun w E v h => ((A.le_no _ _ _).rel w E v h).empty, by simp⟩
theorem A.le.trans {x y z : A} (h : A.le x y) (h' : A.le y z) : A.le x z := ⟨fun w E v r => h'.rel w E v (h.rel w E v r), fun esz xs g e he => by
  have := h'.own esz xs g e he
  rw [this] at h
  exact (h.own esz xs g e he)⟩
/-- Cell by cell. -/
inductive A.lel : List A → List A → Prop where
  | nil : A.lel [] []
  | cons {x y : A} {xs ys : List A} : A.le x y → A.lel xs ys → A.lel (x :: xs) (y :: ys)
theorem A.lel.get {xs ys : List A} (h : A.lel xs ys) : ys.length = xs.length ∧ ∀ (j : Nat) (y : A), ys[j]? = some y → ∃ x, xs[j]? = some x ∧ A.le x y := by
  induction h with
  | nil => exact ⟨rfl, by simp⟩
  | cons hx _ ih =>
    refine ⟨by simp [ih.1], fun j y hy => ?_⟩
    cases j with
    | zero => simp at hy; subst hy; exact ⟨_, rfl, hx⟩
    | succ j => obtain ⟨x, h1, h2⟩ := ih.2 j y (by simpa using hy); exact ⟨x, by simpa using h1, h2⟩
theorem A.le_agg {xs ys : List A} (h : A.lel xs ys) : A.le (.agg xs) (.agg ys) := ⟨fun w E v hr => by
  obtain ⟨h1, h2⟩ := h.get
  cases hr with
  | agg _ vs q1 q2 q3 => exact .agg ys vs (by omega) (fun j hj => q2 j (by omega)) (fun j y hy => by obtain ⟨x, e1, e2⟩ := h2 j y hy; exact e2.rel _ _ _ (q3 j x e1)), by simp⟩
theorem A.le_tup {xs ys : List A} (h : A.lel xs ys) : A.le (.tup xs) (.tup ys) := ⟨fun w E v hr => by
  obtain ⟨h1, h2⟩ := h.get
  cases hr with
  | tup _ vs q1 q2 => exact .tup ys vs (by omega) (fun j y hy => by obtain ⟨x, e1, e2⟩ := h2 j y hy; exact e2.rel _ _ _ (q2 j x e1)), by simp⟩
structure St.le (st st' : St) : Prop where
  t : ∀ i, A.le (st.t i) (st'.t i)
  s : ∀ id, st'.s id = none ∨ st'.s id = st.s id
  k : st'.k = st.k
theorem St.le_refl (st : St) : St.le st st := ⟨fun _ => A.le_refl _, fun _ => .inr rfl, rfl⟩
theorem Inv.le {n : Nat} {w0 : World} {E0 : Env} {s0 : Nat → Option Blk} {k0 : Nat → Tk} {st st' : St} {a : Act} {w : World} {E : Env} (h : Inv n w0 E0 s0 k0 st a w E) (hl : St.le st st') : Inv n w0 E0 s0 k0 st' a w E := by
  obtain ⟨t, s, k⟩ := st
  obtain ⟨t', s', k'⟩ := st'
  obtain ⟨h1, h2, h3⟩ := hl
  simp only at h1 h2 h3
  subst h3
  exact ⟨h.reach.trans (h.reach.S.less h2), fun i => (h1 i).relp (h.tm i), h.size, h.df⟩
theorem St.le_keep (st : St) (l : List Nat) : St.le st (st.keep l) := ⟨fun i => by
  simp only [St.keep]
  split
  · exact A.le_refl _
  · exact A.le_undef _, fun _ => .inr rfl, rfl⟩

def pwp (P : Program) : PC → (PX → St → Prop) → St → Prop
  | .skip, Q, st => Q .normal st
  | .reg ins _ keep, Q, st => runs P ins (fun st' => Q .normal (match keep with
    | some l => st'.keep l
    | none => st')) st
  | .regR bs ins, Q, st => takeR bs st.t st.s (fun _ => none) fun s h => runsR P ins (fun st' h' => Q .normal (mst st' h')) ⟨st.t, s, st.k⟩ h
  | .seq x y, Q, st => pwp P x (fun e st' => match e with
    | .normal => pwp P y Q st'
    | e => Q e st') st
  | .cond c x y, Q, st => match ev st c with
    | .bool true => pwp P x Q st
    | .bool false => pwp P y Q st
    | _ => False
  | .block id x, Q, st => pwp P x (fun e st' => match e with
    | .exit j => if j = id then Q .normal st' else Q (.exit j) st'
    | e => Q e st') st
  | .loop x, Q, st => ∃ I : Nat → St → Prop, (∃ st1 m, St.le st st1 ∧ I m st1) ∧ ∀ m st1, I m st1 → pwp P x (fun e st' => match e with
    | .normal => ∃ st2 m', m' < m ∧ St.le st' st2 ∧ I m' st2
    | e => Q e st') st1
  | .exit id, Q, st => Q (.exit id) st
  | .ret, Q, st => Q .ret st

def PC.bare : PC → PC
  | .reg ins d _ => .reg ins d none
  | .seq x y => .seq x.bare y.bare
  | .cond c x y => .cond c x.bare y.bare
  | .block id x => .block id x.bare
  | .loop x => .loop x.bare
  | c => c
def rootOf (ps : List PI) : Nat → Nat → Option Nat
  | 0, _ => none
  | n + 1, a => match ps.find? fun p => p.dst == some a with
    | none => some a
    | some p => match p.i with
      | .fld _ (.t c) => rootOf ps n c
      | .idxA _ _ (.t c) _ => rootOf ps n c
      | _ => none
def basesOf (ps : List PI) : List Nat := (ps.filterMap fun p => match p.i with
  | .store _ (.t a) _ => rootOf ps 12 a
  | _ => none).eraseDups
def trCode (P : Program) (B : List Nat) (n : Nat) : Code → Option PC
  | .skip => some .skip
  | .region _ ops draw => do
    let ps ← ops.toList.mapM (trPI P B ops n draw)
    if !draw || drawOK ops ps then some (.reg ps draw none) else if drawOKR ops ps then some (.regR (basesOf ps) ps) else none
  | .seq x y => do
    let x ← trCode P B n x
    let y ← trCode P B n y
    some (.seq x y)
  | .cond c x y => do
    let c ← opdA P 0 c
    let x ← trCode P B n x
    let y ← trCode P B n y
    some (.cond c x y)
  | .block id x => (trCode P B n x).map (.block id)
  | .loop x => (trCode P B n x).map .loop
  | .exit id => some (.exit id)
  | .ret => some .ret
  | .label _ => some .skip
  | .scope x => trCode P B n x
  | _ => none

theorem exists_least {p : Nat → Prop} : ∀ (m : Nat), p m → ∃ l, p l ∧ ∀ k, p k → l ≤ k := by
  intro m
  induction m using Nat.strongRecOn with
  | _ m ih =>
    intro hm
    by_cases h : ∃ k, k < m ∧ p k
    · obtain ⟨k, h1, h2⟩ := h
      exact ih k h1 h2
    · refine ⟨m, hm, fun k hk => ?_⟩
      rcases Nat.lt_or_ge k m with h1 | h1
      · exact absurd ⟨k, h1, hk⟩ h
      · exact h1
open Classical in
noncomputable def leastOf (p : Nat → Prop) : Nat := if h : ∃ l, p l ∧ ∀ k, p k → l ≤ k then Classical.choose h else 0
theorem leastOf_spec {p : Nat → Prop} {m : Nat} (h : p m) : p (leastOf p) ∧ leastOf p ≤ m := by
  have hex := exists_least m h
  unfold leastOf
  rw [dif_pos hex]
  have := Classical.choose_spec hex
  exact ⟨this.1, this.2 m h⟩
theorem pwp_sound {P : Program} {n : Nat} {w0 : World} {E0 : Env} {s0 : Nat → Option Blk} {k0 : Nat → Tk} (hm : P.follows .mixedOrders = true) : ∀ (c : Code) (pc : PC), trCode P B n c = some pc.bare → ∀ (Q : PX → St → Prop) (Q' : Exit → Act → World → Prop),
    (∀ e st' a' w' E', Q e st' → Inv n w0 E0 s0 k0 st' a' w' E' → Q' e.ex a' w') → ∀ (st : St) (a : Act) (w : World) (E : Env), Inv n w0 E0 s0 k0 st a w E → pwp P pc Q st → c.wp P Q' a w := by
  intro c
  induction c with
  | skip =>
    intro pc h Q Q' hQ st a w E hI hp
    cases pc <;> simp [trCode, PC.bare] at h
    exact wp_skip (hQ .normal st a w E hp hI)
  | region id ops draw =>
    intro pc h Q Q' hQ st a w E hI hp
    simp only [trCode, Option.bind_eq_bind, Option.bind_eq_some_iff] at h
    obtain ⟨ps, hps, h⟩ := h
    split at h
    case isFalse =>
      rename_i hnd
      split at h
      case isFalse => cases h
      rename_i hd
      have hdr : draw = true := by
        cases draw
        · simp at hnd
        · rfl
      subst hdr
      cases pc <;> simp [PC.bare] at h
      obtain ⟨rfl, rfl⟩ := h
      simp only [pwp] at hp
      obtain ⟨s', h', h1, h2, h3⟩ := takeR_spec _ _ _ _ _ (by intro id hid; exact absurd rfl hid) hp
      refine drawR_sound hm (K := fun st' h' => Q .normal (mst st' h')) (fun st' h' a' w' E' hk hI' => hQ .normal _ a' w' E' hk hI') hps hd h2 (st := ⟨st.t, s', st.k⟩) (E := E) ?_ h3
      have : mst ⟨st.t, s', st.k⟩ h' = st := by
        obtain ⟨t, s, k⟩ := st
        simp only [mst, h1, mrg_nil]
      rw [this]
      exact hI
    rename_i hd
    cases pc <;> simp [PC.bare] at h
    rename_i ins d keep
    obtain ⟨rfl, rfl⟩ := h
    simp only [pwp] at hp
    have hQ1 : ∀ st' a' w' E', (fun st' => Q .normal (match keep with
        | some l => st'.keep l
        | none => st')) st' → Inv n w0 E0 s0 k0 st' a' w' E' → Q' .normal a' w' := by
      intro st' a' w' E' hk hI'
      cases keep with
      | none => exact hQ .normal st' a' w' E' hk hI'
      | some l => exact hQ .normal _ a' w' E' hk (hI'.le (St.le_keep st' l))
    cases draw with
    | false => exact wp_region_list (runs_sound hQ1 ops.toList ps hps st a w E hI hp)
    | true => exact draw_sound hm hQ1 hps (by simpa using hd) hI hp
  | seq x y ihx ihy =>
    intro pc h Q Q' hQ st a w E hI hp
    simp only [trCode, Option.bind_eq_bind, Option.bind_eq_some_iff, Option.some.injEq] at h
    obtain ⟨x', hx, y', hy, h⟩ := h
    cases pc <;> simp [PC.bare] at h
    rename_i px py
    obtain ⟨rfl, rfl⟩ := h
    refine wp_seq (ihx px hx _ _ ?_ st a w E hI hp)
    intro e st' a' w' E' hk hI'
    cases e with
    | normal => exact ihy py hy Q Q' hQ st' a' w' E' hI' hk
    | exit id => exact hQ (.exit id) st' a' w' E' hk hI'
    | ret => exact hQ .ret st' a' w' E' hk hI'
  | cond c x y ihx ihy =>
    intro pc h Q Q' hQ st a w E hI hp
    simp only [trCode, Option.bind_eq_bind, Option.bind_eq_some_iff, Option.some.injEq] at h
    obtain ⟨c', hc, x', hx, y', hy, h⟩ := h
    cases pc <;> simp [PC.bare] at h
    rename_i pc' px py
    obtain ⟨rfl, rfl, rfl⟩ := h
    have hr := (opdA_rel hc hI.tm).rel
    simp only [pwp] at hp
    split at hp
    · rename_i he
      exact wp_cond_true (rel_bool hr he) (ihx px hx Q Q' hQ st a w E hI hp)
    · rename_i he
      exact wp_cond_false (rel_bool hr he) (ihy py hy Q Q' hQ st a w E hI hp)
    · exact hp.elim
  | block id x ih =>
    intro pc h Q Q' hQ st a w E hI hp
    simp only [trCode, Option.map_eq_some_iff] at h
    obtain ⟨x', hx, h⟩ := h
    cases pc <;> simp [PC.bare] at h
    rename_i id' px
    obtain ⟨rfl, rfl⟩ := h
    refine wp_block (ih px hx _ _ ?_ st a w E hI hp)
    intro e st' a' w' E' hk hI'
    cases e with
    | normal => exact hQ .normal st' a' w' E' hk hI'
    | exit j =>
      simp only at hk
      simp only [PX.ex, Exit.inBlock]
      by_cases e : j = id
      · rw [if_pos e] at hk ⊢; exact hQ .normal st' a' w' E' hk hI'
      · rw [if_neg e] at hk ⊢; exact hQ (.exit j) st' a' w' E' hk hI'
    | ret => exact hQ .ret st' a' w' E' hk hI'
  | loop x ih =>
    intro pc h Q Q' hQ st a w E hI hp
    simp only [trCode, Option.map_eq_some_iff] at h
    obtain ⟨x', hx, h⟩ := h
    cases pc <;> simp [PC.bare] at h
    rename_i px
    subst h
    obtain ⟨I, ⟨st1, m, hle, hI0⟩, hbody⟩ := hp
    let J : Nat → Act → World → Prop := fun m a w => ∃ st E, I m st ∧ Inv n w0 E0 s0 k0 st a w E
    let μ : Act → World → Nat := fun a w => leastOf fun m => J m a w
    have hμ : ∀ a w m, J m a w → J (μ a w) a w ∧ μ a w ≤ m := by
      intro a w m hm
      exact leastOf_spec (p := fun m => J m a w) hm
    refine wp_loop (fun a w => J (μ a w) a w) μ (hμ a w m ⟨st1, E, hI0, hI.le hle⟩).1 ?_
    rintro a w ⟨st2, E2, hI2, hInv2⟩
    refine ih px hx _ _ ?_ st2 a w E2 hInv2 (hbody _ _ hI2)
    intro e st' a' w' E' hk hI'
    cases e with
    | normal =>
      obtain ⟨st3, m', hlt, hle3, hI3⟩ := hk
      have := hμ a' w' m' ⟨st3, E', hI3, hI'.le hle3⟩
      exact ⟨this.1, Nat.lt_of_le_of_lt this.2 hlt⟩
    | exit id => exact hQ (.exit id) st' a' w' E' hk hI'
    | ret => exact hQ .ret st' a' w' E' hk hI'
  | exit id =>
    intro pc h Q Q' hQ st a w E hI hp
    cases pc <;> simp [trCode, PC.bare] at h
    subst h
    exact wp_exit (hQ (.exit _) st a w E hp hI)
  | ret =>
    intro pc h Q Q' hQ st a w E hI hp
    cases pc <;> simp [trCode, PC.bare] at h
    exact wp_ret (hQ .ret st a w E hp hI)
  | label l =>
    intro pc h Q Q' hQ st a w E hI hp
    cases pc <;> simp [trCode, PC.bare] at h
    exact wp_label (hQ .normal st a w E hp hI)
  | scope x ih =>
    intro pc h Q Q' hQ st a w E hI hp
    refine wp_scope_straight (ih pc h Q _ ?_ st a w E hI hp)
    intro e st' a' w' E' hk hI'
    cases e with
    | normal => exact hQ .normal st' a' w' E' hk hI'
    | exit id => exact hQ (.exit id) st' a' w' E' hk hI'
    | ret => exact hQ .ret st' a' w' E' hk hI'
  | _ => intro pc h; simp [trCode] at h

/-! ### Results -/
inductive RV where
  | tmp (t : Nat)
  | cell (t : Nat) (n : Option Nat)
def trRV (P : Program) : ResultVar → Option RV
  | .tmp t => some (.tmp t)
  | .cell t ty => (aggN P ty).map (.cell t)
def trRes (P : Program) (l : Array ResultVar) : Option (List RV) := l.toList.mapM (trRV P)
def resV (a : Act) : ResultVar → Sem Value
  | .tmp t => pure (a.tmps.getD t Go.undef)
  | .cell b t => do loadVar t (← asAddr (a.tmps.getD b Go.undef))
def resP (st : St) : List RV → (List A → Prop) → Prop
  | [], K => K []
  | .tmp t :: r, K => resP st r fun xs => K ((st.t t).strip :: xs)
  | .cell t n :: r, K => match st.t t with
    | .ptr id off => match st.s id with
      | some (.cells cs) => readP cs off n fun x => resP st r fun xs => K (x.strip :: xs)
      | _ => False
    | _ => False
def oneOf : List A → A
  | [x] => x
  | xs => .tup xs
theorem resP_sound {P : Program} {st : St} {a : Act} {w : World} {E : Env} (hS : InvS w E st.s st.k) (hT : Tm w E st a) : ∀ (l : List ResultVar) (rs : List RV), l.mapM (trRV P) = some rs → ∀ (K : List A → Prop), resP st rs K →
    ∃ vs xs, (l.mapM (resV a)).run P w = .ok vs w ∧ K xs ∧ vs.length = xs.length ∧ ∀ (j : Nat) (x : A), xs[j]? = some x → ∃ v, vs[j]? = some v ∧ Rel w E x v
  | [], rs, h, K, hk => by
    simp at h; subst h
    exact ⟨[], [], by simp, hk, rfl, by simp⟩
  | r :: l, rs, h, K, hk => by
    simp only [List.mapM_cons, Option.bind_eq_bind, Option.bind_eq_some_iff, Option.pure_def, Option.some.injEq] at h
    obtain ⟨q, hq, qs, hqs, rfl⟩ := h
    have put : ∀ (v : Value) (x : A), Rel w E x v → ∀ (vs : List Value) (xs : List A), vs.length = xs.length → (∀ (j : Nat) (x : A), xs[j]? = some x → ∃ v, vs[j]? = some v ∧ Rel w E x v) →
        (v :: vs).length = (x :: xs).length ∧ ∀ (j : Nat) (y : A), (x :: xs)[j]? = some y → ∃ u, (v :: vs)[j]? = some u ∧ Rel w E y u := by
      intro v x hx vs xs hl hr
      refine ⟨by simp [hl], fun j y hy => ?_⟩
      cases j with
      | zero => simp at hy; subst hy; exact ⟨v, rfl, hx⟩
      | succ j => exact hr j y (by simpa using hy)
    cases r with
    | tmp t =>
      simp only [trRV, Option.some.injEq] at hq
      subst hq
      obtain ⟨vs, xs, h1, h2, h3, h4⟩ := resP_sound hS hT l qs hqs _ hk
      obtain ⟨g1, g2⟩ := put _ _ (hT t).rel.strip vs xs h3 h4
      exact ⟨_, _, by simp only [List.mapM_cons, resV, Sem.run_bind, Sem.run_pure, Result.andThen_ok, h1], h2, g1, g2⟩
    | cell t ty =>
      simp only [trRV, Option.map_eq_some_iff] at hq
      obtain ⟨n, hn, rfl⟩ := hq
      simp only [resP] at hk
      have hr := (hT t).rel
      split at hk
      · rename_i id off he
        rw [he] at hr
        generalize hX : a.tmps.getD t Go.undef = X' at hr
        cases hr with
        | ptr _ _ b hb =>
          split at hk
          · rename_i cs hcs
            obtain ⟨b', cur, ty', c1, c2, c3, c4, c5, c6⟩ := hS.cells id cs hcs
            rw [hb] at c1
            cases c1
            obtain ⟨v, y, h1, h2, h3, _⟩ := read_cells (P := P) (w := w) (E := E) (b := b) (o := 0) (f := fun j => cur.getD j Go.undef) hn
              (fun j hj => ⟨by rw [Nat.zero_add, cell_of_row w b j cur ty' (0, 0) c2, Array.getD_eq_getD_getElem?, Array.getElem?_eq_getElem (by omega)]; rfl, c4 j hj⟩) (fun j x hx => (c5 j x hx).rel) hk
            rw [Nat.zero_add] at h1
            obtain ⟨vs, xs, g1, g2, g3, g4⟩ := resP_sound hS hT l qs hqs _ h2
            obtain ⟨f1, f2⟩ := put _ _ h3.strip vs xs g3 g4
            exact ⟨_, _, by simp only [List.mapM_cons, resV, hX, asAddr, Sem.run_bind, Sem.run_pure, Result.andThen_ok, h1, g1], g2, f1, f2⟩
          · exact hk.elim
      · exact hk.elim


/-- What the code comes to, at a function's end. -/
def bodyQ (rs : List RV) (R : A → St → Prop) : PX → St → Prop
  | .normal, st | .ret, st => resP st rs fun xs => R (oneOf xs) st
  | .exit _, _ => False
def initT (args : List A) : Nat → A := fun i => args[i]?.getD .undef

theorem run_results {P : Program} {fn : Func} {rs : List RV} (hrs : trRes P fn.results = some rs) {st : St} {a : Act} {w : World} {E : Env} (hS : InvS w E st.s st.k) (hT : Tm w E st a) {K : List A → Prop} (hk : resP st rs K) :
    ∃ v xs, (results fn a.tmps).run P w = .ok v w ∧ K xs ∧ Rel w E (oneOf xs) v := by
  obtain ⟨vs, xs, h1, h2, h3, h4⟩ := resP_sound (P := P) hS hT fn.results.toList rs hrs K hk
  have hm : (fn.results.mapM (resV a)).run P w = .ok vs.toArray w := by
    have : fn.results = fn.results.toList.toArray := by simp
    rw [this, List.mapM_toArray, Sem.run_map, h1]
    rfl
  have hfun : (fun | .tmp t => pure (a.tmps.getD t Go.undef) | .cell b t => do loadVar t (← asAddr (a.tmps.getD b Go.undef)) : ResultVar → Sem Value) = resV a := by
    funext r
    cases r <;> rfl
  refine ⟨if h : vs.toArray.size = 1 then vs.toArray[0] else .tuple vs.toArray, xs, ?_, h2, ?_⟩
  · unfold results
    have e : (results fn a.tmps) = (do let vs ← fn.results.mapM (resV a); pure (if h : vs.size = 1 then vs[0] else .tuple vs)) := by
      unfold results
      rw [← hfun]
      rfl
    unfold results at e
    rw [e, Sem.run_bind, hm]
    rfl
  · have hs : vs.toArray.size = xs.length := by simpa using h3
    by_cases h1 : vs.toArray.size = 1
    · rw [dif_pos h1]
      match xs, vs, hs, h4 with
      | [x], [v], _, h4 =>
        obtain ⟨u, hu, hr⟩ := h4 0 x rfl
        simp at hu
        subst hu
        exact hr
      | [], vs, hs, _ => rw [hs] at h1; simp at h1
      | [x], [], hs, _ => simp at hs
      | [x], _ :: _ :: _, hs, _ => simp at hs
      | _ :: _ :: _, vs, hs, _ => rw [hs] at h1; simp at h1
    · rw [dif_neg h1]
      have ho : oneOf xs = .tup xs := by
        match xs, hs with
        | [], _ => rfl
        | [x], hs => exact absurd hs h1
        | _ :: _ :: _, _ => rfl
      rw [ho]
      refine .tup xs _ hs fun j x hx => ?_
      obtain ⟨v, hv, hr⟩ := h4 j x hx
      rw [Array.getD_eq_getD_getElem?, List.getElem?_toArray, hv]
      exact hr

/-- Nothing but new boxes; nothing but new tokens. -/
def SExt (s s' : Nat → Option Blk) : Prop := ∀ id, s id ≠ none → s' id = s id
def KExt (k k' : Nat → Tk) : Prop := ∀ g, k g ≠ .unused → k' g = k g
theorem SExt.refl (s : Nat → Option Blk) : SExt s s := fun _ _ => rfl
theorem KExt.refl (k : Nat → Tk) : KExt k k := fun _ _ => rfl
theorem SExt.new {s s' : Nat → Option Blk} (h : SExt s s') {id : Nat} (hid : s' id = none) (x : Option Blk) : SExt s (upd s' id x) := fun i hi => by
  by_cases e : i = id
  · subst e; rw [h i hi] at hid; exact absurd hid hi
  · rw [upd_other _ _ _ _ e]; exact h i hi
theorem SExt.old {s s' : Nat → Option Blk} (h : SExt s s') {id : Nat} (hid : s id = none) (x : Option Blk) : SExt s (upd s' id x) := fun i hi => by
  by_cases e : i = id
  · subst e; exact absurd hid hi
  · rw [upd_other _ _ _ _ e]; exact h i hi
theorem SExt.none {s s' : Nat → Option Blk} (h : SExt s s') {id : Nat} (hid : s' id = none) : s id = none := by
  cases hs : s id with
  | none => rfl
  | some x => have := h id (by simp [hs]); rw [this, hs] at hid; cases hid
theorem KExt.new {k k' : Nat → Tk} (h : KExt k k') {g : Nat} (hg : k' g = .unused) (x : Tk) : KExt k (upd k' g x) := fun i hi => by
  by_cases e : i = g
  · subst e; rw [h i hi] at hg; exact absurd hg hi
  · rw [upd_other _ _ _ _ e]; exact h i hi
theorem KExt.old {k k' : Nat → Tk} (h : KExt k k') {g : Nat} (hg : k g = .unused) (x : Tk) : KExt k (upd k' g x) := fun i hi => by
  by_cases e : i = g
  · subst e; exact absurd hg hi
  · rw [upd_other _ _ _ _ e]; exact h i hi
theorem KExt.unused {k k' : Nat → Tk} (h : KExt k k') {g : Nat} (hg : k' g = .unused) : k g = .unused := by
  cases hk : k g with
  | unused => rfl
  | live => have := h g (by simp [hk]); rw [this, hk] at hg; cases hg
  | dead => have := h g (by simp [hk]); rw [this, hk] at hg; cases hg

/-- What the call made besides is forgotten. -/
theorem Reach.forget {w : World} {E : Env} {s : Nat → Option Blk} {k : Nat → Tk} (h0 : InvS w E s k) {w' : World} {E' : Env} {s' : Nat → Option Blk} {k' : Nat → Tk} (h : Reach w E s k w' E' s' k') (hs : SExt s s') (hk : KExt k k') : Reach w E s k w' E' s k := by
  have h1 := h.trans (h.S.less (s' := s) fun id => by
    by_cases e : s id = none
    · exact .inl e
    · exact .inr (hs id e).symm)
  have htok : ∀ (x : A) (v v' : Value), RelP w E k x v → RelP w' E' k' x v' → RelP w' E' k x v' := by
    intro x v v' hx hx'
    refine ⟨hx'.rel, fun esz xs g e he => ?_⟩
    obtain ⟨a1, a2⟩ := hx.tok esz xs g e he
    obtain ⟨b1, b2⟩ := hx'.tok esz xs g e he
    exact ⟨a1, fun hl => b2 ((hk g a1).trans hl)⟩
  refine ⟨⟨?_, h1.S.maps, h1.S.inj, fun g hg => h1.S.rows g ((hk g (by rw [hg]; simp)).trans hg), fun g g' r r' hg hg' => h1.S.rinj g g' r r' ((hk g (by rw [hg]; simp)).trans hg) ((hk g' (by rw [hg']; simp)).trans hg'), h1.S.prot, ?_⟩,
    ⟨h1.ext.F, h1.ext.μ, fun g hg => ⟨hg, fun hl => ⟨hl, ((h1.ext.tok g hg).2 ((hk g hg).trans hl)).2⟩⟩⟩, h1.agree, fun b hb => ?_, h1.prot⟩
  · intro id cs hid
    obtain ⟨b, cur, ty, c1, c2, c3, c4, c5, c6⟩ := h1.S.cells id cs hid
    obtain ⟨b0, cur0, ty0, d1, d2, d3, d4, d5, d6⟩ := h0.cells id cs hid
    exact ⟨b, cur, ty, c1, c2, c3, c4, fun j x hx => htok x _ _ (d5 j x hx) (c5 j x hx), c6⟩
  · obtain ⟨N, hN⟩ := h1.S.fin
    obtain ⟨M, hM⟩ := h0.fin
    exact ⟨max N M, fun i hi => ⟨(hN i (by omega)).1, (hM i (by omega)).2⟩⟩
  · rcases hb with hb | ⟨g, r, g1, g2, g3⟩
    · exact h1.base b (.inl hb)
    · exact h1.base b (.inr ⟨g, r, (hk g (by rw [g1]; simp)).trans g1, g2, g3⟩)

theorem calls_body {P : Program} (hm : P.follows .mixedOrders = true) {f : FuncId} {fn : Func} {c : Code} {pc : PC} {rs : List RV} (hf : P.funcs[f]? = some fn) (hb : fn.body = some c) (htr : trCode P B fn.ntmps c = some pc.bare) (hrs : trRes P fn.results = some rs)
    {args : List A} (hn : args.length ≤ fn.ntmps) {s : Nat → Option Blk} {k : Nat → Tk} {R : A → St → Prop} (h : pwp P pc (bodyQ rs R) ⟨initT args, s, k⟩) {w : World} {E : Env} {vs : Array Value} (hS : InvS w E s k) (hl : vs.size = args.length)
    (hr : ∀ j x, args[j]? = some x → Rel w E x (vs.getD j Go.undef)) (hnt : ∀ x ∈ args, ∀ esz xs g e, x ≠ .sl esz xs (.own g e)) :
    Calls P f vs w fun e w' => ∃ v, e = .returned v ∧ ∃ r st E', R r st ∧ Reach w E s k w' E' st.s st.k ∧ Rel w' E' r v := by
  refine calls_of_wp hf hb ?_
  have hI : Inv fn.ntmps w E s k ⟨initT args, s, k⟩ { tmps := vs ++ Array.replicate (fn.ntmps - vs.size) Go.undef, defers := [] } w E := by
    refine ⟨Reach.refl hS, fun j => ?_, by simp; omega, rfl⟩
    simp only [initT]
    cases hj : args[j]? with
    | none => exact relp_of (.undef _) (by simp)
    | some x =>
      have hlt : j < args.length := (List.getElem?_eq_some_iff.1 hj).1
      rw [Array.getD_eq_getD_getElem?, Array.getElem?_append_left (by omega), ← Array.getD_eq_getD_getElem?]
      exact relp_of (hr j x hj) (hnt x (List.mem_of_getElem? hj))
  refine pwp_sound hm c pc htr (bodyQ rs R) _ ?_ _ _ w E hI h
  intro e st' a' w' E' hq hI'
  have fin : ∀ K : List A → Prop, (∀ xs, K xs → R (oneOf xs) st') → resP st' rs K → a'.defers = [] ∧ ∃ v, (results fn a'.tmps).run P w' = .ok v w' ∧ ∃ v', Ending.returned v = .returned v' ∧ ∃ r st E', R r st ∧ Reach w E s k w' E' st.s st.k ∧ Rel w' E' r v' := by
    intro K hK hq
    obtain ⟨v, xs, g1, g2, g3⟩ := run_results hrs hI'.reach.S hI'.tm hq
    exact ⟨hI'.df, v, g1, v, rfl, _, _, _, hK xs g2, hI'.reach, g3⟩
  cases e with
  | normal => exact fin _ (fun xs h => h) hq
  | ret => exact fin _ (fun xs h => h) hq
  | exit id => exact hq.elim

/-! ### Boxes that are never written again -/
def Env.frz (E : Env) (s s0 : Hp) : Env := ⟨E.μ, fun b o => E.F b o ∨ ∃ id cs, s id = some (.cells cs) ∧ s0 id = none ∧ E.μ id = some b ∧ o < cs.length, E.ρ⟩
theorem InvS.freezeAll {w : World} {E : Env} {s s0 : Hp} {k : Nat → Tk} (h : InvS w E s k) (hs : ∀ id, s0 id = none ∨ s0 id = s id) : Reach w E s k w (E.frz s s0) s0 k := by
  have hne : ∀ id, s0 id ≠ none → s id ≠ none := fun id h1 h2 => by rcases hs id with h3 | h3 <;> simp_all
  have heq : ∀ id x, s0 id = some x → s id = some x := fun id x h1 => by rcases hs id with h3 | h3 <;> simp_all
  have hext : Ext w E k w (E.frz s s0) k := ⟨fun b o hb => ⟨.inl hb, rfl⟩, fun _ _ h => h, fun _ h => ⟨h, fun h => ⟨h, rfl⟩⟩⟩
  refine ⟨⟨?_, ?_, fun id id' b h1 h2 => h.inj id id' b (hne _ h1) (hne _ h2), ?_, h.rinj, ?_, h.fin⟩, hext, Agree.refl _ w, fun b hb => .inl ?_, ?_⟩
  · intro id cs hid
    obtain ⟨b, cur, ty, c1, c2, c3, c4, c5, c6⟩ := h.cells id cs (heq _ _ hid)
    refine ⟨b, cur, ty, c1, c2, c3, c4, fun j x hx => hext.relp (c5 j x hx), fun o ho => ?_⟩
    rcases ho with ho | ⟨id', cs', h1, h2, h3, h4⟩
    · exact c6 o ho
    · have := h.inj id id' b (by rw [heq _ _ hid]; simp) (by rw [h1]; simp) c1 h3
      subst this
      rw [hid] at h2
      cases h2
  · intro id es hid
    obtain ⟨b, vs, clock, c1, c2, c3, c4⟩ := h.maps id es (heq _ _ hid)
    refine ⟨b, vs, clock, c1, c2, c3, fun i a x hx => ?_⟩
    obtain ⟨e, e1, e2, e3⟩ := c4 i a x hx
    exact ⟨e, e1, hext.rel e2, hext.rel e3⟩
  · intro g hg
    obtain ⟨r, cur, c1, c2, c3, c4, c5, c6, c7⟩ := h.rows g hg
    refine ⟨r, cur, c1, c2, c3, c4, c5, fun o ho => ?_, fun id hid => c7 id (hne _ hid)⟩
    rcases ho with ho | ⟨id', cs', h1, h2, h3, h4⟩
    · exact c6 o ho
    · exact absurd h3 (c7 id' (by rw [h1]; simp))
  · intro b o hb
    rcases hb with hb | ⟨id', cs', h1, h2, h3, h4⟩
    · exact h.prot b o hb
    · obtain ⟨b', cur, ty, c1, c2, c3, c4, c5, c6⟩ := h.cells id' cs' h1
      rw [h3] at c1
      cases c1
      exact ⟨cur[o]'(by omega), by rw [cell_of_row w b o cur ty (0, 0) c2]; exact Array.getElem?_eq_getElem (by omega)⟩
  · rcases hb with ⟨id, h1, h2⟩ | hb
    · exact .inl ⟨id, hne _ h1, h2⟩
    · exact .inr hb
  · intro b o hb
    rcases hb with hb | ⟨id', cs', h1, h2, h3, h4⟩
    · exact .inl hb
    · exact .inr (.inl (.inl ⟨id', by rw [h1]; simp, h3⟩))
/-- A value, its boxes never written again. -/
inductive Frz (s s0 : Hp) : A → A → Prop where
  | le {x y : A} : A.le x y → Frz s s0 x y
  | sb (id off esz n c : Nat) (cs : List A) (xs : List (List A)) : s id = some (.cells cs) → s0 id = none → off + n * esz ≤ cs.length → xs.length = n → (∀ (i : Nat) (x : List A), xs[i]? = some x → x = ((cs.drop (off + i * esz)).take esz).map A.strip) → Frz s s0 (.sb id off esz n c) (.sl esz xs .no)
  | agg (xs ys : List A) : xs.length = ys.length → (∀ (j : Nat) (x y : A), xs[j]? = some x → ys[j]? = some y → Frz s s0 x y) → Frz s s0 (.agg xs) (.agg ys)
  | tup (xs ys : List A) : xs.length = ys.length → (∀ (j : Nat) (x y : A), xs[j]? = some x → ys[j]? = some y → Frz s s0 x y) → Frz s s0 (.tup xs) (.tup ys)
theorem Frz.rel {w : World} {E : Env} {s s0 : Hp} {k : Nat → Tk} (h : InvS w E s k) {x y : A} (hf : Frz s s0 x y) : ∀ {v : Value}, Rel w E x v → Rel w (E.frz s s0) y v := by
  have hm : ∀ {x : A} {v : Value}, Rel w E x v → Rel w (E.frz s s0) x v := fun hr => Rel.mono (E := E) (E' := E.frz s s0) (fun b o hb => ⟨Or.inl hb, rfl⟩) (fun _ _ h => h) hr
  induction hf with
  | le hle => intro v hr; exact hm (hle.rel _ _ _ hr)
  | sb id off esz n c cs xs h1 h2 h3 h4 h5 =>
    intro v hr
    cases hr with
    | sb _ _ _ _ _ b o hb hn hmx ho =>
      obtain ⟨b', cur, ty, c1, c2, c3, c4, c5, c6⟩ := h.cells id cs h1
      rw [hb] at c1
      cases c1
      subst h4
      have hlen : ∀ (i : Nat) (x : List A), xs[i]? = some x → x.length = esz := by
        intro i x hx
        have hi := (List.getElem?_eq_some_iff.1 hx).1
        rw [h5 i x hx]
        have : (i + 1) * esz ≤ xs.length * esz := Nat.mul_le_mul_right _ hi
        rw [Nat.add_mul] at this
        simp only [List.length_map, List.length_take, List.length_drop]
        omega
      have hlt : ∀ i j, i < xs.length → j < esz → off + (i * esz + j) < cs.length := by
        intro i j hi hj
        have := idx_lt (esz := esz) hi hj
        omega
      refine .sl esz xs .no (some ⟨b, o, none⟩) c (fun i j => cur.getD (off + (i * esz + j)) Go.undef) hn hmx (by simp) (by simp) hlen ?_ ?_
      · intro i j hi hj
        have hl := hlt i j hi hj
        have hoo := ho (by omega)
        subst hoo
        refine ⟨b, o, rfl, .inr ⟨id, cs, h1, h2, hb, hl⟩, ?_, c4 _ hl⟩
        rw [cell_of_row w b _ cur ty (0, 0) c2, Array.getD_eq_getD_getElem?, Array.getElem?_eq_getElem (by omega)]
        rfl
      · intro i x j y hx hy
        have hi := (List.getElem?_eq_some_iff.1 hx).1
        rw [h5 i x hx, List.getElem?_map, Option.map_eq_some_iff] at hy
        obtain ⟨z, hz, rfl⟩ := hy
        rw [List.getElem?_take] at hz
        split at hz
        · rw [List.getElem?_drop, Nat.add_assoc] at hz
          exact hm ((c5 _ z hz).rel.strip)
        · cases hz
  | agg xs ys hl _ ih =>
    intro v hr
    cases hr with
    | agg _ vs q1 q2 q3 =>
      refine .agg ys vs (by omega) (fun j hj => q2 j (by omega)) fun j y hy => ?_
      have hj : j < xs.length := by have := (List.getElem?_eq_some_iff.1 hy).1; omega
      exact ih j xs[j] y (List.getElem?_eq_getElem hj) hy (q3 j _ (List.getElem?_eq_getElem hj))
  | tup xs ys hl _ ih =>
    intro v hr
    cases hr with
    | tup _ vs q1 q2 =>
      refine .tup ys vs (by omega) fun j y hy => ?_
      have hj : j < xs.length := by have := (List.getElem?_eq_some_iff.1 hy).1; omega
      exact ih j xs[j] y (List.getElem?_eq_getElem hj) hy (q2 j _ (List.getElem?_eq_getElem hj))
/-- Tokens that the call made are forgotten; what was written bears none. -/
theorem Reach.forgetK {w : World} {E : Env} {s : Hp} {k : Nat → Tk} (h0 : InvS w E s k) {w' : World} {E' : Env} {s' : Hp} {k' : Nat → Tk} (h : Reach w E s k w' E' s' k') (hk : KExt k k')
    (hc : ∀ id cs, s' id = some (.cells cs) → s id = some (.cells cs) ∨ ∀ x ∈ cs, ∀ esz xs g e, x ≠ .sl esz xs (.own g e)) : Reach w E s k w' E' s' k := by
  refine ⟨⟨?_, h.S.maps, h.S.inj, fun g hg => h.S.rows g ((hk g (by rw [hg]; simp)).trans hg), fun g g' r r' hg hg' => h.S.rinj g g' r r' ((hk g (by rw [hg]; simp)).trans hg) ((hk g' (by rw [hg']; simp)).trans hg'), h.S.prot, ?_⟩,
    ⟨h.ext.F, h.ext.μ, fun g hg => ⟨hg, fun hl => ⟨hl, ((h.ext.tok g hg).2 ((hk g hg).trans hl)).2⟩⟩⟩, h.agree, fun b hb => ?_, h.prot⟩
  · intro id cs hid
    obtain ⟨b, cur, ty, c1, c2, c3, c4, c5, c6⟩ := h.S.cells id cs hid
    refine ⟨b, cur, ty, c1, c2, c3, c4, fun j x hx => ⟨(c5 j x hx).rel, fun esz xs g e he => ?_⟩, c6⟩
    rcases hc id cs hid with hq | hq
    · obtain ⟨b0, cur0, ty0, d1, d2, d3, d4, d5, d6⟩ := h0.cells id cs hq
      obtain ⟨a1, a2⟩ := (d5 j x hx).tok esz xs g e he
      obtain ⟨b1, b2⟩ := (c5 j x hx).tok esz xs g e he
      exact ⟨a1, fun hl => b2 ((hk g a1).trans hl)⟩
    · exact absurd he (hq x (List.mem_of_getElem? hx) esz xs g e)
  · obtain ⟨N, hN⟩ := h.S.fin
    obtain ⟨M, hM⟩ := h0.fin
    exact ⟨max N M, fun i hi => ⟨(hN i (by omega)).1, (hM i (by omega)).2⟩⟩
  · rcases hb with hb | ⟨g, r, g1, g2, g3⟩
    · exact h.base b (.inl hb)
    · exact h.base b (.inr ⟨g, r, (hk g (by rw [g1]; simp)).trans g1, g2, g3⟩)
/-- At a function's end: nothing has changed that was there. -/
def OutQ (s : Hp) (k : Nat → Tk) (r : A) (r1 : A) (st : St) : Prop := Frz st.s s r1 r ∧ SExt s st.s ∧ KExt k st.k
/-- At a function's end: what the call comes to. -/
def OutR (s : Hp) (k : Nat → Tk) (R : A → Hp → (Nat → Tk) → Prop) (r1 : A) (st : St) : Prop := ∃ r s' k', R r s' k' ∧ Frz st.s s' r1 r ∧ (∀ id, s' id = none ∨ s' id = st.s id) ∧
  (k' = st.k ∨ (k' = k ∧ KExt k st.k ∧ ∀ id cs, s' id = some (.cells cs) → s id = some (.cells cs) ∨ ∀ x ∈ cs, ∀ esz xs g e, x ≠ .sl esz xs (.own g e)))
theorem run_callFunc {P : Program} {f : FuncId} {fn : Func} {c : Code} (hf : P.funcs[f]? = some fn) (hname : (fn.name == "runtime.NumGoroutine") = false) (hb : fn.body = some c) (vs : Array Value) (w : World) : (callFunc f vs).run P w = .ok (.enter f vs) w := by
  simp only [callFunc, Sem.run_bind, run_program, Result.andThen_ok, hf, hname, Bool.false_eq_true, if_false, hb, Option.isNone_some, Sem.run_pure]
theorem spec_any {P : Program} (hm : P.follows .mixedOrders = true) {f : FuncId} {fn : Func} {c : Code} {pc : PC} {rs : List RV} (hf : P.funcs[f]? = some fn) (hname : (fn.name == "runtime.NumGoroutine") = false) (hb : fn.body = some c) (htr : trCode P B fn.ntmps c = some pc.bare) (hrs : trRes P fn.results = some rs)
    {args : List A} (hn : args.length ≤ fn.ntmps) (hnt : ∀ x ∈ args, ∀ esz xs g e, x ≠ .sl esz xs (.own g e)) {s : Hp} {k : Nat → Tk} {R : A → Hp → (Nat → Tk) → Prop}
    (h : pwp P pc (bodyQ rs (OutR s k R)) ⟨initT args, s, k⟩) : SpecR P f args s k R := by
  intro w E vs hS hl hr
  have hc := calls_body hm hf hb htr hrs hn h hS hl hr hnt
  unfold CallsV
  rw [run_callFunc hf hname hb]
  refine Calls.mono hc fun e w' h => ?_
  obtain ⟨v, rfl, r1, st1, E', ⟨r, s', k', h1, h2, h3, h4⟩, h5, h6⟩ := h
  have h7 := h5.trans (h5.S.freezeAll h3)
  refine ⟨v, rfl, r, s', k', h1, _, ?_, h2.rel h5.S h6⟩
  rcases h4 with rfl | ⟨rfl, h8, h9⟩
  · exact h7
  · exact h7.forgetK hS h8 h9
/-- A function's contract, where it changes nothing that was there. -/
theorem spec_quiet {P : Program} (hm : P.follows .mixedOrders = true) {f : FuncId} {fn : Func} {c : Code} {pc : PC} {rs : List RV} (hf : P.funcs[f]? = some fn) (hname : (fn.name == "runtime.NumGoroutine") = false) (hb : fn.body = some c) (htr : trCode P B fn.ntmps c = some pc.bare) (hrs : trRes P fn.results = some rs)
    {args : List A} (hn : args.length ≤ fn.ntmps) (hnt : ∀ x ∈ args, ∀ esz xs g e, x ≠ .sl esz xs (.own g e)) {s : Nat → Option Blk} {k : Nat → Tk} {r : A}
    (h : pwp P pc (bodyQ rs (OutQ s k r)) ⟨initT args, s, k⟩) : Spec P f args s k r s k := by
  intro w E vs hS hl hr
  have hc := calls_body hm hf hb htr hrs hn h hS hl hr hnt
  have hcf : (callFunc f vs).run P w = .ok (.enter f vs) w := by
    simp only [callFunc, Sem.run_bind, run_program, Result.andThen_ok, hf, hname, Bool.false_eq_true, if_false, hb, Option.isNone_some, Sem.run_pure]
  unfold CallsV
  rw [hcf]
  refine Calls.mono hc fun e w' h => ?_
  obtain ⟨v, rfl, r1, st1, E', ⟨h1, h2, h3⟩, h4, h5⟩ := h
  have h7 := h4.trans (h4.S.freezeAll (s0 := s) fun id => by
    by_cases e : s id = none
    · exact .inl e
    · exact .inr (h2 id e).symm)
  exact ⟨v, rfl, _, h7.forget hS (SExt.refl s) h3, h1.rel h4.S h5⟩

end Go.Pv
