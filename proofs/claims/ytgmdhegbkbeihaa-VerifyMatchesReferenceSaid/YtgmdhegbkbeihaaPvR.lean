/- Code on abstract states; a function's contract out of its compact code. -/
import Derived.Test.YtgmdhegbkbeihaaPvP
set_option linter.unusedVariables false
set_option linter.unusedSimpArgs false
namespace Go.Pv
open Go

/-! ### Code -/
inductive PX where
  | normal
  | exit (id : Nat)
  | ret
def PX.ex : PX → Exit
  | .normal => .normal
  | .exit id => .exit id
  | .ret => .ret
def St.keep (st : St) (l : List Nat) : St := { st with t := fun i => if i ∈ l then st.t i else .undef }
/-- Less is known. -/
structure A.le (x y : A) : Prop where
  rel : ∀ w E v, Rel w E x v → Rel w E y v
  own : ∀ esz xs g e, y = .sl esz xs (.own g e) → x = y
theorem A.le.relp {x y : A} (h : A.le x y) {w : World} {E : Env} {k : Nat → Tk} {v : Value} (hr : RelP w E k x v) : RelP w E k y v :=
  ⟨h.rel w E v hr.rel, fun esz xs g e he => hr.tok esz xs g e ((h.own esz xs g e he).trans he)⟩
theorem A.le_refl (x : A) : A.le x x := ⟨fun _ _ _ h => h, fun _ _ _ _ _ => rfl⟩
theorem A.le_undef (x : A) : A.le x .undef := ⟨fun _ _ v _ => .undef v, by simp⟩
theorem A.le_no (esz : Nat) (xs : List (List A)) (t : Tok) : A.le (.sl esz xs t) (.sl esz xs .no) := ⟨fun w E v hr => by
  cases hr with
  | sl _ _ _ ad c f h1 h2 h3 h4 h5 h6 h7 => exact .sl esz xs .no ad c f h1 h2 (by simp) (by simp) h5 h6 h7, by simp⟩
theorem A.le_empty (esz esz' : Nat) (t : Tok) : A.le (.sl esz [] t) (.sl esz' [] .no) := ⟨fun w E v h => ((A.le_no _ _ _).rel w E v h).empty, by simp⟩
theorem A.le_strip (x : A) : A.le x x.strip := ⟨fun _ _ _ h => h.strip, fun esz xs g e h => absurd h (strip_ne x esz xs g e)⟩
theorem A.le.trans {x y z : A} (h : A.le x y) (h' : A.le y z) : A.le x z := ⟨fun w E v r => h'.rel w E v (h.rel w E v r), fun esz xs g e he => by
  have := h'.own esz xs g e he
  rw [this] at h
  exact (h.own esz xs g e he)⟩
/-- Cell by cell. -/
inductive A.lel : List A → List A → Prop where
  | nil : A.lel [] []
  | cons {x y : A} {xs ys : List A} : A.le x y → A.lel xs ys → A.lel (x :: xs) (y :: ys)
theorem A.lel.get {xs ys : List A} (h : A.lel xs ys) : ys.length = xs.length ∧ ∀ (j : Nat) (y : A), ys[j]? = some y → ∃ x, xs[j]? = some x ∧ A.le x y := by
  induction h with
  | nil => exact ⟨rfl, by simp⟩
  | cons hx _ ih =>
    refine ⟨by simp [ih.1], fun j y hy => ?_⟩
    cases j with
    | zero => simp at hy; subst hy; exact ⟨_, rfl, hx⟩
    | succ j => obtain ⟨x, h1, h2⟩ := ih.2 j y (by simpa using hy); exact ⟨x, by simpa using h1, h2⟩
theorem A.le_agg {xs ys : List A} (h : A.lel xs ys) : A.le (.agg xs) (.agg ys) := ⟨fun w E v hr => by
  obtain ⟨h1, h2⟩ := h.get
  cases hr with
  | agg _ vs q1 q2 q3 => exact .agg ys vs (by omega) (fun j hj => q2 j (by omega)) (fun j y hy => by obtain ⟨x, e1, e2⟩ := h2 j y hy; exact e2.rel _ _ _ (q3 j x e1)), by simp⟩
theorem A.le_tup {xs ys : List A} (h : A.lel xs ys) : A.le (.tup xs) (.tup ys) := ⟨fun w E v hr => by
  obtain ⟨h1, h2⟩ := h.get
  cases hr with
  | tup _ vs q1 q2 => exact .tup ys vs (by omega) (fun j y hy => by obtain ⟨x, e1, e2⟩ := h2 j y hy; exact e2.rel _ _ _ (q2 j x e1)), by simp⟩
structure St.le (st st' : St) : Prop where
  t : ∀ i, A.le (st.t i) (st'.t i)
  s : ∀ id, st'.s id = none ∨ st'.s id = st.s id
  k : st'.k = st.k
theorem St.le_refl (st : St) : St.le st st := ⟨fun _ => A.le_refl _, fun _ => .inr rfl, rfl⟩
theorem Inv.le {n : Nat} {w0 : World} {E0 : Env} {s0 : Nat → Option Blk} {k0 : Nat → Tk} {st st' : St} {a : Act} {w : World} {E : Env} (h : Inv n w0 E0 s0 k0 st a w E) (hl : St.le st st') : Inv n w0 E0 s0 k0 st' a w E := by
  obtain ⟨t, s, k⟩ := st
  obtain ⟨t', s', k'⟩ := st'
  obtain ⟨h1, h2, h3⟩ := hl
  simp only at h1 h2 h3
  subst h3
  exact ⟨h.reach.trans (h.reach.S.less h2), fun i => (h1 i).relp (h.tm i), h.size, h.df⟩
theorem St.le_keep (st : St) (l : List Nat) : St.le st (st.keep l) := ⟨fun i => by
  simp only [St.keep]
  split
  · exact A.le_refl _
  · exact A.le_undef _, fun _ => .inr rfl, rfl⟩

def pwp (P : Program) : PC → (PX → St → Prop) → St → Prop
  | .skip, Q, st => Q .normal st
  | .reg ins _ keep, Q, st => runs P ins (fun st' => Q .normal (match keep with
    | some l => st'.keep l
    | none => st')) st
  | .seq x y, Q, st => pwp P x (fun e st' => match e with
    | .normal => pwp P y Q st'
    | e => Q e st') st
  | .cond c x y, Q, st => match ev st c with
    | .bool true => pwp P x Q st
    | .bool false => pwp P y Q st
    | _ => False
  | .block id x, Q, st => pwp P x (fun e st' => match e with
    | .exit j => if j = id then Q .normal st' else Q (.exit j) st'
    | e => Q e st') st
  | .loop x, Q, st => ∃ I : Nat → St → Prop, (∃ st1 m, St.le st st1 ∧ I m st1) ∧ ∀ m st1, I m st1 → pwp P x (fun e st' => match e with
    | .normal => ∃ st2 m', m' < m ∧ St.le st' st2 ∧ I m' st2
    | e => Q e st') st1
  | .exit id, Q, st => Q (.exit id) st
  | .ret, Q, st => Q .ret st

def PC.bare : PC → PC
  | .reg ins d _ => .reg ins d none
  | .seq x y => .seq x.bare y.bare
  | .cond c x y => .cond c x.bare y.bare
  | .block id x => .block id x.bare
  | .loop x => .loop x.bare
  | c => c
def trCode (P : Program) (n : Nat) : Code → Option PC
  | .skip => some .skip
  | .region _ ops draw => do
    let ps ← ops.toList.mapM (trPI P ops n draw)
    if !draw || drawOK ops ps then some (.reg ps draw none) else none
  | .seq x y => do
    let x ← trCode P n x
    let y ← trCode P n y
    some (.seq x y)
  | .cond c x y => do
    let c ← opdA P 0 c
    let x ← trCode P n x
    let y ← trCode P n y
    some (.cond c x y)
  | .block id x => (trCode P n x).map (.block id)
  | .loop x => (trCode P n x).map .loop
  | .exit id => some (.exit id)
  | .ret => some .ret
  | _ => none

theorem exists_least {p : Nat → Prop} : ∀ (m : Nat), p m → ∃ l, p l ∧ ∀ k, p k → l ≤ k := by
  intro m
  induction m using Nat.strongRecOn with
  | _ m ih =>
    intro hm
    by_cases h : ∃ k, k < m ∧ p k
    · obtain ⟨k, h1, h2⟩ := h
      exact ih k h1 h2
    · refine ⟨m, hm, fun k hk => ?_⟩
      rcases Nat.lt_or_ge k m with h1 | h1
      · exact absurd ⟨k, h1, hk⟩ h
      · exact h1
open Classical in
noncomputable def leastOf (p : Nat → Prop) : Nat := if h : ∃ l, p l ∧ ∀ k, p k → l ≤ k then Classical.choose h else 0
theorem leastOf_spec {p : Nat → Prop} {m : Nat} (h : p m) : p (leastOf p) ∧ leastOf p ≤ m := by
  have hex := exists_least m h
  unfold leastOf
  rw [dif_pos hex]
  have := Classical.choose_spec hex
  exact ⟨this.1, this.2 m h⟩
theorem pwp_sound {P : Program} {n : Nat} {w0 : World} {E0 : Env} {s0 : Nat → Option Blk} {k0 : Nat → Tk} (hm : P.follows .mixedOrders = true) : ∀ (c : Code) (pc : PC), trCode P n c = some pc.bare → ∀ (Q : PX → St → Prop) (Q' : Exit → Act → World → Prop),
    (∀ e st' a' w' E', Q e st' → Inv n w0 E0 s0 k0 st' a' w' E' → Q' e.ex a' w') → ∀ (st : St) (a : Act) (w : World) (E : Env), Inv n w0 E0 s0 k0 st a w E → pwp P pc Q st → c.wp P Q' a w := by
  intro c
  induction c with
  | skip =>
    intro pc h Q Q' hQ st a w E hI hp
    cases pc <;> simp [trCode, PC.bare] at h
    exact wp_skip (hQ .normal st a w E hp hI)
  | region id ops draw =>
    intro pc h Q Q' hQ st a w E hI hp
    simp only [trCode, Option.bind_eq_bind, Option.bind_eq_some_iff] at h
    obtain ⟨ps, hps, h⟩ := h
    split at h
    case isFalse => cases h
    rename_i hd
    cases pc <;> simp [PC.bare] at h
    rename_i ins d keep
    obtain ⟨rfl, rfl⟩ := h
    simp only [pwp] at hp
    have hQ1 : ∀ st' a' w' E', (fun st' => Q .normal (match keep with
        | some l => st'.keep l
        | none => st')) st' → Inv n w0 E0 s0 k0 st' a' w' E' → Q' .normal a' w' := by
      intro st' a' w' E' hk hI'
      cases keep with
      | none => exact hQ .normal st' a' w' E' hk hI'
      | some l => exact hQ .normal _ a' w' E' hk (hI'.le (St.le_keep st' l))
    cases draw with
    | false => exact wp_region_list (runs_sound hQ1 ops.toList ps hps st a w E hI hp)
    | true => exact draw_sound hm hQ1 hps (by simpa using hd) hI hp
  | seq x y ihx ihy =>
    intro pc h Q Q' hQ st a w E hI hp
    simp only [trCode, Option.bind_eq_bind, Option.bind_eq_some_iff, Option.some.injEq] at h
    obtain ⟨x', hx, y', hy, h⟩ := h
    cases pc <;> simp [PC.bare] at h
    rename_i px py
    obtain ⟨rfl, rfl⟩ := h
    refine wp_seq (ihx px hx _ _ ?_ st a w E hI hp)
    intro e st' a' w' E' hk hI'
    cases e with
    | normal => exact ihy py hy Q Q' hQ st' a' w' E' hI' hk
    | exit id => exact hQ (.exit id) st' a' w' E' hk hI'
    | ret => exact hQ .ret st' a' w' E' hk hI'
  | cond c x y ihx ihy =>
    intro pc h Q Q' hQ st a w E hI hp
    simp only [trCode, Option.bind_eq_bind, Option.bind_eq_some_iff, Option.some.injEq] at h
    obtain ⟨c', hc, x', hx, y', hy, h⟩ := h
    cases pc <;> simp [PC.bare] at h
    rename_i pc' px py
    obtain ⟨rfl, rfl, rfl⟩ := h
    have hr := (opdA_rel hc hI.tm).rel
    simp only [pwp] at hp
    split at hp
    · rename_i he
      exact wp_cond_true (rel_bool hr he) (ihx px hx Q Q' hQ st a w E hI hp)
    · rename_i he
      exact wp_cond_false (rel_bool hr he) (ihy py hy Q Q' hQ st a w E hI hp)
    · exact hp.elim
  | block id x ih =>
    intro pc h Q Q' hQ st a w E hI hp
    simp only [trCode, Option.map_eq_some_iff] at h
    obtain ⟨x', hx, h⟩ := h
    cases pc <;> simp [PC.bare] at h
    rename_i id' px
    obtain ⟨rfl, rfl⟩ := h
    refine wp_block (ih px hx _ _ ?_ st a w E hI hp)
    intro e st' a' w' E' hk hI'
    cases e with
    | normal => exact hQ .normal st' a' w' E' hk hI'
    | exit j =>
      simp only at hk
      simp only [PX.ex, Exit.inBlock]
      by_cases e : j = id
      · rw [if_pos e] at hk ⊢; exact hQ .normal st' a' w' E' hk hI'
      · rw [if_neg e] at hk ⊢; exact hQ (.exit j) st' a' w' E' hk hI'
    | ret => exact hQ .ret st' a' w' E' hk hI'
  | loop x ih =>
    intro pc h Q Q' hQ st a w E hI hp
    simp only [trCode, Option.map_eq_some_iff] at h
    obtain ⟨x', hx, h⟩ := h
    cases pc <;> simp [PC.bare] at h
    rename_i px
    subst h
    obtain ⟨I, ⟨st1, m, hle, hI0⟩, hbody⟩ := hp
    let J : Nat → Act → World → Prop := fun m a w => ∃ st E, I m st ∧ Inv n w0 E0 s0 k0 st a w E
    let μ : Act → World → Nat := fun a w => leastOf fun m => J m a w
    have hμ : ∀ a w m, J m a w → J (μ a w) a w ∧ μ a w ≤ m := by
      intro a w m hm
      exact leastOf_spec (p := fun m => J m a w) hm
    refine wp_loop (fun a w => J (μ a w) a w) μ (hμ a w m ⟨st1, E, hI0, hI.le hle⟩).1 ?_
    rintro a w ⟨st2, E2, hI2, hInv2⟩
    refine ih px hx _ _ ?_ st2 a w E2 hInv2 (hbody _ _ hI2)
    intro e st' a' w' E' hk hI'
    cases e with
    | normal =>
      obtain ⟨st3, m', hlt, hle3, hI3⟩ := hk
      have := hμ a' w' m' ⟨st3, E', hI3, hI'.le hle3⟩
      exact ⟨this.1, Nat.lt_of_le_of_lt this.2 hlt⟩
    | exit id => exact hQ (.exit id) st' a' w' E' hk hI'
    | ret => exact hQ .ret st' a' w' E' hk hI'
  | exit id =>
    intro pc h Q Q' hQ st a w E hI hp
    cases pc <;> simp [trCode, PC.bare] at h
    subst h
    exact wp_exit (hQ (.exit _) st a w E hp hI)
  | ret =>
    intro pc h Q Q' hQ st a w E hI hp
    cases pc <;> simp [trCode, PC.bare] at h
    exact wp_ret (hQ .ret st a w E hp hI)
  | _ => intro pc h; simp [trCode] at h

/-! ### Results -/
inductive RV where
  | tmp (t : Nat)
  | cell (t : Nat) (n : Option Nat)
def trRV (P : Program) : ResultVar → Option RV
  | .tmp t => some (.tmp t)
  | .cell t ty => (aggN P ty).map (.cell t)
def trRes (P : Program) (l : Array ResultVar) : Option (List RV) := l.toList.mapM (trRV P)
def resV (a : Act) : ResultVar → Sem Value
  | .tmp t => pure (a.tmps.getD t Go.undef)
  | .cell b t => do loadVar t (← asAddr (a.tmps.getD b Go.undef))
def resP (st : St) : List RV → (List A → Prop) → Prop
  | [], K => K []
  | .tmp t :: r, K => resP st r fun xs => K ((st.t t).strip :: xs)
  | .cell t n :: r, K => match st.t t with
    | .ptr id off => match st.s id with
      | some (.cells cs) => readP cs off n fun x => resP st r fun xs => K (x.strip :: xs)
      | _ => False
    | _ => False
def oneOf : List A → A
  | [x] => x
  | xs => .tup xs
theorem resP_sound {P : Program} {st : St} {a : Act} {w : World} {E : Env} (hS : InvS w E st.s st.k) (hT : Tm w E st a) : ∀ (l : List ResultVar) (rs : List RV), l.mapM (trRV P) = some rs → ∀ (K : List A → Prop), resP st rs K →
    ∃ vs xs, (l.mapM (resV a)).run P w = .ok vs w ∧ K xs ∧ vs.length = xs.length ∧ ∀ (j : Nat) (x : A), xs[j]? = some x → ∃ v, vs[j]? = some v ∧ Rel w E x v
  | [], rs, h, K, hk => by
    simp at h; subst h
    exact ⟨[], [], by simp, hk, rfl, by simp⟩
  | r :: l, rs, h, K, hk => by
    simp only [List.mapM_cons, Option.bind_eq_bind, Option.bind_eq_some_iff, Option.pure_def, Option.some.injEq] at h
    obtain ⟨q, hq, qs, hqs, rfl⟩ := h
    have put : ∀ (v : Value) (x : A), Rel w E x v → ∀ (vs : List Value) (xs : List A), vs.length = xs.length → (∀ (j : Nat) (x : A), xs[j]? = some x → ∃ v, vs[j]? = some v ∧ Rel w E x v) →
        (v :: vs).length = (x :: xs).length ∧ ∀ (j : Nat) (y : A), (x :: xs)[j]? = some y → ∃ u, (v :: vs)[j]? = some u ∧ Rel w E y u := by
      intro v x hx vs xs hl hr
      refine ⟨by simp [hl], fun j y hy => ?_⟩
      cases j with
      | zero => simp at hy; subst hy; exact ⟨v, rfl, hx⟩
      | succ j => exact hr j y (by simpa using hy)
    cases r with
    | tmp t =>
      simp only [trRV, Option.some.injEq] at hq
      subst hq
      obtain ⟨vs, xs, h1, h2, h3, h4⟩ := resP_sound hS hT l qs hqs _ hk
      obtain ⟨g1, g2⟩ := put _ _ (hT t).rel.strip vs xs h3 h4
      exact ⟨_, _, by simp only [List.mapM_cons, resV, Sem.run_bind, Sem.run_pure, Result.andThen_ok, h1], h2, g1, g2⟩
    | cell t ty =>
      simp only [trRV, Option.map_eq_some_iff] at hq
      obtain ⟨n, hn, rfl⟩ := hq
      simp only [resP] at hk
      have hr := (hT t).rel
      split at hk
      · rename_i id off he
        rw [he] at hr
        generalize hX : a.tmps.getD t Go.undef = X' at hr
        cases hr with
        | ptr _ _ b hb =>
          split at hk
          · rename_i cs hcs
            obtain ⟨b', cur, ty', c1, c2, c3, c4, c5, c6⟩ := hS.cells id cs hcs
            rw [hb] at c1
            cases c1
            obtain ⟨v, y, h1, h2, h3, _⟩ := read_cells (P := P) (w := w) (E := E) (b := b) (o := 0) (f := fun j => cur.getD j Go.undef) hn
              (fun j hj => ⟨by rw [Nat.zero_add, cell_of_row w b j cur ty' (0, 0) c2, Array.getD_eq_getD_getElem?, Array.getElem?_eq_getElem (by omega)]; rfl, c4 j hj⟩) (fun j x hx => (c5 j x hx).rel) hk
            rw [Nat.zero_add] at h1
            obtain ⟨vs, xs, g1, g2, g3, g4⟩ := resP_sound hS hT l qs hqs _ h2
            obtain ⟨f1, f2⟩ := put _ _ h3.strip vs xs g3 g4
            exact ⟨_, _, by simp only [List.mapM_cons, resV, hX, asAddr, Sem.run_bind, Sem.run_pure, Result.andThen_ok, h1, g1], g2, f1, f2⟩
          · exact hk.elim
      · exact hk.elim


/-- What the code comes to, at a function's end. -/
def bodyQ (rs : List RV) (R : A → St → Prop) : PX → St → Prop
  | .normal, st | .ret, st => resP st rs fun xs => R (oneOf xs) st
  | .exit _, _ => False
def initT (args : List A) : Nat → A := fun i => args[i]?.getD .undef

theorem run_results {P : Program} {fn : Func} {rs : List RV} (hrs : trRes P fn.results = some rs) {st : St} {a : Act} {w : World} {E : Env} (hS : InvS w E st.s st.k) (hT : Tm w E st a) {K : List A → Prop} (hk : resP st rs K) :
    ∃ v xs, (results fn a.tmps).run P w = .ok v w ∧ K xs ∧ Rel w E (oneOf xs) v := by
  obtain ⟨vs, xs, h1, h2, h3, h4⟩ := resP_sound (P := P) hS hT fn.results.toList rs hrs K hk
  have hm : (fn.results.mapM (resV a)).run P w = .ok vs.toArray w := by
    have : fn.results = fn.results.toList.toArray := by simp
    rw [this, List.mapM_toArray, Sem.run_map, h1]
    rfl
  have hfun : (fun | .tmp t => pure (a.tmps.getD t Go.undef) | .cell b t => do loadVar t (← asAddr (a.tmps.getD b Go.undef)) : ResultVar → Sem Value) = resV a := by
    funext r
    cases r <;> rfl
  refine ⟨if h : vs.toArray.size = 1 then vs.toArray[0] else .tuple vs.toArray, xs, ?_, h2, ?_⟩
  · unfold results
    have e : (results fn a.tmps) = (do let vs ← fn.results.mapM (resV a); pure (if h : vs.size = 1 then vs[0] else .tuple vs)) := by
      unfold results
      rw [← hfun]
      rfl
    unfold results at e
    rw [e, Sem.run_bind, hm]
    rfl
  · have hs : vs.toArray.size = xs.length := by simpa using h3
    by_cases h1 : vs.toArray.size = 1
    · rw [dif_pos h1]
      match xs, vs, hs, h4 with
      | [x], [v], _, h4 =>
        obtain ⟨u, hu, hr⟩ := h4 0 x rfl
        simp at hu
        subst hu
        exact hr
      | [], vs, hs, _ => rw [hs] at h1; simp at h1
      | [x], [], hs, _ => simp at hs
      | [x], _ :: _ :: _, hs, _ => simp at hs
      | _ :: _ :: _, vs, hs, _ => rw [hs] at h1; simp at h1
    · rw [dif_neg h1]
      have ho : oneOf xs = .tup xs := by
        match xs, hs with
        | [], _ => rfl
        | [x], hs => exact absurd hs h1
        | _ :: _ :: _, _ => rfl
      rw [ho]
      refine .tup xs _ hs fun j x hx => ?_
      obtain ⟨v, hv, hr⟩ := h4 j x hx
      rw [Array.getD_eq_getD_getElem?, List.getElem?_toArray, hv]
      exact hr

/-- Nothing but new boxes; nothing but new tokens. -/
def SExt (s s' : Nat → Option Blk) : Prop := ∀ id, s id ≠ none → s' id = s id
def KExt (k k' : Nat → Tk) : Prop := ∀ g, k g ≠ .unused → k' g = k g
theorem SExt.refl (s : Nat → Option Blk) : SExt s s := fun _ _ => rfl
theorem KExt.refl (k : Nat → Tk) : KExt k k := fun _ _ => rfl
theorem SExt.new {s s' : Nat → Option Blk} (h : SExt s s') {id : Nat} (hid : s' id = none) (x : Option Blk) : SExt s (upd s' id x) := fun i hi => by
  by_cases e : i = id
  · subst e; rw [h i hi] at hid; exact absurd hid hi
  · rw [upd_other _ _ _ _ e]; exact h i hi
theorem SExt.old {s s' : Nat → Option Blk} (h : SExt s s') {id : Nat} (hid : s id = none) (x : Option Blk) : SExt s (upd s' id x) := fun i hi => by
  by_cases e : i = id
  · subst e; exact absurd hid hi
  · rw [upd_other _ _ _ _ e]; exact h i hi
theorem SExt.none {s s' : Nat → Option Blk} (h : SExt s s') {id : Nat} (hid : s' id = none) : s id = none := by
  cases hs : s id with
  | none => rfl
  | some x => have := h id (by simp [hs]); rw [this, hs] at hid; cases hid
theorem KExt.new {k k' : Nat → Tk} (h : KExt k k') {g : Nat} (hg : k' g = .unused) (x : Tk) : KExt k (upd k' g x) := fun i hi => by
  by_cases e : i = g
  · subst e; rw [h i hi] at hg; exact absurd hg hi
  · rw [upd_other _ _ _ _ e]; exact h i hi
theorem KExt.old {k k' : Nat → Tk} (h : KExt k k') {g : Nat} (hg : k g = .unused) (x : Tk) : KExt k (upd k' g x) := fun i hi => by
  by_cases e : i = g
  · subst e; exact absurd hg hi
  · rw [upd_other _ _ _ _ e]; exact h i hi
theorem KExt.unused {k k' : Nat → Tk} (h : KExt k k') {g : Nat} (hg : k' g = .unused) : k g = .unused := by
  cases hk : k g with
  | unused => rfl
  | live => have := h g (by simp [hk]); rw [this, hk] at hg; cases hg
  | dead => have := h g (by simp [hk]); rw [this, hk] at hg; cases hg

/-- What the call made besides is forgotten. -/
theorem Reach.forget {w : World} {E : Env} {s : Nat → Option Blk} {k : Nat → Tk} (h0 : InvS w E s k) {w' : World} {E' : Env} {s' : Nat → Option Blk} {k' : Nat → Tk} (h : Reach w E s k w' E' s' k') (hs : SExt s s') (hk : KExt k k') : Reach w E s k w' E' s k := by
  have h1 := h.trans (h.S.less (s' := s) fun id => by
    by_cases e : s id = none
    · exact .inl e
    · exact .inr (hs id e).symm)
  have htok : ∀ (x : A) (v v' : Value), RelP w E k x v → RelP w' E' k' x v' → RelP w' E' k x v' := by
    intro x v v' hx hx'
    refine ⟨hx'.rel, fun esz xs g e he => ?_⟩
    obtain ⟨a1, a2⟩ := hx.tok esz xs g e he
    obtain ⟨b1, b2⟩ := hx'.tok esz xs g e he
    exact ⟨a1, fun hl => b2 ((hk g a1).trans hl)⟩
  refine ⟨⟨?_, h1.S.maps, h1.S.inj, fun g hg => h1.S.rows g ((hk g (by rw [hg]; simp)).trans hg), fun g g' r r' hg hg' => h1.S.rinj g g' r r' ((hk g (by rw [hg]; simp)).trans hg) ((hk g' (by rw [hg']; simp)).trans hg'), h1.S.prot, ?_⟩,
    ⟨h1.ext.F, h1.ext.μ, fun g hg => ⟨hg, fun hl => ⟨hl, ((h1.ext.tok g hg).2 ((hk g hg).trans hl)).2⟩⟩⟩, h1.agree, fun b hb => ?_⟩
  · intro id cs hid
    obtain ⟨b, cur, ty, c1, c2, c3, c4, c5, c6⟩ := h1.S.cells id cs hid
    obtain ⟨b0, cur0, ty0, d1, d2, d3, d4, d5, d6⟩ := h0.cells id cs hid
    exact ⟨b, cur, ty, c1, c2, c3, c4, fun j x hx => htok x _ _ (d5 j x hx) (c5 j x hx), c6⟩
  · obtain ⟨N, hN⟩ := h1.S.fin
    obtain ⟨M, hM⟩ := h0.fin
    exact ⟨max N M, fun i hi => ⟨(hN i (by omega)).1, (hM i (by omega)).2⟩⟩
  · rcases hb with hb | ⟨g, r, g1, g2, g3⟩
    · exact h1.base b (.inl hb)
    · exact h1.base b (.inr ⟨g, r, (hk g (by rw [g1]; simp)).trans g1, g2, g3⟩)

theorem calls_body {P : Program} (hm : P.follows .mixedOrders = true) {f : FuncId} {fn : Func} {c : Code} {pc : PC} {rs : List RV} (hf : P.funcs[f]? = some fn) (hb : fn.body = some c) (htr : trCode P fn.ntmps c = some pc.bare) (hrs : trRes P fn.results = some rs)
    {args : List A} (hn : args.length ≤ fn.ntmps) {s : Nat → Option Blk} {k : Nat → Tk} {R : A → St → Prop} (h : pwp P pc (bodyQ rs R) ⟨initT args, s, k⟩) {w : World} {E : Env} {vs : Array Value} (hS : InvS w E s k) (hl : vs.size = args.length)
    (hr : ∀ j x, args[j]? = some x → Rel w E x (vs.getD j Go.undef)) (hnt : ∀ x ∈ args, ∀ esz xs g e, x ≠ .sl esz xs (.own g e)) :
    Calls P f vs w fun e w' => ∃ v, e = .returned v ∧ ∃ r st E', R r st ∧ Reach w E s k w' E' st.s st.k ∧ Rel w' E' r v := by
  refine calls_of_wp hf hb ?_
  have hI : Inv fn.ntmps w E s k ⟨initT args, s, k⟩ { tmps := vs ++ Array.replicate (fn.ntmps - vs.size) Go.undef, defers := [] } w E := by
    refine ⟨Reach.refl hS, fun j => ?_, by simp; omega, rfl⟩
    simp only [initT]
    cases hj : args[j]? with
    | none => exact relp_of (.undef _) (by simp)
    | some x =>
      have hlt : j < args.length := (List.getElem?_eq_some_iff.1 hj).1
      rw [Array.getD_eq_getD_getElem?, Array.getElem?_append_left (by omega), ← Array.getD_eq_getD_getElem?]
      exact relp_of (hr j x hj) (hnt x (List.mem_of_getElem? hj))
  refine pwp_sound hm c pc htr (bodyQ rs R) _ ?_ _ _ w E hI h
  intro e st' a' w' E' hq hI'
  have fin : ∀ K : List A → Prop, (∀ xs, K xs → R (oneOf xs) st') → resP st' rs K → a'.defers = [] ∧ ∃ v, (results fn a'.tmps).run P w' = .ok v w' ∧ ∃ v', Ending.returned v = .returned v' ∧ ∃ r st E', R r st ∧ Reach w E s k w' E' st.s st.k ∧ Rel w' E' r v' := by
    intro K hK hq
    obtain ⟨v, xs, g1, g2, g3⟩ := run_results hrs hI'.reach.S hI'.tm hq
    exact ⟨hI'.df, v, g1, v, rfl, _, _, _, hK xs g2, hI'.reach, g3⟩
  cases e with
  | normal => exact fin _ (fun xs h => h) hq
  | ret => exact fin _ (fun xs h => h) hq
  | exit id => exact hq.elim

/-- A function's contract, where it changes nothing that was there. -/
theorem spec_quiet {P : Program} (hm : P.follows .mixedOrders = true) {f : FuncId} {fn : Func} {c : Code} {pc : PC} {rs : List RV} (hf : P.funcs[f]? = some fn) (hname : (fn.name == "runtime.NumGoroutine") = false) (hb : fn.body = some c) (htr : trCode P fn.ntmps c = some pc.bare) (hrs : trRes P fn.results = some rs)
    {args : List A} (hn : args.length ≤ fn.ntmps) (hnt : ∀ x ∈ args, ∀ esz xs g e, x ≠ .sl esz xs (.own g e)) {s : Nat → Option Blk} {k : Nat → Tk} {r : A}
    (h : pwp P pc (bodyQ rs fun r1 st1 => A.le r1 r ∧ SExt s st1.s ∧ KExt k st1.k) ⟨initT args, s, k⟩) : Spec P f args s k r s k := by
  intro w E vs hS hl hr
  have hc := calls_body hm hf hb htr hrs hn h hS hl hr hnt
  have hcf : (callFunc f vs).run P w = .ok (.enter f vs) w := by
    simp only [callFunc, Sem.run_bind, run_program, Result.andThen_ok, hf, hname, Bool.false_eq_true, if_false, hb, Option.isNone_some, Sem.run_pure]
  unfold CallsV
  rw [hcf]
  refine Calls.mono hc fun e w' h => ?_
  obtain ⟨v, rfl, r1, st1, E', ⟨h1, h2, h3⟩, h4, h5⟩ := h
  exact ⟨v, rfl, E', h4.forget hS h2 h3, h1.rel _ _ _ h5⟩

end Go.Pv
