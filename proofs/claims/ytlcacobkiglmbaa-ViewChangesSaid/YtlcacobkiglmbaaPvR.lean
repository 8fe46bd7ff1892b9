/- Code on abstract states; a function's contract out of its compact code. -/
import Derived.Test.YtlcacobkiglmbaaPvY
import Derived.Scope
set_option linter.unusedVariables false
set_option linter.unusedSimpArgs false
namespace Go.Pv
open Go
variable {B : List Nat}

/-! ### Code -/
inductive PX where
  | normal
  | exit (id : Nat)
  | ret
def PX.ex : PX → Exit
  | .normal => .normal
  | .exit id => .exit id
  | .ret => .ret
def St.keep (st : St) (l : List Nat) : St := { st with t := fun i => if i ∈ l then st.t i else .undef }
/-- Less is known. -/
structure A.le (x y : A) : Prop where
  rel : ∀ w E v, Rel w E x v → Rel w E y v
  own : ∀ esz xs g e, y = .sl esz xs (.own g e) → x = y
theorem A.le.relp {x y : A} (h : A.le x y) {w : World} {E : Env} {k : Nat → Tk} {v : Value} (hr : RelP w E k x v) : RelP w E k y v :=
  ⟨h.rel w E v hr.rel, fun esz xs g e he => hr.tok esz xs g e ((h.own esz xs g e he).trans he)⟩
theorem A.le_refl (x : A) : A.le x x := ⟨fun _ _ _ h => h, fun _ _ _ _ _ => rfl⟩
theorem A.le_undef (x : A) : A.le x .undef := ⟨fun _ _ v _ => .undef v, by simp⟩
theorem A.le_no (esz : Nat) (xs : List (List A)) (t : Tok) : A.le (.sl esz xs t) (.sl esz xs .no) := ⟨fun w E v hr => by
  cases hr with
  | sl _ _ _ ad c f h1 h2 h3 h4 h5 h6 h7 => exact .sl esz xs .no ad c f h1 h2 (by simp) (by simp) h5 h6 h7, by simp⟩
theorem A.le_empty (esz esz' : Nat) (t : Tok) : A.le (.sl esz [] t) (.sl esz' [] .no) := ⟨fun w E v h => ((A.le_no _ _ _).rel w E v h).empty, by simp⟩
theorem A.le_strip (x : A) : A.le x x.strip := ⟨fun _ _ _ h => h.strip, fun esz xs g e h => absurd h (strip_ne x esz xs g e)⟩
theorem A.le.trans {x y z : A} (h : A.le x y) (h' : A.le y z) : A.le x z := ⟨fun w E v r => h'.rel w E v (h.rel w E v r), fun esz xs g e he => by
  have := h'.own esz xs g e he
  rw [this] at h
  exact (h.own esz xs g e he)⟩
/-- Cell by cell. -/
inductive A.lel : List A → List A → Prop where
  | nil : A.lel [] []
  | cons {x y : A} {xs ys : List A} : A.le x y → A.lel xs ys → A.lel (x :: xs) (y :: ys)
theorem A.lel.get {xs ys : List A} (h : A.lel xs ys) : ys.length = xs.length ∧ ∀ (j : Nat) (y : A), ys[j]? = some y → ∃ x, xs[j]? = some x ∧ A.le x y := by
  induction h with
  | nil => exact ⟨rfl, by simp⟩
  | cons hx _ ih =>
    refine ⟨by simp [ih.1], fun j y hy => ?_⟩
    cases j with
    | zero => simp at hy; subst hy; exact ⟨_, rfl, hx⟩
    | succ j => obtain ⟨x, h1, h2⟩ := ih.2 j y (by simpa using hy); exact ⟨x, by simpa using h1, h2⟩
theorem A.le_agg {xs ys : List A} (h : A.lel xs ys) : A.le (.agg xs) (.agg ys) := ⟨fun w E v hr => by
  obtain ⟨h1, h2⟩ := h.get
  cases hr with
  | agg _ vs q1 q2 q3 => exact .agg ys vs (by omega) (fun j hj => q2 j (by omega)) (fun j y hy => by obtain ⟨x, e1, e2⟩ := h2 j y hy; exact e2.rel _ _ _ (q3 j x e1)), by simp⟩
theorem A.le_tup {xs ys : List A} (h : A.lel xs ys) : A.le (.tup xs) (.tup ys) := ⟨fun w E v hr => by
  obtain ⟨h1, h2⟩ := h.get
  cases hr with
  | tup _ vs q1 q2 => exact .tup ys vs (by omega) (fun j y hy => by obtain ⟨x, e1, e2⟩ := h2 j y hy; exact e2.rel _ _ _ (q2 j x e1)), by simp⟩
structure St.le (st st' : St) : Prop where
  t : ∀ i, A.le (st.t i) (st'.t i)
  s : ∀ id, st'.s id = none ∨ st'.s id = st.s id
  k : st'.k = st.k
theorem St.le_refl (st : St) : St.le st st := ⟨fun _ => A.le_refl _, fun _ => .inr rfl, rfl⟩
theorem Inv.le {n : Nat} {w0 : World} {E0 : Env} {s0 : Nat → Option Blk} {k0 : Nat → Tk} {st st' : St} {a : Act} {w : World} {E : Env} (h : Inv n w0 E0 s0 k0 st a w E) (hl : St.le st st') : Inv n w0 E0 s0 k0 st' a w E := by
  obtain ⟨t, s, k⟩ := st
  obtain ⟨t', s', k'⟩ := st'
  obtain ⟨h1, h2, h3⟩ := hl
  simp only at h1 h2 h3
  subst h3
  exact ⟨h.reach.trans (h.reach.S.less h2), fun i => (h1 i).relp (h.tm i), h.size, h.df⟩
theorem St.le_keep (st : St) (l : List Nat) : St.le st (st.keep l) := ⟨fun i => by
  simp only [St.keep]
  split
  · exact A.le_refl _
  · exact A.le_undef _, fun _ => .inr rfl, rfl⟩

/-- The slots that a range's step writes. -/
def Rng.d (r : Rng) : List Nat := [r.nx, r.c, r.e, r.f]
def clobT (l : List Nat) (t : Nat → A) : Nat → A := fun q => if l.contains q then .undef else t q
def pwp (P : Program) : PC → (PX → St → Prop) → St → Prop
  | .skip, Q, st => Q .normal st
  | .reg ins _ keep, Q, st => runs P ins (fun st' => Q .normal (match keep with
    | some l => st'.keep l
    | none => st')) st
  | .regR bs ins, Q, st => takeR bs st.t st.s (fun _ => none) fun s h => runsR P ins (fun st' h' => Q .normal (mst st' h')) ⟨st.t, s, st.k⟩ h
  | .seq x y, Q, st => pwp P x (fun e st' => match e with
    | .normal => pwp P y Q st'
    | e => Q e st') st
  | .cond c x y, Q, st => match ev st c with
    | .bool true => pwp P x Q st
    | .bool false => pwp P y Q st
    | _ => False
  | .block id x, Q, st => pwp P x (fun e st' => match e with
    | .exit j => if j = id then Q .normal st' else Q (.exit j) st'
    | e => Q e st') st
  | .loop x, Q, st => ∃ I : Nat → St → Prop, (∃ st1 m, St.le st st1 ∧ I m st1) ∧ ∀ m st1, I m st1 → pwp P x (fun e st' => match e with
    | .normal => ∃ st2 m', m' < m ∧ St.le st' st2 ∧ I m' st2
    | e => Q e st') st1
  | .exit id, Q, st => Q (.exit id) st
  | .ret, Q, st => Q .ret st
  | .rng r b, Q, st => runs P r.pre (fun st1 => ∃ mid es, st1.t r.ml = .map mid ∧ st1.s mid = some (.map es) ∧ ∀ iid, st1.s iid = none → ∃ I : List (A × A) → St → Prop,
      (∃ st2, St.le ⟨upd (clobT r.d st1.t) r.it (.ptr iid 0), upd st1.s mid none, st1.k⟩ st2 ∧ I es st2) ∧ ∀ left st2, I left st2 → st2.t r.it = .ptr iid 0 ∧ (left = [] → Q .normal ⟨clobT r.d st2.t, st2.s, st2.k⟩) ∧
        ∀ (m : Nat) (a x : A), left[m]? = some (a, x) → pwp P b (fun e st' => match e with
          | .normal => ∃ st3, St.le st' st3 ∧ I (left.eraseIdx m) st3
          | .exit q => if q = r.j then ∃ st3, St.le st' st3 ∧ I (left.eraseIdx m) st3 else if q = r.i then Q .normal st' else Q (.exit q) st'
          | .ret => Q .ret st') ⟨upd (clobT r.d st2.t) r.ks a.strip, st2.s, st2.k⟩) st

def PC.bare : PC → PC
  | .reg ins d _ => .reg ins d none
  | .seq x y => .seq x.bare y.bare
  | .cond c x y => .cond c x.bare y.bare
  | .block id x => .block id x.bare
  | .loop x => .loop x.bare
  | .rng r x => .rng r x.bare
  | c => c
def rootOf (ps : List PI) : Nat → Nat → Option Nat
  | 0, _ => none
  | n + 1, a => match ps.find? fun p => p.dst == some a with
    | none => some a
    | some p => match p.i with
      | .fld _ (.t c) => rootOf ps n c
      | .idxA _ _ (.t c) _ => rootOf ps n c
      | _ => none
def basesOf (ps : List PI) : List Nat := (ps.filterMap fun p => match p.i with
  | .store _ (.t a) _ => rootOf ps 12 a
  | _ => none).eraseDups
def trCode (P : Program) (B : List Nat) (n : Nat) : Nat → Code → Option PC
  | 0, _ => none
  | fu + 1, c => match c with
    | .skip => some .skip
    | .region _ ops draw => do
      let ps ← ops.toList.mapM (trPI P B ops n draw)
      if !draw || drawOK ops ps then some (.reg ps draw none) else if drawOKR ops ps then some (.regR (basesOf ps) ps) else none
    | .seq x y => match rngOf P B n x y with
      | some (r, b) => (trCode P B n fu b).map (.rng r)
      | none => do
        let x ← trCode P B n fu x
        let y ← trCode P B n fu y
        some (.seq x y)
    | .cond c x y => do
      let c ← opdA P 0 c
      let x ← trCode P B n fu x
      let y ← trCode P B n fu y
      some (.cond c x y)
    | .block id x => (trCode P B n fu x).map (.block id)
    | .loop x => (trCode P B n fu x).map .loop
    | .exit id => some (.exit id)
    | .ret => some .ret
    | .label _ => some .skip
    | .scope x => trCode P B n fu x
    | _ => none

theorem exists_least {p : Nat → Prop} : ∀ (m : Nat), p m → ∃ l, p l ∧ ∀ k, p k → l ≤ k := by
  intro m
  induction m using Nat.strongRecOn with
  | _ m ih =>
    intro hm
    by_cases h : ∃ k, k < m ∧ p k
    · obtain ⟨k, h1, h2⟩ := h
      exact ih k h1 h2
    · refine ⟨m, hm, fun k hk => ?_⟩
      rcases Nat.lt_or_ge k m with h1 | h1
      · exact absurd ⟨k, h1, hk⟩ h
      · exact h1
open Classical in
noncomputable def leastOf (p : Nat → Prop) : Nat := if h : ∃ l, p l ∧ ∀ k, p k → l ≤ k then Classical.choose h else 0
theorem leastOf_spec {p : Nat → Prop} {m : Nat} (h : p m) : p (leastOf p) ∧ leastOf p ≤ m := by
  have hex := exists_least m h
  unfold leastOf
  rw [dif_pos hex]
  have := Classical.choose_spec hex
  exact ⟨this.1, this.2 m h⟩
theorem runs_pre {P : Program} {ops : Array Oper} {n : Nat} {q : Bool} {w0 : World} {E0 : Env} {s0 : Nat → Option Blk} {k0 : Nat → Tk} {Q : Exit → Act → World → Prop} {K : St → Prop} {rest : List Oper}
    (hQ : ∀ st' a' w' E', K st' → Inv n w0 E0 s0 k0 st' a' w' E' → wpList P ops Q rest a' w') : ∀ (l : List Oper) (ps : List PI), l.mapM (trPI P B ops n q) = some ps → ∀ (st : St) (a : Act) (w : World) (E : Env), Inv n w0 E0 s0 k0 st a w E → runs P ps K st → wpList P ops Q (l ++ rest) a w
  | [], ps, h, st, a, w, E, hI, hr => by
    simp at h; subst h
    exact hQ st a w E hr hI
  | o :: l, ps, h, st, a, w, E, hI, hr => by
    simp only [List.mapM_cons, Option.bind_eq_bind, Option.bind_eq_some_iff, Option.pure_def, Option.some.injEq] at h
    obtain ⟨p, hp, qs, hqs, rfl⟩ := h
    refine wpList_step fun N hN => ?_
    exact run1_sound hp hI hr fun st' a' w' E' hk hI' => hN _ _ (runs_pre hQ l qs hqs st' a' w' E' hI' hk)
theorem clob_le {l : List Nat} {t t' : Nat → A} {s : Hp} {k : Nat → Tk} (h : ∀ q, l.contains q = true ∨ t q = t' q) : St.le ⟨t, s, k⟩ ⟨clobT l t', s, k⟩ := by
  refine ⟨fun q => ?_, fun _ => .inr rfl, rfl⟩
  simp only [clobT]
  split
  · exact A.le_undef _
  · rename_i hc
    rcases h q with h | h
    · exact absurd h hc
    · rw [h]; exact A.le_refl _
theorem act_get {a : Act} {i n : Nat} (hs : a.tmps.size = n) (hi : i < n) (v : Value) : (a.put (some i) v).tmps.getD i Go.undef = v := by
  simp [Act.put, Array.getD_eq_getD_getElem?, hs, hi]
theorem act_other {a : Act} {i j : Nat} (v : Value) (h : j ≠ i) : (a.put (some i) v).tmps.getD j Go.undef = a.tmps.getD j Go.undef := by
  simp only [Act.put, Array.getD_eq_getD_getElem?]
  rw [Array.getElem?_setIfInBounds_ne (fun e => h e.symm)]
theorem rng_sound {P : Program} {n : Nat} {x y : Code} {r : Rng} {body : Code} (hr : rngOf P B n x y = some (r, body)) {pb : PC}
    (ih : ∀ (w0 : World) (E0 : Env) (s0 : Nat → Option Blk) (k0 : Nat → Tk) (Q : PX → St → Prop) (Q' : Exit → Act → World → Prop), (∀ e st' a' w' E', Q e st' → Inv n w0 E0 s0 k0 st' a' w' E' → Q' e.ex a' w') → ∀ (st : St) (a : Act) (w : World) (E : Env), Inv n w0 E0 s0 k0 st a w E → pwp P pb Q st → body.wp P Q' a w)
    {w0 : World} {E0 : Env} {s0 : Nat → Option Blk} {k0 : Nat → Tk} {Q : PX → St → Prop} {Q' : Exit → Act → World → Prop} (hQ : ∀ e st' a' w' E', Q e st' → Inv n w0 E0 s0 k0 st' a' w' E' → Q' e.ex a' w') {st : St} {a : Act} {w : World} {E : Env} (hI : Inv n w0 E0 s0 k0 st a w E)
    (hp : pwp P (.rng r pb) Q st) : (Code.seq x y).wp P Q' a w := by
  obtain ⟨id1, id2, id3, ops1, ops2, ops3, l, o2, o3, o4, o5, o6, o7, t, R⟩ := rngOf_spec hr
  have ex := R.ex
  have ey := R.ey
  subst ex ey
  simp only [pwp] at hp
  refine wp_seq (wp_region_list ?_)
  rw [R.l1]
  refine runs_pre (K := _) (fun st1 a1 w1 E1 hk hI1 => ?_) l r.pre R.pre st a w E hI hp
  obtain ⟨mid, es, hml, hmid, hk⟩ := hk
  obtain ⟨p1, p2, p3⟩ := isRange_spec R.h2
  obtain ⟨bm, vs, clock, g1, g2, g3, g4⟩ := hI1.reach.S.maps mid es hmid
  have hmlv : a1.tmps.getD r.ml Go.undef = .map (some bm) := by
    have := (hI1.tm r.ml).rel
    rw [hml] at this
    generalize a1.tmps.getD r.ml Go.undef = V at this
    cases this with
    | map _ b hb => rw [g1] at hb; cases hb; rfl
  obtain ⟨kt, et, hut⟩ : ∃ kt et, P.underlying t = some (.map kt et) := by
    have := R.ht
    unfold isMapT at this
    split at this
    · exact ⟨_, _, ‹_›⟩
    · cases this
  obtain ⟨iid, hi1, hi2, _⟩ := hI1.reach.S.fresh
  obtain ⟨I, ⟨st2, hle, hI2⟩, hround⟩ := hk iid hi2
  obtain ⟨hn1, hn2⟩ := hI1.reach.S.named (.mapIter (some bm) clock #[] clock) hi1
  have hless := hn1.S.less (s' := upd st1.s mid none) (fun i => by
    by_cases e : i = mid
    · subst e; exact .inl (upd_same _ _ _)
    · exact .inr (upd_other _ _ _ _ e))
  have hdrop := hn1.trans hless
  have hext1 : execOp a1.eval o2 = (do pure (.value (← Instr.range t (a1.eval (.tmp r.ml))))) := by unfold execOp; rw [p1]
  have hev1 : a1.eval (.tmp r.ml) = .map (some bm) := hmlv
  refine wpList_plain p3 fun K' hK' => wp_good ?_
  rw [hext1, hev1, p2]
  refine good_v (v := .pointer (some ⟨w1.heap.size, 0, none⟩)) (w' := w1.alloc (.mapIter (some bm) clock #[] clock)) (run_range_map w1 t kt et bm vs clock hut g2) (hK' _ _ (wpList_nil ?_))
  have hμ2 : (upd E1.μ iid (some w1.heap.size)) iid = some w1.heap.size := upd_same _ _ _
  have hInv2 := (hI1.put hdrop (x := .ptr iid 0) (v := .pointer (some ⟨w1.heap.size, 0, none⟩)) (relp_of (.ptr iid 0 w1.heap.size hμ2) (by simp)) (d := some r.it) (by simpa [PI.fits] using R.bit))
  have hInv3 : Inv n w0 E0 s0 k0 ⟨upd (clobT r.d st1.t) r.it (.ptr iid 0), upd st1.s mid none, st1.k⟩ (a1.put (some r.it) (.pointer (some ⟨w1.heap.size, 0, none⟩))) (w1.alloc (.mapIter (some bm) clock #[] clock)) { E1 with μ := upd E1.μ iid (some w1.heap.size) } := by
    refine hInv2.le ⟨fun q => ?_, fun _ => .inr rfl, rfl⟩
    show A.le (upd st1.t r.it (.ptr iid 0) q) (upd (clobT r.d st1.t) r.it (.ptr iid 0) q)
    by_cases e : q = r.it
    · subst e; rw [upd_same, upd_same]; exact A.le_refl _
    · rw [upd_other _ _ _ _ e, upd_other _ _ _ _ e]
      simp only [clobT]
      split
      · exact A.le_undef _
      · exact A.le_refl _
  have hInv4 := hInv3.le hle
  have hsz1 : w0.heap.size ≤ w1.heap.size := hI1.reach.agree.size
  have hbmlt : bm < w1.heap.size := (Array.getElem?_eq_some_iff.1 g2).1
  have hless2 : ∀ b, Mut { E1 with μ := upd E1.μ iid (some w1.heap.size) } st2.s st2.k b → Mut { E1 with μ := upd E1.μ iid (some w1.heap.size) } st1.s st1.k b ∧ b ≠ bm := by
    have hs2 : ∀ i, st2.s i ≠ none → i ≠ mid ∧ st2.s i = st1.s i := fun i hi => by
      rcases hle.s i with h | h
      · exact absurd h hi
      · have h' : st2.s i = upd st1.s mid none i := h
        by_cases e : i = mid
        · subst e; rw [upd_same] at h'; exact absurd h' hi
        · rw [upd_other _ _ _ _ e] at h'; exact ⟨e, h'⟩
    have hmne : st1.s mid ≠ none := by rw [hmid]; simp
    have hμm : ∀ i, st1.s i ≠ none → (upd E1.μ iid (some w1.heap.size)) i = E1.μ i := fun i hi => upd_other _ _ _ _ (fun e => hi (e ▸ hi2))
    rintro b (⟨i, h1, h2⟩ | ⟨g, q, h1, h2, h3⟩)
    · obtain ⟨e1, e2⟩ := hs2 i h1
      have hi0 : st1.s i ≠ none := e2 ▸ h1
      refine ⟨.inl ⟨i, hi0, h2⟩, fun e => e1 ?_⟩
      have h2' : E1.μ i = some b := by rw [← hμm i hi0]; exact h2
      exact hI1.reach.S.inj i mid bm hi0 hmne (e ▸ h2') g1
    · have hk2 : st2.k = st1.k := hle.k
      rw [hk2] at h1
      refine ⟨.inr ⟨g, q, h1, h2, h3⟩, fun e => ?_⟩
      obtain ⟨q', cur, c1, _, _, _, _, _, c7⟩ := hI1.reach.S.rows g h1
      have : q' = q := by have h2' : E1.ρ g = some q := h2; rw [c1] at h2'; exact Option.some.inj h2'
      subst this
      exact c7 mid hmne (by rw [g1, ← e, ← h3])
  generalize hEE : ({ E1 with μ := upd E1.μ iid (some w1.heap.size) } : Env) = E2 at hInv4 hless2 hn2
  have hEμ : E2.μ iid = some w1.heap.size := by rw [← hEE]; exact hμ2
  have hEF : ∀ q, ¬ E2.F w1.heap.size q := fun q hq => by
    rw [← hEE] at hq
    exact absurd (hI1.reach.S.prot_lt hq) (Nat.lt_irrefl _)
  have hErel : LeftR (w1.alloc (.mapIter (some bm) clock #[] clock)) E2 es (leftOf vs #[]).toList := by
    have hx : Ext w1 E1 st1.k (w1.alloc (.mapIter (some bm) clock #[] clock)) E2 st1.k := by rw [← hEE]; exact hn1.ext
    have h0 : (leftOf vs #[]).toList = vs.toList := by unfold leftOf; rw [Array.toList_filter]; simp
    rw [h0]
    refine ⟨by simpa using g3.1.symm, fun i a x hx' => ?_⟩
    obtain ⟨e, e1, e2, e3⟩ := g4 i a x hx'
    exact ⟨e, by simpa using e1, hx.rel e2, hx.rel e3⟩
  generalize hr0 : w1.heap.size = r0 at *
  have hheap2 : (w1.alloc (.mapIter (some bm) clock #[] clock)).heap[r0]? = some (.mapIter (some bm) clock #[] clock) := by rw [← hr0]; exact heap_alloc_new w1 _
  have hheapb : (w1.alloc (.mapIter (some bm) clock #[] clock)).heap[bm]? = some (.map vs clock) := (heap_alloc_old w1 _ (by rw [hr0]; exact hbmlt)).trans g2
  have hsize2 : r0 < (w1.alloc (.mapIter (some bm) clock #[] clock)).heap.size := by rw [← hr0]; simp
  generalize hw2 : w1.alloc (.mapIter (some bm) clock #[] clock) = w2 at *
  generalize ha2 : a1.put (some r.it) (.pointer (some ⟨r0, 0, none⟩)) = a2 at *
  clear hInv2 hInv3 hn1 hless hdrop hmlv hev1 hext1 g4 hle hk hK'
  -- the rounds
  let Raw : World → Env → St → List (A × A) → Prop := fun w E st left => E.μ iid = some r0 ∧ (∃ seen c0, w.heap[r0]? = some (.mapIter (some bm) clock seen c0) ∧ clock ≤ c0 ∧ LeftR w E left (leftOf vs seen).toList) ∧ w.heap[bm]? = some (.map vs clock) ∧
    ¬ Mut E st.s st.k r0 ∧ ¬ Mut E st.s st.k bm ∧ (∀ q, ¬ E.F r0 q) ∧ r0 < w.heap.size
  let J : Nat → Act → World → Prop := fun m a w => ∃ left st E, left.length = m ∧ I left st ∧ Inv n w0 E0 s0 k0 st a w E ∧ Raw w E st left
  let μ : Act → World → Nat := fun a w => leastOf fun m => J m a w
  have hμ : ∀ a w m, J m a w → J (μ a w) a w ∧ μ a w ≤ m := by
    intro a w m hm
    exact leastOf_spec (p := fun m => J m a w) hm
  have hJ2 : J es.length a2 w2 := ⟨es, st2, E2, rfl, hI2, hInv4, hEμ, ⟨#[], clock, hheap2, Nat.le_refl _, hErel⟩, hheapb, fun h => hn2 (hless2 _ h).1, fun h => (hless2 _ h).2 rfl, hEF, hsize2⟩
  show (Code.block r.i (.loop (.seq (.region id2 ops2 false) (.seq (.cond (.tmp r.c) .skip (.exit r.i)) (.block r.j (.seq (.region id3 ops3 false) body)))))).wp P Q' a2 w2
  refine wp_block (wp_loop (fun a w => J (μ a w) a w) μ (hμ a2 w2 es.length hJ2).1 ?_)
  rintro a w ⟨left, st, E, hlen, hIl, hInv, hμi, ⟨seen, c0, q1, q2, q3⟩, q4, q5, q6, q7, q8⟩
  obtain ⟨hitT, hend, hrd⟩ := hround left st hIl
  have hitv : a.tmps.getD r.it Go.undef = .pointer (some ⟨r0, 0, none⟩) := by
    have := (hInv.tm r.it).rel
    rw [hitT] at this
    generalize a.tmps.getD r.it Go.undef = V at this
    cases this with
    | ptr _ _ b hb => rw [hμi] at hb; cases hb; rfl
  obtain ⟨s31, s32, s33⟩ := isNext_spec R.h3
  obtain ⟨s41, s42, s43⟩ := isExt_spec R.h4
  obtain ⟨s51, s52, s53⟩ := isEntry_spec R.h5
  obtain ⟨s61, s62, s63⟩ := isExt_spec R.h6
  obtain ⟨s71, s72, s73⟩ := isAsg_spec R.h7
  have fnx : PI.fits n (some r.nx) = true := by simpa [PI.fits] using R.bnx
  have fc : PI.fits n (some r.c) = true := by simpa [PI.fits] using R.bc
  have fe : PI.fits n (some r.e) = true := by simpa [PI.fits] using R.be
  have ff : PI.fits n (some r.f) = true := by simpa [PI.fits] using R.bf
  have fk : PI.fits n (some r.ks) = true := by simpa [PI.fits] using R.bks
  have x3 : ∀ b : Act, execOp b.eval o3 = (do pure (.value (← Instr.next (b.eval (.tmp r.it)) false o3.type))) := fun b => by unfold execOp; rw [s31]
  have x4 : ∀ b : Act, execOp b.eval o4 = (do pure (.value (← Instr.extract (b.eval (.tmp r.nx)) 0))) := fun b => by unfold execOp; rw [s41]
  have x5 : ∀ b : Act, execOp b.eval o5 = (do pure (.value (← Instr.entry (b.eval (.tmp r.it))))) := fun b => by unfold execOp; rw [s51]
  have x6 : ∀ b : Act, execOp b.eval o6 = (do pure (.value (← Instr.extract (b.eval (.tmp r.e)) 0))) := fun b => by unfold execOp; rw [s61]
  have x7 : ∀ b : Act, execOp b.eval o7 = (do pure (.value (b.eval (.tmp r.f)))) := fun b => by unfold execOp; rw [s71]
  have undefR : ∀ (w : World) (E : Env) (k : Nat → Tk) (v : Value), RelP w E k .undef v := fun w E k v => relp_of (.undef v) (by simp)
  refine wp_seq (wp_region_list ?_)
  rw [R.l2]
  refine wpList_plain s33 fun K1 hK1 => wp_good ?_
  have hev3 : a.eval (.tmp r.it) = .pointer (some ⟨r0, 0, none⟩) := hitv
  rw [x3, hev3, s32]
  rcases run_next_at (P := P) w o3.type r0 bm clock c0 seen vs clock q1 q4 (fun x hx => g3.2.1 x hx) q2 with ⟨z1, z2⟩ | ⟨e, he, wa, hwa, hrun⟩
  · -- nothing is left
    refine good_v z2 (hK1 _ _ (wpList_plain s43 fun K2 hK2 => wp_good ?_))
    have hev4 : (a.put (some r.nx) (.tuple #[.bool false])).eval (.tmp r.nx) = .tuple #[.bool false] := act_get hInv.size R.bnx _
    rw [x4, hev4, s42]
    refine good_v (v := .bool false) (w' := w) (by simp [Instr.extract]) (hK2 _ _ (wpList_nil ?_))
    have hI5 := (hInv.put (Reach.refl hInv.reach.S) (undefR w E st.k (.tuple #[.bool false])) (d := some r.nx) fnx)
    have hI6 := (hI5.put (Reach.refl hI5.reach.S) (undefR w E st.k (.bool false)) (d := some r.c) fc)
    have hcv : ((a.put (some r.nx) (.tuple #[.bool false])).put (some r.c) (.bool false)).eval (.tmp r.c) = .bool false := act_get hI5.size R.bc _
    refine wp_seq (wp_cond_false hcv (wp_exit ?_))
    simp only [Exit.then, Exit.inBlock, if_true]
    have hl0 : left = [] := List.eq_nil_of_length_eq_zero (by rw [q3.1]; simpa using z1)
    refine hQ .normal _ _ _ E (hend hl0) (hI6.le (clob_le fun q => ?_))
    by_cases e1 : q = r.nx
    · left; subst e1; simp [Rng.d]
    · by_cases e2 : q = r.c
      · left; subst e2; simp [Rng.d]
      · right
        show upd (upd st.t r.nx .undef) r.c .undef q = st.t q
        rw [upd_other _ _ _ _ e2, upd_other _ _ _ _ e1]
  · -- an entry
    obtain ⟨m, hm⟩ := List.getElem?_of_mem he
    have hmlt : m < left.length := by rw [q3.1]; exact (List.getElem?_eq_some_iff.1 hm).1
    obtain ⟨ak, ax, hax⟩ : ∃ ak ax, left[m]? = some (ak, ax) := ⟨left[m].1, left[m].2, List.getElem?_eq_getElem hmlt⟩
    obtain ⟨e', he1, he2, he3⟩ := q3.2 m ak ax hax
    rw [hm] at he1
    cases he1
    have hreach1 : Reach w0 E0 s0 k0 wa E st.s st.k ∧ wa.heap = w.heap := by
      rcases hwa with rfl | rfl
      · exact ⟨hInv.reach, rfl⟩
      · exact ⟨hInv.reach.trans (hInv.reach.S.agree (Agree.drew w)), rfl⟩
    obtain ⟨hr1, hh1⟩ := hreach1
    have hw0r : w0.heap.size ≤ r0 := hsz1
    have hrw : Ext w E st.k wa E st.k := by
      rcases hwa with rfl | rfl
      · exact Ext.refl _ _ _
      · exact (hInv.reach.S.agree (Agree.drew w)).ext
    have hturn := hr1.turn (o := .mapIter (some bm) clock (seen.push e.born) clock) hw0r (by rw [hh1]; exact q8) q5 q7
    have hext2 : Ext w E st.k (ChangeMaps.setBlock wa r0 (.mapIter (some bm) clock (seen.push e.born) clock)) E st.k := hrw.trans (hr1.S.other (by rw [hh1]; exact q8) q5 q7).2
    generalize hw3 : ChangeMaps.setBlock wa r0 (.mapIter (some bm) clock (seen.push e.born) clock) = w3 at hturn hext2 hrun
    have h3r : w3.heap[r0]? = some (.mapIter (some bm) clock (seen.push e.born) clock) := by
      rw [← hw3]
      simp only [ChangeMaps.setBlock]
      rw [Array.getElem?_setIfInBounds_self, if_pos (by rw [hh1]; exact q8)]
    have hbr : bm ≠ r0 := by omega
    have h3b : w3.heap[bm]? = some (.map vs clock) := by
      rw [← hw3]
      simp only [ChangeMaps.setBlock]
      rw [Array.getElem?_setIfInBounds_ne (fun e => hbr e.symm), hh1]
      exact q4
    have h3s : r0 < w3.heap.size := (Array.getElem?_eq_some_iff.1 h3r).1
    have hInv3 : Inv n w0 E0 s0 k0 st a w3 E := ⟨hturn, fun q => hext2.relp (hInv.tm q), hInv.size, hInv.df⟩
    refine good_v hrun (hK1 _ _ (wpList_plain s43 fun K2 hK2 => wp_good ?_))
    have hev4 : (a.put (some r.nx) (.tuple #[.bool true, e.key, e.val])).eval (.tmp r.nx) = .tuple #[.bool true, e.key, e.val] := act_get hInv.size R.bnx _
    rw [x4, hev4, s42]
    refine good_v (v := .bool true) (w' := w3) (by simp [Instr.extract]) (hK2 _ _ (wpList_nil ?_))
    have hI5 := (hInv3.put (Reach.refl hInv3.reach.S) (undefR w3 E st.k (.tuple #[.bool true, e.key, e.val])) (d := some r.nx) fnx)
    have hI6 := (hI5.put (Reach.refl hI5.reach.S) (undefR w3 E st.k (.bool true)) (d := some r.c) fc)
    have hcv : ((a.put (some r.nx) (.tuple #[.bool true, e.key, e.val])).put (some r.c) (.bool true)).eval (.tmp r.c) = .bool true := act_get hI5.size R.bc _
    refine wp_seq (wp_cond_true hcv (wp_skip (wp_block (wp_seq (wp_region_list ?_)))))
    have hit6 : ((a.put (some r.nx) (.tuple #[.bool true, e.key, e.val])).put (some r.c) (.bool true)).tmps.getD r.it Go.undef = .pointer (some ⟨r0, 0, none⟩) := by
      rw [act_other _ (Ne.symm R.n2), act_other _ (Ne.symm R.n1)]
      exact hitv
    generalize ha6 : (a.put (some r.nx) (.tuple #[.bool true, e.key, e.val])).put (some r.c) (.bool true) = a6 at hI6 hit6 hcv
    rw [R.l3]
    have hem : e ∈ vs.toList := (mem_left he).1
    have hen := run_entry_at (P := P) w3 r0 bm clock seen vs clock e h3r h3b hem g3.2.2
    refine wpList_plain s53 fun K3 hK3 => wp_good ?_
    have hev5 : a6.eval (.tmp r.it) = .pointer (some ⟨r0, 0, none⟩) := hit6
    rw [x5, hev5, s52]
    refine good_v hen (hK3 _ _ (wpList_plain s63 fun K4 hK4 => wp_good ?_))
    have hev6 : (a6.put (some r.e) (.tuple #[e.key, e.val])).eval (.tmp r.e) = .tuple #[e.key, e.val] := act_get hI6.size R.be _
    rw [x6, hev6, s62]
    refine good_v (v := e.key) (w' := w3) (by simp [Instr.extract]) (hK4 _ _ (wpList_plain s73 fun K5 hK5 => wp_good ?_))
    have hI7 := (hI6.put (Reach.refl hI6.reach.S) (undefR w3 E st.k (.tuple #[e.key, e.val])) (d := some r.e) fe)
    have hI8 := (hI7.put (Reach.refl hI7.reach.S) (undefR w3 E st.k e.key) (d := some r.f) ff)
    have hev7 : ((a6.put (some r.e) (.tuple #[e.key, e.val])).put (some r.f) e.key).eval (.tmp r.f) = e.key := act_get hI7.size R.bf _
    rw [x7, hev7, s72]
    refine good_value (v := e.key) (w' := w3) (by simp) (hK5 _ _ (wpList_nil ?_))
    have hI9 := (hI8.put (Reach.refl hI8.reach.S) (x := ak.strip) (v := e.key) (relp_strip (hext2.rel he2)) (d := some r.ks) fk)
    have hI10 : Inv n w0 E0 s0 k0 ⟨upd (clobT r.d st.t) r.ks ak.strip, st.s, st.k⟩ (((a6.put (some r.e) (.tuple #[e.key, e.val])).put (some r.f) e.key).put (some r.ks) e.key) w3 E := by
      refine hI9.le ⟨fun q => ?_, fun _ => .inr rfl, rfl⟩
      show A.le (upd (upd (upd (upd (upd st.t r.nx .undef) r.c .undef) r.e .undef) r.f .undef) r.ks ak.strip q) (upd (clobT r.d st.t) r.ks ak.strip q)
      by_cases e0 : q = r.ks
      · subst e0; rw [upd_same, upd_same]; exact A.le_refl _
      · rw [upd_other _ _ _ _ e0, upd_other _ _ _ _ e0]
        simp only [clobT]
        split
        · exact A.le_undef _
        · rename_i hc
          simp only [Rng.d, List.contains_cons, List.contains_nil, Bool.or_false, Bool.or_eq_true, beq_iff_eq, not_or] at hc
          obtain ⟨c1, c2, c3, c4⟩ := hc
          rw [upd_other _ _ _ _ c4, upd_other _ _ _ _ c3, upd_other _ _ _ _ c2, upd_other _ _ _ _ c1]
          exact A.le_refl _
    have hIB : Inv n w3 E st.s st.k ⟨upd (clobT r.d st.t) r.ks ak.strip, st.s, st.k⟩ (((a6.put (some r.e) (.tuple #[e.key, e.val])).put (some r.f) e.key).put (some r.ks) e.key) w3 E := ⟨Reach.refl hI10.reach.S, hI10.tm, hI10.size, hI10.df⟩
    show body.wp P _ _ _
    refine ih w3 E st.s st.k _ _ ?_ _ _ _ _ hIB (hrd m ak ax hax)
    intro ex st' a' w' E' hk' hI'
    have hback : Inv n w0 E0 s0 k0 st' a' w' E' := ⟨hInv3.reach.trans hI'.reach, hI'.tm, hI'.size, hI'.df⟩
    have again : (∃ st3, St.le st' st3 ∧ I (left.eraseIdx m) st3) → J (μ a' w') a' w' ∧ μ a' w' < μ a w := by
      rintro ⟨st3, l1, l2⟩
      have hlt3 : ∀ b, Mut E' st3.s st3.k b → Mut E' st'.s st'.k b := by
        rintro b (⟨i, h1, h2⟩ | ⟨g, q, h1, h2, h3⟩)
        · rcases l1.s i with h | h
          · exact absurd h h1
          · exact .inl ⟨i, h ▸ h1, h2⟩
        · exact .inr ⟨g, q, l1.k ▸ h1, h2, h3⟩
      have nm : ∀ b, b < w3.heap.size → ¬ Mut E st.s st.k b → ¬ Mut E' st3.s st3.k b := fun b hb hn hm => by
        rcases hI'.reach.base b (hlt3 b hm) with h | h
        · exact hn h
        · omega
      have hb3 : bm < w3.heap.size := by omega
      have hJ : J (left.length - 1) a' w' := by
        refine ⟨left.eraseIdx m, st3, E', by rw [List.length_eraseIdx, if_pos hmlt], l2, hback.le l1, hI'.reach.ext.μ _ _ hμi, ⟨seen.push e.born, clock, ?_, Nat.le_refl _, ?_⟩, ?_, nm r0 h3s q5, nm bm hb3 q6, fun q hq => ?_, Nat.lt_of_lt_of_le h3s hI'.reach.agree.size⟩
        · rw [hI'.reach.agree.block r0 h3s q5]; exact h3r
        · rw [left_push g3.2.2 hm]
          exact ((q3.ext hext2).erase m).ext hI'.reach.ext
        · rw [hI'.reach.agree.block bm hb3 q6]; exact h3b
        · rcases hI'.reach.prot r0 q hq with h | h | h
          · exact q7 q h
          · exact q5 h
          · omega
      have := hμ a' w' _ hJ
      exact ⟨this.1, by omega⟩
    cases ex with
    | normal =>
      simp only [PX.ex, Exit.inBlock, Exit.then]
      exact again hk'
    | exit q =>
      simp only at hk'
      simp only [PX.ex, Exit.inBlock, Exit.then]
      by_cases e1 : q = r.j
      · rw [if_pos e1] at hk'
        rw [if_pos e1]
        exact again hk'
      · rw [if_neg e1] at hk'
        rw [if_neg e1]
        by_cases e2 : q = r.i
        · rw [if_pos e2] at hk'
          simp only [if_pos e2]
          exact hQ .normal st' a' w' E' hk' hback
        · rw [if_neg e2] at hk'
          simp only [if_neg e2]
          exact hQ (.exit q) st' a' w' E' hk' hback
    | ret =>
      exact hQ .ret st' a' w' E' hk' hback
theorem pwp_sound {P : Program} {n : Nat} (hm : P.follows .mixedOrders = true) : ∀ (fu : Nat) (c : Code) (pc : PC), trCode P B n fu c = some pc.bare → ∀ (w0 : World) (E0 : Env) (s0 : Nat → Option Blk) (k0 : Nat → Tk) (Q : PX → St → Prop) (Q' : Exit → Act → World → Prop),
    (∀ e st' a' w' E', Q e st' → Inv n w0 E0 s0 k0 st' a' w' E' → Q' e.ex a' w') → ∀ (st : St) (a : Act) (w : World) (E : Env), Inv n w0 E0 s0 k0 st a w E → pwp P pc Q st → c.wp P Q' a w := by
  intro fu
  induction fu with
  | zero => intro c pc h; simp [trCode] at h
  | succ fu ih =>
  intro c
  cases c with
  | skip =>
    intro pc h w0 E0 s0 k0 Q Q' hQ st a w E hI hp
    cases pc <;> simp [trCode, PC.bare] at h
    exact wp_skip (hQ .normal st a w E hp hI)
  | region id ops draw =>
    intro pc h w0 E0 s0 k0 Q Q' hQ st a w E hI hp
    simp only [trCode, Option.bind_eq_bind, Option.bind_eq_some_iff] at h
    obtain ⟨ps, hps, h⟩ := h
    split at h
    case isFalse =>
      rename_i hnd
      split at h
      case isFalse => cases h
      rename_i hd
      have hdr : draw = true := by
        cases draw
        · simp at hnd
        · rfl
      subst hdr
      cases pc <;> simp [PC.bare] at h
      obtain ⟨rfl, rfl⟩ := h
      simp only [pwp] at hp
      obtain ⟨s', h', h1, h2, h3⟩ := takeR_spec _ _ _ _ _ (by intro id hid; exact absurd rfl hid) hp
      refine drawR_sound hm (K := fun st' h' => Q .normal (mst st' h')) (fun st' h' a' w' E' hk hI' => hQ .normal _ a' w' E' hk hI') hps hd h2 (st := ⟨st.t, s', st.k⟩) (E := E) ?_ h3
      have : mst ⟨st.t, s', st.k⟩ h' = st := by
        obtain ⟨t, s, k⟩ := st
        simp only [mst, h1, mrg_nil]
      rw [this]
      exact hI
    rename_i hd
    cases pc <;> simp [PC.bare] at h
    rename_i ins d keep
    obtain ⟨rfl, rfl⟩ := h
    simp only [pwp] at hp
    have hQ1 : ∀ st' a' w' E', (fun st' => Q .normal (match keep with
        | some l => st'.keep l
        | none => st')) st' → Inv n w0 E0 s0 k0 st' a' w' E' → Q' .normal a' w' := by
      intro st' a' w' E' hk hI'
      cases keep with
      | none => exact hQ .normal st' a' w' E' hk hI'
      | some l => exact hQ .normal _ a' w' E' hk (hI'.le (St.le_keep st' l))
    cases draw with
    | false => exact wp_region_list (runs_sound hQ1 ops.toList ps hps st a w E hI hp)
    | true => exact draw_sound hm hQ1 hps (by simpa using hd) hI hp
  | seq x y =>
    intro pc h w0 E0 s0 k0 Q Q' hQ st a w E hI hp
    simp only [trCode] at h
    split at h
    · rename_i r b hr
      simp only [Option.map_eq_some_iff] at h
      obtain ⟨b', hb, h⟩ := h
      cases pc <;> simp [PC.bare] at h
      rename_i r' pb
      obtain ⟨rfl, rfl⟩ := h
      exact rng_sound hr (fun w0 E0 s0 k0 Q Q' hQ st a w E hI hp => ih b pb hb w0 E0 s0 k0 Q Q' hQ st a w E hI hp) hQ hI hp
    simp only [Option.bind_eq_bind, Option.bind_eq_some_iff, Option.some.injEq] at h
    obtain ⟨x', hx, y', hy, h⟩ := h
    cases pc <;> simp [PC.bare] at h
    rename_i px py
    obtain ⟨rfl, rfl⟩ := h
    refine wp_seq (ih x px hx _ _ _ _ _ _ ?_ st a w E hI hp)
    intro e st' a' w' E' hk hI'
    cases e with
    | normal => exact ih y py hy _ _ _ _ Q Q' hQ st' a' w' E' hI' hk
    | exit id => exact hQ (.exit id) st' a' w' E' hk hI'
    | ret => exact hQ .ret st' a' w' E' hk hI'
  | cond c x y =>
    intro pc h w0 E0 s0 k0 Q Q' hQ st a w E hI hp
    simp only [trCode, Option.bind_eq_bind, Option.bind_eq_some_iff, Option.some.injEq] at h
    obtain ⟨c', hc, x', hx, y', hy, h⟩ := h
    cases pc <;> simp [PC.bare] at h
    rename_i pc' px py
    obtain ⟨rfl, rfl, rfl⟩ := h
    have hr := (opdA_rel hc hI.tm).rel
    simp only [pwp] at hp
    split at hp
    · rename_i he
      exact wp_cond_true (rel_bool hr he) (ih x px hx _ _ _ _ Q Q' hQ st a w E hI hp)
    · rename_i he
      exact wp_cond_false (rel_bool hr he) (ih y py hy _ _ _ _ Q Q' hQ st a w E hI hp)
    · exact hp.elim
  | block id x =>
    intro pc h w0 E0 s0 k0 Q Q' hQ st a w E hI hp
    simp only [trCode, Option.map_eq_some_iff] at h
    obtain ⟨x', hx, h⟩ := h
    cases pc <;> simp [PC.bare] at h
    rename_i id' px
    obtain ⟨rfl, rfl⟩ := h
    refine wp_block (ih x px hx _ _ _ _ _ _ ?_ st a w E hI hp)
    intro e st' a' w' E' hk hI'
    cases e with
    | normal => exact hQ .normal st' a' w' E' hk hI'
    | exit j =>
      simp only at hk
      simp only [PX.ex, Exit.inBlock]
      by_cases e : j = id
      · rw [if_pos e] at hk ⊢; exact hQ .normal st' a' w' E' hk hI'
      · rw [if_neg e] at hk ⊢; exact hQ (.exit j) st' a' w' E' hk hI'
    | ret => exact hQ .ret st' a' w' E' hk hI'
  | loop x =>
    intro pc h w0 E0 s0 k0 Q Q' hQ st a w E hI hp
    simp only [trCode, Option.map_eq_some_iff] at h
    obtain ⟨x', hx, h⟩ := h
    cases pc <;> simp [PC.bare] at h
    rename_i px
    subst h
    obtain ⟨I, ⟨st1, m, hle, hI0⟩, hbody⟩ := hp
    let J : Nat → Act → World → Prop := fun m a w => ∃ st E, I m st ∧ Inv n w0 E0 s0 k0 st a w E
    let μ : Act → World → Nat := fun a w => leastOf fun m => J m a w
    have hμ : ∀ a w m, J m a w → J (μ a w) a w ∧ μ a w ≤ m := by
      intro a w m hm
      exact leastOf_spec (p := fun m => J m a w) hm
    refine wp_loop (fun a w => J (μ a w) a w) μ (hμ a w m ⟨st1, E, hI0, hI.le hle⟩).1 ?_
    rintro a w ⟨st2, E2, hI2, hInv2⟩
    refine ih x px hx _ _ _ _ _ _ ?_ st2 a w E2 hInv2 (hbody _ _ hI2)
    intro e st' a' w' E' hk hI'
    cases e with
    | normal =>
      obtain ⟨st3, m', hlt, hle3, hI3⟩ := hk
      have := hμ a' w' m' ⟨st3, E', hI3, hI'.le hle3⟩
      exact ⟨this.1, Nat.lt_of_le_of_lt this.2 hlt⟩
    | exit id => exact hQ (.exit id) st' a' w' E' hk hI'
    | ret => exact hQ .ret st' a' w' E' hk hI'
  | exit id =>
    intro pc h w0 E0 s0 k0 Q Q' hQ st a w E hI hp
    cases pc <;> simp [trCode, PC.bare] at h
    subst h
    exact wp_exit (hQ (.exit _) st a w E hp hI)
  | ret =>
    intro pc h w0 E0 s0 k0 Q Q' hQ st a w E hI hp
    cases pc <;> simp [trCode, PC.bare] at h
    exact wp_ret (hQ .ret st a w E hp hI)
  | label l =>
    intro pc h w0 E0 s0 k0 Q Q' hQ st a w E hI hp
    cases pc <;> simp [trCode, PC.bare] at h
    exact wp_label (hQ .normal st a w E hp hI)
  | scope x =>
    intro pc h w0 E0 s0 k0 Q Q' hQ st a w E hI hp
    refine wp_scope_straight (ih x pc h _ _ _ _ Q _ ?_ st a w E hI hp)
    intro e st' a' w' E' hk hI'
    cases e with
    | normal => exact hQ .normal st' a' w' E' hk hI'
    | exit id => exact hQ (.exit id) st' a' w' E' hk hI'
    | ret => exact hQ .ret st' a' w' E' hk hI'
  | _ => intro pc h; simp [trCode] at h

/-! ### Results -/
inductive RV where
  | tmp (t : Nat)
  | cell (t : Nat) (n : Option Nat)
def trRV (P : Program) : ResultVar → Option RV
  | .tmp t => some (.tmp t)
  | .cell t ty => (aggN P ty).map (.cell t)
def trRes (P : Program) (l : Array ResultVar) : Option (List RV) := l.toList.mapM (trRV P)
def resV (a : Act) : ResultVar → Sem Value
  | .tmp t => pure (a.tmps.getD t Go.undef)
  | .cell b t => do loadVar t (← asAddr (a.tmps.getD b Go.undef))
def resP (st : St) : List RV → (List A → Prop) → Prop
  | [], K => K []
  | .tmp t :: r, K => resP st r fun xs => K ((st.t t).strip :: xs)
  | .cell t n :: r, K => match st.t t with
    | .ptr id off => match st.s id with
      | some (.cells cs) => readP cs off n fun x => resP st r fun xs => K (x.strip :: xs)
      | _ => False
    | _ => False
def oneOf : List A → A
  | [x] => x
  | xs => .tup xs
theorem resP_sound {P : Program} {st : St} {a : Act} {w : World} {E : Env} (hS : InvS w E st.s st.k) (hT : Tm w E st a) : ∀ (l : List ResultVar) (rs : List RV), l.mapM (trRV P) = some rs → ∀ (K : List A → Prop), resP st rs K →
    ∃ vs xs, (l.mapM (resV a)).run P w = .ok vs w ∧ K xs ∧ vs.length = xs.length ∧ ∀ (j : Nat) (x : A), xs[j]? = some x → ∃ v, vs[j]? = some v ∧ Rel w E x v
  | [], rs, h, K, hk => by
    simp at h; subst h
    exact ⟨[], [], by simp, hk, rfl, by simp⟩
  | r :: l, rs, h, K, hk => by
    simp only [List.mapM_cons, Option.bind_eq_bind, Option.bind_eq_some_iff, Option.pure_def, Option.some.injEq] at h
    obtain ⟨q, hq, qs, hqs, rfl⟩ := h
    have put : ∀ (v : Value) (x : A), Rel w E x v → ∀ (vs : List Value) (xs : List A), vs.length = xs.length → (∀ (j : Nat) (x : A), xs[j]? = some x → ∃ v, vs[j]? = some v ∧ Rel w E x v) →
        (v :: vs).length = (x :: xs).length ∧ ∀ (j : Nat) (y : A), (x :: xs)[j]? = some y → ∃ u, (v :: vs)[j]? = some u ∧ Rel w E y u := by
      intro v x hx vs xs hl hr
      refine ⟨by simp [hl], fun j y hy => ?_⟩
      cases j with
      | zero => simp at hy; subst hy; exact ⟨v, rfl, hx⟩
      | succ j => exact hr j y (by simpa using hy)
    cases r with
    | tmp t =>
      simp only [trRV, Option.some.injEq] at hq
      subst hq
      obtain ⟨vs, xs, h1, h2, h3, h4⟩ := resP_sound hS hT l qs hqs _ hk
      obtain ⟨g1, g2⟩ := put _ _ (hT t).rel.strip vs xs h3 h4
      exact ⟨_, _, by simp only [List.mapM_cons, resV, Sem.run_bind, Sem.run_pure, Result.andThen_ok, h1], h2, g1, g2⟩
    | cell t ty =>
      simp only [trRV, Option.map_eq_some_iff] at hq
      obtain ⟨n, hn, rfl⟩ := hq
      simp only [resP] at hk
      have hr := (hT t).rel
      split at hk
      · rename_i id off he
        rw [he] at hr
        generalize hX : a.tmps.getD t Go.undef = X' at hr
        cases hr with
        | ptr _ _ b hb =>
          split at hk
          · rename_i cs hcs
            obtain ⟨b', cur, ty', c1, c2, c3, c4, c5, c6⟩ := hS.cells id cs hcs
            rw [hb] at c1
            cases c1
            obtain ⟨v, y, h1, h2, h3, _⟩ := read_cells (P := P) (w := w) (E := E) (b := b) (o := 0) (f := fun j => cur.getD j Go.undef) hn
              (fun j hj => ⟨by rw [Nat.zero_add, cell_of_row w b j cur ty' (0, 0) c2, Array.getD_eq_getD_getElem?, Array.getElem?_eq_getElem (by omega)]; rfl, c4 j hj⟩) (fun j x hx => (c5 j x hx).rel) hk
            rw [Nat.zero_add] at h1
            obtain ⟨vs, xs, g1, g2, g3, g4⟩ := resP_sound hS hT l qs hqs _ h2
            obtain ⟨f1, f2⟩ := put _ _ h3.strip vs xs g3 g4
            exact ⟨_, _, by simp only [List.mapM_cons, resV, hX, asAddr, Sem.run_bind, Sem.run_pure, Result.andThen_ok, h1, g1], g2, f1, f2⟩
          · exact hk.elim
      · exact hk.elim


/-- What the code comes to, at a function's end. -/
def bodyQ (rs : List RV) (R : A → St → Prop) : PX → St → Prop
  | .normal, st | .ret, st => resP st rs fun xs => R (oneOf xs) st
  | .exit _, _ => False
def initT (args : List A) : Nat → A := fun i => args[i]?.getD .undef

theorem run_results {P : Program} {fn : Func} {rs : List RV} (hrs : trRes P fn.results = some rs) {st : St} {a : Act} {w : World} {E : Env} (hS : InvS w E st.s st.k) (hT : Tm w E st a) {K : List A → Prop} (hk : resP st rs K) :
    ∃ v xs, (results fn a.tmps).run P w = .ok v w ∧ K xs ∧ Rel w E (oneOf xs) v := by
  obtain ⟨vs, xs, h1, h2, h3, h4⟩ := resP_sound (P := P) hS hT fn.results.toList rs hrs K hk
  have hm : (fn.results.mapM (resV a)).run P w = .ok vs.toArray w := by
    have : fn.results = fn.results.toList.toArray := by simp
    rw [this, List.mapM_toArray, Sem.run_map, h1]
    rfl
  have hfun : (fun | .tmp t => pure (a.tmps.getD t Go.undef) | .cell b t => do loadVar t (← asAddr (a.tmps.getD b Go.undef)) : ResultVar → Sem Value) = resV a := by
    funext r
    cases r <;> rfl
  refine ⟨if h : vs.toArray.size = 1 then vs.toArray[0] else .tuple vs.toArray, xs, ?_, h2, ?_⟩
  · unfold results
    have e : (results fn a.tmps) = (do let vs ← fn.results.mapM (resV a); pure (if h : vs.size = 1 then vs[0] else .tuple vs)) := by
      unfold results
      rw [← hfun]
      rfl
    unfold results at e
    rw [e, Sem.run_bind, hm]
    rfl
  · have hs : vs.toArray.size = xs.length := by simpa using h3
    by_cases h1 : vs.toArray.size = 1
    · rw [dif_pos h1]
      match xs, vs, hs, h4 with
      | [x], [v], _, h4 =>
        obtain ⟨u, hu, hr⟩ := h4 0 x rfl
        simp at hu
        subst hu
        exact hr
      | [], vs, hs, _ => rw [hs] at h1; simp at h1
      | [x], [], hs, _ => simp at hs
      | [x], _ :: _ :: _, hs, _ => simp at hs
      | _ :: _ :: _, vs, hs, _ => rw [hs] at h1; simp at h1
    · rw [dif_neg h1]
      have ho : oneOf xs = .tup xs := by
        match xs, hs with
        | [], _ => rfl
        | [x], hs => exact absurd hs h1
        | _ :: _ :: _, _ => rfl
      rw [ho]
      refine .tup xs _ hs fun j x hx => ?_
      obtain ⟨v, hv, hr⟩ := h4 j x hx
      rw [Array.getD_eq_getD_getElem?, List.getElem?_toArray, hv]
      exact hr

/-- Nothing but new boxes; nothing but new tokens. -/
def SExt (s s' : Nat → Option Blk) : Prop := ∀ id, s id ≠ none → s' id = s id
def KExt (k k' : Nat → Tk) : Prop := ∀ g, k g ≠ .unused → k' g = k g
theorem SExt.refl (s : Nat → Option Blk) : SExt s s := fun _ _ => rfl
theorem KExt.refl (k : Nat → Tk) : KExt k k := fun _ _ => rfl
theorem SExt.new {s s' : Nat → Option Blk} (h : SExt s s') {id : Nat} (hid : s' id = none) (x : Option Blk) : SExt s (upd s' id x) := fun i hi => by
  by_cases e : i = id
  · subst e; rw [h i hi] at hid; exact absurd hid hi
  · rw [upd_other _ _ _ _ e]; exact h i hi
theorem SExt.old {s s' : Nat → Option Blk} (h : SExt s s') {id : Nat} (hid : s id = none) (x : Option Blk) : SExt s (upd s' id x) := fun i hi => by
  by_cases e : i = id
  · subst e; exact absurd hid hi
  · rw [upd_other _ _ _ _ e]; exact h i hi
theorem SExt.none {s s' : Nat → Option Blk} (h : SExt s s') {id : Nat} (hid : s' id = none) : s id = none := by
  cases hs : s id with
  | none => rfl
  | some x => have := h id (by simp [hs]); rw [this, hs] at hid; cases hid
theorem KExt.new {k k' : Nat → Tk} (h : KExt k k') {g : Nat} (hg : k' g = .unused) (x : Tk) : KExt k (upd k' g x) := fun i hi => by
  by_cases e : i = g
  · subst e; rw [h i hi] at hg; exact absurd hg hi
  · rw [upd_other _ _ _ _ e]; exact h i hi
theorem KExt.old {k k' : Nat → Tk} (h : KExt k k') {g : Nat} (hg : k g = .unused) (x : Tk) : KExt k (upd k' g x) := fun i hi => by
  by_cases e : i = g
  · subst e; exact absurd hg hi
  · rw [upd_other _ _ _ _ e]; exact h i hi
theorem KExt.unused {k k' : Nat → Tk} (h : KExt k k') {g : Nat} (hg : k' g = .unused) : k g = .unused := by
  cases hk : k g with
  | unused => rfl
  | live => have := h g (by simp [hk]); rw [this, hk] at hg; cases hg
  | dead => have := h g (by simp [hk]); rw [this, hk] at hg; cases hg

/-- What the call made besides is forgotten. -/
theorem Reach.forget {w : World} {E : Env} {s : Nat → Option Blk} {k : Nat → Tk} (h0 : InvS w E s k) {w' : World} {E' : Env} {s' : Nat → Option Blk} {k' : Nat → Tk} (h : Reach w E s k w' E' s' k') (hs : SExt s s') (hk : KExt k k') : Reach w E s k w' E' s k := by
  have h1 := h.trans (h.S.less (s' := s) fun id => by
    by_cases e : s id = none
    · exact .inl e
    · exact .inr (hs id e).symm)
  have htok : ∀ (x : A) (v v' : Value), RelP w E k x v → RelP w' E' k' x v' → RelP w' E' k x v' := by
    intro x v v' hx hx'
    refine ⟨hx'.rel, fun esz xs g e he => ?_⟩
    obtain ⟨a1, a2⟩ := hx.tok esz xs g e he
    obtain ⟨b1, b2⟩ := hx'.tok esz xs g e he
    exact ⟨a1, fun hl => b2 ((hk g a1).trans hl)⟩
  refine ⟨⟨?_, h1.S.maps, h1.S.inj, fun g hg => h1.S.rows g ((hk g (by rw [hg]; simp)).trans hg), fun g g' r r' hg hg' => h1.S.rinj g g' r r' ((hk g (by rw [hg]; simp)).trans hg) ((hk g' (by rw [hg']; simp)).trans hg'), h1.S.prot, ?_⟩,
    ⟨h1.ext.F, h1.ext.μ, fun g hg => ⟨hg, fun hl => ⟨hl, ((h1.ext.tok g hg).2 ((hk g hg).trans hl)).2⟩⟩⟩, h1.agree, fun b hb => ?_, h1.prot⟩
  · intro id cs hid
    obtain ⟨b, cur, ty, c1, c2, c3, c4, c5, c6⟩ := h1.S.cells id cs hid
    obtain ⟨b0, cur0, ty0, d1, d2, d3, d4, d5, d6⟩ := h0.cells id cs hid
    exact ⟨b, cur, ty, c1, c2, c3, c4, fun j x hx => htok x _ _ (d5 j x hx) (c5 j x hx), c6⟩
  · obtain ⟨N, hN⟩ := h1.S.fin
    obtain ⟨M, hM⟩ := h0.fin
    exact ⟨max N M, fun i hi => ⟨(hN i (by omega)).1, (hM i (by omega)).2⟩⟩
  · rcases hb with hb | ⟨g, r, g1, g2, g3⟩
    · exact h1.base b (.inl hb)
    · exact h1.base b (.inr ⟨g, r, (hk g (by rw [g1]; simp)).trans g1, g2, g3⟩)

theorem calls_body {P : Program} (hm : P.follows .mixedOrders = true) {f : FuncId} {fn : Func} {c : Code} {pc : PC} {rs : List RV} (hf : P.funcs[f]? = some fn) (hb : fn.body = some c) (htr : trCode P B fn.ntmps 400 c = some pc.bare) (hrs : trRes P fn.results = some rs)
    {args : List A} (hn : args.length ≤ fn.ntmps) {s : Nat → Option Blk} {k : Nat → Tk} {R : A → St → Prop} (h : pwp P pc (bodyQ rs R) ⟨initT args, s, k⟩) {w : World} {E : Env} {vs : Array Value} (hS : InvS w E s k) (hl : vs.size = args.length)
    (hr : ∀ j x, args[j]? = some x → Rel w E x (vs.getD j Go.undef)) (hnt : ∀ x ∈ args, ∀ esz xs g e, x ≠ .sl esz xs (.own g e)) :
    Calls P f vs w fun e w' => ∃ v, e = .returned v ∧ ∃ r st E', R r st ∧ Reach w E s k w' E' st.s st.k ∧ Rel w' E' r v := by
  refine calls_of_wp hf hb ?_
  have hI : Inv fn.ntmps w E s k ⟨initT args, s, k⟩ { tmps := vs ++ Array.replicate (fn.ntmps - vs.size) Go.undef, defers := [] } w E := by
    refine ⟨Reach.refl hS, fun j => ?_, by simp; omega, rfl⟩
    simp only [initT]
    cases hj : args[j]? with
    | none => exact relp_of (.undef _) (by simp)
    | some x =>
      have hlt : j < args.length := (List.getElem?_eq_some_iff.1 hj).1
      rw [Array.getD_eq_getD_getElem?, Array.getElem?_append_left (by omega), ← Array.getD_eq_getD_getElem?]
      exact relp_of (hr j x hj) (hnt x (List.mem_of_getElem? hj))
  refine pwp_sound hm _ c pc htr _ _ _ _ (bodyQ rs R) _ ?_ _ _ w E hI h
  intro e st' a' w' E' hq hI'
  have fin : ∀ K : List A → Prop, (∀ xs, K xs → R (oneOf xs) st') → resP st' rs K → a'.defers = [] ∧ ∃ v, (results fn a'.tmps).run P w' = .ok v w' ∧ ∃ v', Ending.returned v = .returned v' ∧ ∃ r st E', R r st ∧ Reach w E s k w' E' st.s st.k ∧ Rel w' E' r v' := by
    intro K hK hq
    obtain ⟨v, xs, g1, g2, g3⟩ := run_results hrs hI'.reach.S hI'.tm hq
    exact ⟨hI'.df, v, g1, v, rfl, _, _, _, hK xs g2, hI'.reach, g3⟩
  cases e with
  | normal => exact fin _ (fun xs h => h) hq
  | ret => exact fin _ (fun xs h => h) hq
  | exit id => exact hq.elim

/-! ### Boxes that are never written again -/
def Env.frz (E : Env) (s s0 : Hp) : Env := ⟨E.μ, fun b o => E.F b o ∨ ∃ id cs, s id = some (.cells cs) ∧ s0 id = none ∧ E.μ id = some b ∧ o < cs.length, E.ρ⟩
theorem InvS.freezeAll {w : World} {E : Env} {s s0 : Hp} {k : Nat → Tk} (h : InvS w E s k) (hs : ∀ id, s0 id = none ∨ s0 id = s id) : Reach w E s k w (E.frz s s0) s0 k := by
  have hne : ∀ id, s0 id ≠ none → s id ≠ none := fun id h1 h2 => by rcases hs id with h3 | h3 <;> simp_all
  have heq : ∀ id x, s0 id = some x → s id = some x := fun id x h1 => by rcases hs id with h3 | h3 <;> simp_all
  have hext : Ext w E k w (E.frz s s0) k := ⟨fun b o hb => ⟨.inl hb, rfl⟩, fun _ _ h => h, fun _ h => ⟨h, fun h => ⟨h, rfl⟩⟩⟩
  refine ⟨⟨?_, ?_, fun id id' b h1 h2 => h.inj id id' b (hne _ h1) (hne _ h2), ?_, h.rinj, ?_, h.fin⟩, hext, Agree.refl _ w, fun b hb => .inl ?_, ?_⟩
  · intro id cs hid
    obtain ⟨b, cur, ty, c1, c2, c3, c4, c5, c6⟩ := h.cells id cs (heq _ _ hid)
    refine ⟨b, cur, ty, c1, c2, c3, c4, fun j x hx => hext.relp (c5 j x hx), fun o ho => ?_⟩
    rcases ho with ho | ⟨id', cs', h1, h2, h3, h4⟩
    · exact c6 o ho
    · have := h.inj id id' b (by rw [heq _ _ hid]; simp) (by rw [h1]; simp) c1 h3
      subst this
      rw [hid] at h2
      cases h2
  · intro id es hid
    obtain ⟨b, vs, clock, c1, c2, c3, c4⟩ := h.maps id es (heq _ _ hid)
    refine ⟨b, vs, clock, c1, c2, c3, fun i a x hx => ?_⟩
    obtain ⟨e, e1, e2, e3⟩ := c4 i a x hx
    exact ⟨e, e1, hext.rel e2, hext.rel e3⟩
  · intro g hg
    obtain ⟨r, cur, c1, c2, c3, c4, c5, c6, c7⟩ := h.rows g hg
    refine ⟨r, cur, c1, c2, c3, c4, c5, fun o ho => ?_, fun id hid => c7 id (hne _ hid)⟩
    rcases ho with ho | ⟨id', cs', h1, h2, h3, h4⟩
    · exact c6 o ho
    · exact absurd h3 (c7 id' (by rw [h1]; simp))
  · intro b o hb
    rcases hb with hb | ⟨id', cs', h1, h2, h3, h4⟩
    · exact h.prot b o hb
    · obtain ⟨b', cur, ty, c1, c2, c3, c4, c5, c6⟩ := h.cells id' cs' h1
      rw [h3] at c1
      cases c1
      exact ⟨cur[o]'(by omega), by rw [cell_of_row w b o cur ty (0, 0) c2]; exact Array.getElem?_eq_getElem (by omega)⟩
  · rcases hb with ⟨id, h1, h2⟩ | hb
    · exact .inl ⟨id, hne _ h1, h2⟩
    · exact .inr hb
  · intro b o hb
    rcases hb with hb | ⟨id', cs', h1, h2, h3, h4⟩
    · exact .inl hb
    · exact .inr (.inl (.inl ⟨id', by rw [h1]; simp, h3⟩))
/-- A value, its boxes never written again. -/
inductive Frz (s s0 : Hp) : A → A → Prop where
  | le {x y : A} : A.le x y → Frz s s0 x y
  | sb (id off esz n c : Nat) (cs : List A) (xs : List (List A)) : s id = some (.cells cs) → s0 id = none → off + n * esz ≤ cs.length → xs.length = n → (∀ (i : Nat) (x : List A), xs[i]? = some x → x = ((cs.drop (off + i * esz)).take esz).map A.strip) → Frz s s0 (.sb id off esz n c) (.sl esz xs .no)
  | agg (xs ys : List A) : xs.length = ys.length → (∀ (j : Nat) (x y : A), xs[j]? = some x → ys[j]? = some y → Frz s s0 x y) → Frz s s0 (.agg xs) (.agg ys)
  | tup (xs ys : List A) : xs.length = ys.length → (∀ (j : Nat) (x y : A), xs[j]? = some x → ys[j]? = some y → Frz s s0 x y) → Frz s s0 (.tup xs) (.tup ys)
theorem Frz.rel {w : World} {E : Env} {s s0 : Hp} {k : Nat → Tk} (h : InvS w E s k) {x y : A} (hf : Frz s s0 x y) : ∀ {v : Value}, Rel w E x v → Rel w (E.frz s s0) y v := by
  have hm : ∀ {x : A} {v : Value}, Rel w E x v → Rel w (E.frz s s0) x v := fun hr => Rel.mono (E := E) (E' := E.frz s s0) (fun b o hb => ⟨Or.inl hb, rfl⟩) (fun _ _ h => h) hr
  induction hf with
  | le hle => intro v hr; exact hm (hle.rel _ _ _ hr)
  | sb id off esz n c cs xs h1 h2 h3 h4 h5 =>
    intro v hr
    cases hr with
    | sb _ _ _ _ _ b o hb hn hmx ho =>
      obtain ⟨b', cur, ty, c1, c2, c3, c4, c5, c6⟩ := h.cells id cs h1
      rw [hb] at c1
      cases c1
      subst h4
      have hlen : ∀ (i : Nat) (x : List A), xs[i]? = some x → x.length = esz := by
        intro i x hx
        have hi := (List.getElem?_eq_some_iff.1 hx).1
        rw [h5 i x hx]
        have : (i + 1) * esz ≤ xs.length * esz := Nat.mul_le_mul_right _ hi
        rw [Nat.add_mul] at this
        simp only [List.length_map, List.length_take, List.length_drop]
        omega
      have hlt : ∀ i j, i < xs.length → j < esz → off + (i * esz + j) < cs.length := by
        intro i j hi hj
        have := idx_lt (esz := esz) hi hj
        omega
      refine .sl esz xs .no (some ⟨b, o, none⟩) c (fun i j => cur.getD (off + (i * esz + j)) Go.undef) hn hmx (by simp) (by simp) hlen ?_ ?_
      · intro i j hi hj
        have hl := hlt i j hi hj
        have hoo := ho (by omega)
        subst hoo
        refine ⟨b, o, rfl, .inr ⟨id, cs, h1, h2, hb, hl⟩, ?_, c4 _ hl⟩
        rw [cell_of_row w b _ cur ty (0, 0) c2, Array.getD_eq_getD_getElem?, Array.getElem?_eq_getElem (by omega)]
        rfl
      · intro i x j y hx hy
        have hi := (List.getElem?_eq_some_iff.1 hx).1
        rw [h5 i x hx, List.getElem?_map, Option.map_eq_some_iff] at hy
        obtain ⟨z, hz, rfl⟩ := hy
        rw [List.getElem?_take] at hz
        split at hz
        · rw [List.getElem?_drop, Nat.add_assoc] at hz
          exact hm ((c5 _ z hz).rel.strip)
        · cases hz
  | agg xs ys hl _ ih =>
    intro v hr
    cases hr with
    | agg _ vs q1 q2 q3 =>
      refine .agg ys vs (by omega) (fun j hj => q2 j (by omega)) fun j y hy => ?_
      have hj : j < xs.length := by have := (List.getElem?_eq_some_iff.1 hy).1; omega
      exact ih j xs[j] y (List.getElem?_eq_getElem hj) hy (q3 j _ (List.getElem?_eq_getElem hj))
  | tup xs ys hl _ ih =>
    intro v hr
    cases hr with
    | tup _ vs q1 q2 =>
      refine .tup ys vs (by omega) fun j y hy => ?_
      have hj : j < xs.length := by have := (List.getElem?_eq_some_iff.1 hy).1; omega
      exact ih j xs[j] y (List.getElem?_eq_getElem hj) hy (q2 j _ (List.getElem?_eq_getElem hj))
def A.scal : A → Bool
  | .int _ _ | .bool _ | .str _ => true
  | _ => false
/-- A contract for values that are never written again serves boxes that the callee only reads; what it returns is no slice. -/
theorem Spec.frozen {P : Program} {f : FuncId} {args args' : List A} {s : Hp} {k : Nat → Tk} {r : A} (hp : Spec P f args' (fun _ => none) k r (fun _ => none) k) (hr : r.scal = true) (hl : args'.length = args.length)
    (hf : ∀ (j : Nat) (x y : A), args[j]? = some x → args'[j]? = some y → Frz s (fun _ => none) x y) : Spec P f args s k r s k := by
  intro w E vs hS hsz hrel
  have hfr := hS.freezeAll (s0 := fun _ => none) (fun _ => .inl rfl)
  refine (hp w _ vs hfr.S (by omega) fun j y hy => ?_).mono fun v w' ⟨E', h1, h2⟩ => ?_
  · have hj : j < args.length := by have := (List.getElem?_eq_some_iff.1 hy).1; omega
    exact (hf j args[j] y (List.getElem?_eq_getElem hj) hy).rel hS (hrel j _ (List.getElem?_eq_getElem hj))
  · have hbox : ∀ id b, s id ≠ none → E.μ id = some b → b < w.heap.size ∧ (∀ o, ¬ E.F b o) ∧ ∀ (K : Env), ¬ Mut ⟨E.μ, K.F, E.ρ⟩ (fun _ => none) k b := by
      intro id b h1 h2
      obtain ⟨b', h3, h4⟩ := hS.dom h1
      rw [h2] at h3
      cases h3
      refine ⟨h4, fun o ho => hS.prot_box ho h1 h2, fun K => ?_⟩
      rintro (⟨id', q, _⟩ | ⟨g, r, g1, g2, g3⟩)
      · exact q rfl
      · obtain ⟨r', cur, q1, _, _, _, _, _, q7⟩ := hS.rows g g1
        simp only at g2
        rw [g2] at q1
        cases q1
        exact q7 id h1 (g3 ▸ h2)
    have hμ' : ∀ id b, s id ≠ none → E'.μ id = some b → E.μ id = some b := by
      intro id b h3 h4
      obtain ⟨b', h5, _⟩ := hS.dom h3
      have := h1.ext.μ id b' h5
      rw [this] at h4
      cases h4
      exact h5
    have hblk : ∀ id b, s id ≠ none → E.μ id = some b → w'.heap[b]? = w.heap[b]? := fun id b h3 h4 => h1.agree.block b (hbox id b h3 h4).1 ((hbox id b h3 h4).2.2 (E.frz s fun _ => none))
    let E'' : Env := ⟨E'.μ, fun b o => E'.F b o ∧ ¬ ∃ id, s id ≠ none ∧ E.μ id = some b, E'.ρ⟩
    have hmutk : ∀ b, Mut (E.frz s fun _ => none) (fun _ => none) k b → Mut E s k b := by
      rintro b (⟨id', q, _⟩ | ⟨g, r, g1, g2, g3⟩)
      · exact absurd rfl q
      · exact .inr ⟨g, r, g1, g2, g3⟩
    have hext : Ext w E k w' E'' k := by
      refine ⟨fun b o hb => ?_, fun id b hb => h1.ext.μ id b hb, fun g hg => h1.ext.tok g hg⟩
      obtain ⟨q1, q2⟩ := h1.ext.F b o (.inl hb)
      exact ⟨⟨q1, fun ⟨id, h3, h4⟩ => (hbox id b h3 h4).2.1 o hb⟩, q2⟩
    refine ⟨E'', ⟨⟨?_, ?_, ?_, ?_, h1.S.rinj, ?_, h1.S.fin⟩, hext, ⟨h1.agree.os, h1.agree.tape, h1.agree.output, h1.agree.size, fun b hb hm => h1.agree.block b hb fun q => hm (hmutk b q)⟩, ?_, ?_⟩, ?_⟩
    · intro id cs hid
      obtain ⟨b, cur, ty, c1, c2, c3, c4, c5, c6⟩ := hS.cells id cs hid
      have hne : s id ≠ none := by rw [hid]; simp
      exact ⟨b, cur, ty, h1.ext.μ id b c1, (hblk id b hne c1).trans c2, c3, c4, fun j x hx => hext.relp (c5 j x hx), fun o ho => ho.2 ⟨id, hne, c1⟩⟩
    · intro id es hid
      obtain ⟨b, vs, clock, c1, c2, c3, c4⟩ := hS.maps id es hid
      have hne : s id ≠ none := by rw [hid]; simp
      refine ⟨b, vs, clock, h1.ext.μ id b c1, (hblk id b hne c1).trans c2, c3, fun i a x hx => ?_⟩
      obtain ⟨e, e1, e2, e3⟩ := c4 i a x hx
      exact ⟨e, e1, hext.rel e2, hext.rel e3⟩
    · intro id id' b q1 q2 q3 q4
      exact hS.inj id id' b q1 q2 (hμ' id b q1 q3) (hμ' id' b q2 q4)
    · intro g hg
      obtain ⟨r, cur, c1, c2, c3, c4, c5, c6, c7⟩ := h1.S.rows g hg
      refine ⟨r, cur, c1, c2, c3, c4, c5, fun o ho => c6 o ho.1, fun id hid he => ?_⟩
      have hb0 := hμ' id r.b hid he
      rcases h1.base r.b (.inr ⟨g, r, hg, c1, rfl⟩) with q | q
      · exact (hbox id r.b hid hb0).2.2 (E.frz s fun _ => none) q
      · have := (hbox id r.b hid hb0).1
        have q' : w.heap.size ≤ r.b := q
        omega
    · intro b o ho
      exact h1.S.prot b o ho.1
    · intro b hb
      rcases hb with ⟨id, q1, q2⟩ | ⟨g, r, g1, g2, g3⟩
      · exact .inl (.inl ⟨id, q1, hμ' id b q1 q2⟩)
      · exact (h1.base b (.inr ⟨g, r, g1, g2, g3⟩)).imp (hmutk b) fun h => h
    · intro b o ho
      rcases h1.prot b o ho.1 with q | q | q
      · rcases q with q | ⟨id, cs, q1, q2, q3, q4⟩
        · exact .inl q
        · exact absurd ⟨id, by rw [q1]; simp, q3⟩ ho.2
      · exact .inr (.inl (hmutk b q))
      · exact .inr (.inr q)
    · cases h2 <;> first | (cases hr; done) | exact .int .. | exact .bool _ | exact .str _
/-- Tokens that the call made are forgotten; what was written bears none. -/
theorem Reach.forgetK {w : World} {E : Env} {s : Hp} {k : Nat → Tk} (h0 : InvS w E s k) {w' : World} {E' : Env} {s' : Hp} {k' : Nat → Tk} (h : Reach w E s k w' E' s' k') (hk : KExt k k')
    (hc : ∀ id cs, s' id = some (.cells cs) → s id = some (.cells cs) ∨ ∀ x ∈ cs, ∀ esz xs g e, x ≠ .sl esz xs (.own g e)) : Reach w E s k w' E' s' k := by
  refine ⟨⟨?_, h.S.maps, h.S.inj, fun g hg => h.S.rows g ((hk g (by rw [hg]; simp)).trans hg), fun g g' r r' hg hg' => h.S.rinj g g' r r' ((hk g (by rw [hg]; simp)).trans hg) ((hk g' (by rw [hg']; simp)).trans hg'), h.S.prot, ?_⟩,
    ⟨h.ext.F, h.ext.μ, fun g hg => ⟨hg, fun hl => ⟨hl, ((h.ext.tok g hg).2 ((hk g hg).trans hl)).2⟩⟩⟩, h.agree, fun b hb => ?_, h.prot⟩
  · intro id cs hid
    obtain ⟨b, cur, ty, c1, c2, c3, c4, c5, c6⟩ := h.S.cells id cs hid
    refine ⟨b, cur, ty, c1, c2, c3, c4, fun j x hx => ⟨(c5 j x hx).rel, fun esz xs g e he => ?_⟩, c6⟩
    rcases hc id cs hid with hq | hq
    · obtain ⟨b0, cur0, ty0, d1, d2, d3, d4, d5, d6⟩ := h0.cells id cs hq
      obtain ⟨a1, a2⟩ := (d5 j x hx).tok esz xs g e he
      obtain ⟨b1, b2⟩ := (c5 j x hx).tok esz xs g e he
      exact ⟨a1, fun hl => b2 ((hk g a1).trans hl)⟩
    · exact absurd he (hq x (List.mem_of_getElem? hx) esz xs g e)
  · obtain ⟨N, hN⟩ := h.S.fin
    obtain ⟨M, hM⟩ := h0.fin
    exact ⟨max N M, fun i hi => ⟨(hN i (by omega)).1, (hM i (by omega)).2⟩⟩
  · rcases hb with hb | ⟨g, r, g1, g2, g3⟩
    · exact h.base b (.inl hb)
    · exact h.base b (.inr ⟨g, r, (hk g (by rw [g1]; simp)).trans g1, g2, g3⟩)
/-- At a function's end: nothing has changed that was there. -/
def OutQ (s : Hp) (k : Nat → Tk) (r : A) (r1 : A) (st : St) : Prop := Frz st.s s r1 r ∧ SExt s st.s ∧ KExt k st.k
/-- At a function's end: what the call comes to. -/
def OutR (s : Hp) (k : Nat → Tk) (R : A → Hp → (Nat → Tk) → Prop) (r1 : A) (st : St) : Prop := ∃ r s' k', R r s' k' ∧ Frz st.s s' r1 r ∧ (∀ id, s' id = none ∨ s' id = st.s id) ∧
  (k' = st.k ∨ (k' = k ∧ KExt k st.k ∧ ∀ id cs, s' id = some (.cells cs) → s id = some (.cells cs) ∨ ∀ x ∈ cs, ∀ esz xs g e, x ≠ .sl esz xs (.own g e)))
theorem run_callFunc {P : Program} {f : FuncId} {fn : Func} {c : Code} (hf : P.funcs[f]? = some fn) (hname : (fn.name == "runtime.NumGoroutine") = false) (hb : fn.body = some c) (vs : Array Value) (w : World) : (callFunc f vs).run P w = .ok (.enter f vs) w := by
  simp only [callFunc, Sem.run_bind, run_program, Result.andThen_ok, hf, hname, Bool.false_eq_true, if_false, hb, Option.isNone_some, Sem.run_pure]
theorem spec_any {P : Program} (hm : P.follows .mixedOrders = true) {f : FuncId} {fn : Func} {c : Code} {pc : PC} {rs : List RV} (hf : P.funcs[f]? = some fn) (hname : (fn.name == "runtime.NumGoroutine") = false) (hb : fn.body = some c) (htr : trCode P B fn.ntmps 400 c = some pc.bare) (hrs : trRes P fn.results = some rs)
    {args : List A} (hn : args.length ≤ fn.ntmps) (hnt : ∀ x ∈ args, ∀ esz xs g e, x ≠ .sl esz xs (.own g e)) {s : Hp} {k : Nat → Tk} {R : A → Hp → (Nat → Tk) → Prop}
    (h : pwp P pc (bodyQ rs (OutR s k R)) ⟨initT args, s, k⟩) : SpecR P f args s k R := by
  intro w E vs hS hl hr
  have hc := calls_body hm hf hb htr hrs hn h hS hl hr hnt
  unfold CallsV
  rw [run_callFunc hf hname hb]
  refine Calls.mono hc fun e w' h => ?_
  obtain ⟨v, rfl, r1, st1, E', ⟨r, s', k', h1, h2, h3, h4⟩, h5, h6⟩ := h
  have h7 := h5.trans (h5.S.freezeAll h3)
  refine ⟨v, rfl, r, s', k', h1, _, ?_, h2.rel h5.S h6⟩
  rcases h4 with rfl | ⟨rfl, h8, h9⟩
  · exact h7
  · exact h7.forgetK hS h8 h9
/-- A function's contract, where it changes nothing that was there. -/
theorem spec_quiet {P : Program} (hm : P.follows .mixedOrders = true) {f : FuncId} {fn : Func} {c : Code} {pc : PC} {rs : List RV} (hf : P.funcs[f]? = some fn) (hname : (fn.name == "runtime.NumGoroutine") = false) (hb : fn.body = some c) (htr : trCode P B fn.ntmps 400 c = some pc.bare) (hrs : trRes P fn.results = some rs)
    {args : List A} (hn : args.length ≤ fn.ntmps) (hnt : ∀ x ∈ args, ∀ esz xs g e, x ≠ .sl esz xs (.own g e)) {s : Nat → Option Blk} {k : Nat → Tk} {r : A}
    (h : pwp P pc (bodyQ rs (OutQ s k r)) ⟨initT args, s, k⟩) : Spec P f args s k r s k := by
  intro w E vs hS hl hr
  have hc := calls_body hm hf hb htr hrs hn h hS hl hr hnt
  have hcf : (callFunc f vs).run P w = .ok (.enter f vs) w := by
    simp only [callFunc, Sem.run_bind, run_program, Result.andThen_ok, hf, hname, Bool.false_eq_true, if_false, hb, Option.isNone_some, Sem.run_pure]
  unfold CallsV
  rw [hcf]
  refine Calls.mono hc fun e w' h => ?_
  obtain ⟨v, rfl, r1, st1, E', ⟨h1, h2, h3⟩, h4, h5⟩ := h
  have h7 := h4.trans (h4.S.freezeAll (s0 := s) fun id => by
    by_cases e : s id = none
    · exact .inl e
    · exact .inr (h2 id e).symm)
  exact ⟨v, rfl, _, h7.forget hS (SExt.refl s) h3, h1.rel h4.S h5⟩

end Go.Pv
