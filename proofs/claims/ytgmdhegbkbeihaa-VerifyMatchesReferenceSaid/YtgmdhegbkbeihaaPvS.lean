/- Evaluation: a function's contract out of its compact code, read off the program. -/
import Derived.Test.YtgmdhegbkbeihaaPvR
import Derived.KernelRfl
set_option linter.unusedVariables false
set_option linter.unusedSimpArgs false
namespace Go.Pv
open Go

/-- A function's compact code, its results, how many temporaries it has. -/
def trAll (P : Program) (f : Nat) : Option (PC × List RV × Nat) := do
  let fn ← P.funcs[f]?
  let c ← fn.body
  let pc ← trCode P fn.ntmps c
  let rs ← trRes P fn.results
  if fn.name == "runtime.NumGoroutine" then none else some (pc, rs, fn.ntmps)
theorem bare_tr {P : Program} {n : Nat} : ∀ (c : Code) (pc : PC), trCode P n c = some pc → pc.bare = pc := by
  intro c
  induction c with
  | skip => intro pc h; simp [trCode] at h; subst h; rfl
  | region id ops draw =>
    intro pc h
    simp only [trCode, Option.bind_eq_bind, Option.bind_eq_some_iff] at h
    obtain ⟨ps, _, h⟩ := h
    split at h
    · cases h; rfl
    · cases h
  | seq x y ihx ihy =>
    intro pc h
    simp only [trCode, Option.bind_eq_bind, Option.bind_eq_some_iff, Option.some.injEq] at h
    obtain ⟨a, ha, b, hb, rfl⟩ := h
    simp only [PC.bare, ihx a ha, ihy b hb]
  | cond c x y ihx ihy =>
    intro pc h
    simp only [trCode, Option.bind_eq_bind, Option.bind_eq_some_iff, Option.some.injEq] at h
    obtain ⟨d, hd, a, ha, b, hb, rfl⟩ := h
    simp only [PC.bare, ihx a ha, ihy b hb]
  | block id x ih =>
    intro pc h
    simp only [trCode, Option.map_eq_some_iff] at h
    obtain ⟨a, ha, rfl⟩ := h
    simp only [PC.bare, ih a ha]
  | loop x ih =>
    intro pc h
    simp only [trCode, Option.map_eq_some_iff] at h
    obtain ⟨a, ha, rfl⟩ := h
    simp only [PC.bare, ih a ha]
  | exit id => intro pc h; simp [trCode] at h; subst h; rfl
  | ret => intro pc h; simp [trCode] at h; subst h; rfl
  | _ => intro pc h; simp [trCode] at h

/-- Arguments are no rows of the caller's. -/
def A.noOwn : A → Bool
  | .sl _ _ (.own _ _) => false
  | _ => true
def OutQ (s : Nat → Option Blk) (k : Nat → Tk) (r : A) (r1 : A) (st : St) : Prop := A.le r1 r ∧ SExt s st.s ∧ KExt k st.k
theorem spec_tr {P : Program} (hm : P.follows .mixedOrders = true) {f : FuncId} {pc : PC} {rs : List RV} {n : Nat} (ht : trAll P f = some (pc, rs, n)) {args : List A} (hn : args.length ≤ n) (hnt : args.all A.noOwn = true) {s : Nat → Option Blk} {k : Nat → Tk} {r : A}
    (h : pwp P pc (bodyQ rs (OutQ s k r)) ⟨initT args, s, k⟩) : Spec P f args s k r s k := by
  unfold trAll at ht
  simp only [Option.bind_eq_bind, Option.bind_eq_some_iff] at ht
  obtain ⟨fn, h1, c, h2, pc', h3, rs', h4, ht⟩ := ht
  split at ht
  · cases ht
  · rename_i hname
    cases ht
    refine spec_quiet hm h1 (by simpa using hname) h2 (by rw [bare_tr c pc h3]; exact h3) h4 hn ?_ h
    intro x hx esz xs g e he
    have := List.all_eq_true.1 hnt x hx
    rw [he] at this
    cases this
/-- Less may be known of the arguments. -/
theorem Spec.args {P : Program} {f : FuncId} {xs ys : List A} {s s' : Nat → Option Blk} {k k' : Nat → Tk} {r : A} (h : Spec P f ys s k r s' k') (hl : A.lel xs ys) : Spec P f xs s k r s' k' := by
  intro w E vs hS hsz hr
  obtain ⟨h1, h2⟩ := hl.get
  exact h w E vs hS (by omega) fun j y hy => by
    obtain ⟨x, e1, e2⟩ := h2 j y hy
    exact e2.rel _ _ _ (hr j x e1)

/-! ### Steps -/
theorem upd_apply {α : Type} (f : Nat → α) (i : Nat) (x : α) (j : Nat) : upd f i x j = if j = i then x else f j := rfl
theorem upd_none {α : Type} (f : Nat → Option α) (i : Nat) (x : α) (j : Nat) : upd f i (some x) j = none ↔ (¬ j = i ∧ ¬ i = j) ∧ f j = none := by
  unfold upd
  by_cases h : j = i
  · simp [h]
  · simp [h, Ne.symm h]

/-- What follows an operation. -/
def nx (P : Program) (d : Option Nat) (ps : List PI) (K : St → Prop) : A → St → Prop := fun v st => runs P ps K (st.put d v)
def condS (P : Program) (a : A) (x y : PC) (Q : PX → St → Prop) (st : St) : Prop := match a with
  | .bool b => (b = true → pwp P x Q st) ∧ (b = false → pwp P y Q st)
  | _ => False
def brC (P : Program) (b : Bool) (x y : PC) (Q : PX → St → Prop) (st : St) : Prop := (b = true → pwp P x Q st) ∧ (b = false → pwp P y Q st)
def gdS (P : Program) (a : A) (w : Bool) (i : Ins) (d : Option Nat) (ps : List PI) (K : St → Prop) (st : St) : Prop := match a with
  | .bool b => if b = w then step P i st (nx P d ps K) else nx P d ps K (.tup []) st
  | .tup _ => nx P d ps K (.tup []) st
  | _ => False
def brG (P : Program) (b : Bool) (i : Ins) (d : Option Nat) (ps : List PI) (K : St → Prop) (st : St) : Prop := (b = true → step P i st (nx P d ps K)) ∧ (b = false → nx P d ps K (.tup []) st)
def brN (P : Program) (b : Bool) (i : Ins) (d : Option Nat) (ps : List PI) (K : St → Prop) (st : St) : Prop := (b = false → step P i st (nx P d ps K)) ∧ (b = true → nx P d ps K (.tup []) st)
def getS (o : Option A) (st : St) (K : A → St → Prop) : Prop := match o with
  | some v => K v st
  | none => False
def getT (o : Option A) (st : St) (K : A → St → Prop) : Prop := match o with
  | some v => K v.strip st
  | none => False
def vS (p : Prop) (v : A) (st : St) (K : A → St → Prop) : Prop := p ∧ K v st
def pickS (c a b : A) (st : St) (K : A → St → Prop) : Prop := match c with
  | .bool t => K (if t then a else b) st
  | _ => False
def readS (cs : List A) (off : Nat) (n : Option Nat) (st : St) (K : A → St → Prop) : Prop := readP cs off n fun x => K x st
def readT (cs : List A) (off : Nat) (n : Option Nat) (st : St) (K : A → St → Prop) : Prop := readP cs off n fun x => K x.strip st
def cellsS (b : Option Blk) (off : Nat) (n : Option Nat) (st : St) (K : A → St → Prop) : Prop := match b with
  | some (.cells cs) => readS cs off n st K
  | _ => False
def loadS (a : A) (n : Option Nat) (st : St) (K : A → St → Prop) : Prop := match a with
  | .el cs off => readT cs off n st K
  | .ptr id off => cellsS (st.s id) off n st K
  | _ => False
def stoS (b : Option Blk) (id off : Nat) (x : A) (n : Nat) (st : St) (K : A → St → Prop) : Prop := match b with
  | some (.cells cs) => vS (x.solid = true ∧ x.pcells.length = n ∧ off + n ≤ cs.length) .undef ⟨st.t, upd st.s id (some (.cells (splice cs off x.pcells))), st.k⟩ K
  | _ => False
def storeS (a x : A) (n : Nat) (st : St) (K : A → St → Prop) : Prop := match a with
  | .ptr id off => stoS (st.s id) id off x n st K
  | _ => False
def newS (z : List A) (st : St) (K : A → St → Prop) : Prop := ∀ id, st.s id = none → K (.ptr id 0) ⟨st.t, upd st.s id (some (.cells z)), st.k⟩
def boxS (x : A) (st : St) (K : A → St → Prop) : Prop := x.solid = true ∧ newS x.pcells st K
def fldA (off : Nat) (a : A) : Option A := match a with
  | .el cs o => some (.el cs (o + off))
  | .ptr id o => some (.ptr id (o + off))
  | _ => none
def idxT (p : Prop) (o : Option (List A)) (st : St) (K : A → St → Prop) : Prop := match o with
  | some cs => p ∧ K (.el cs 0) st
  | none => False
def idxS (esz : Nat) (x i : A) (st : St) (K : A → St → Prop) : Prop := match x, i with
  | .sl e xs _, .int _ n => idxT (e = esz ∧ 0 ≤ n) xs[n.toNat]? st K
  | _, _ => False
def idxAS (len esz : Nat) (x i : A) (st : St) (K : A → St → Prop) : Prop := match x, i with
  | .ptr id o, .int _ n => vS (0 ≤ n ∧ n < len) (.ptr id (o + n.toNat * esz)) st K
  | .el cs o, .int _ n => vS (0 ≤ n ∧ n < len) (.el cs (o + n.toNat * esz)) st K
  | _, _ => False
def getfS (off : Nat) (n : Option Nat) (x : A) (st : St) (K : A → St → Prop) : Prop := match x with
  | .agg cs => readT cs off n st K
  | _ => False
def rdS (p : Prop) (cs : List A) (off : Nat) (n : Option Nat) (st : St) (K : A → St → Prop) : Prop := p ∧ readT cs off n st K
def getiS (len esz : Nat) (n : Option Nat) (x i : A) (st : St) (K : A → St → Prop) : Prop := match x, i with
  | .agg cs, .int _ j => rdS (0 ≤ j ∧ j < len) cs (j.toNat * esz) n st K
  | _, _ => False
def eqqT (p : Prop) (o : Option Bool) (neq : Bool) (st : St) (K : A → St → Prop) : Prop := match o with
  | some b => p ∧ K (.bool (if neq then !b else b)) st
  | none => False
def eqsS (bs : List Basic) (neq : Bool) (x y : A) (st : St) (K : A → St → Prop) : Prop := match x, y with
  | .agg cs, .agg ds => eqqT (fitBs bs cs = true) (eqCells cs ds) neq st K
  | _, _ => False
def eqbA (neq : Bool) (x y : A) : Option A := match x, y with
  | .bool a, .bool b => some (.bool (if neq then !decide (a = b) else decide (a = b)))
  | _, _ => none
def unA (op : UnOp) (x : A) : Option A := match op, x with
  | .not, .bool b => some (.bool !b)
  | .neg, .int k n => some (.int k (k.wrap (0 - n)))
  | _, _ => none
def convA (k : IntKind) (x : A) : Option A := match x with
  | .int _ n => some (.int k (k.wrap n))
  | _ => none
def lenA (q : Bool) (x : A) : Option A := match q, x with
  | false, .sl _ xs _ => some (.int .i64 xs.length)
  | true, .str s => some (.int .i64 s.size)
  | _, _ => none
def mmA (big : Bool) (x y : A) : Option A := match x, y with
  | .int k a, .int k' b => if k = k' then some (.int k (if big then max a b else min a b)) else none
  | _, _ => none
def extS (x : A) (i : Nat) (st : St) (K : A → St → Prop) : Prop := match x with
  | .tup cs => getT cs[i]? st K
  | _ => False
def callS (P : Program) (f : A) (args : List A) (st : St) (K : A → St → Prop) : Prop := match f with
  | .fn fid caps => ∃ r s' k', Spec P fid (args ++ caps) st.s st.k r s' k' ∧ K r.strip ⟨st.t, s', k'⟩
  | _ => False
def callQS (P : Program) (f : A) (args : List A) (st : St) (K : A → St → Prop) : Prop := match f with
  | .fn fid caps => ∃ r, Spec P fid (args ++ caps) st.s st.k r st.s st.k ∧ K r.strip st
  | _ => False
def appS (esz e bytes : Nat) (s x : A) (st : St) (K : A → St → Prop) : Prop := match s, x with
  | .sl e1 xs t, .sl e2 ys _ => (e1 = esz ∨ (xs = [] ∧ t = .nil)) ∧ (e2 = esz ∨ ys = []) ∧ tokLive st.k e t ∧ (xs.length + ys.length) * bytes ≤ 140737488355328 ∧ (ys = [] → K (.sl esz xs t) st) ∧
      (ys ≠ [] → ∀ g, st.k g = .unused → K (.sl esz (xs ++ ys) (.own g e)) ⟨st.t, st.s, upd (killT st.k t) g .live⟩)
  | _, _ => False
def fillS (z : List A) (ps : List (Nat × Nat × Opd)) (st : St) (K : A → St → Prop) : Prop := fillP st z ps fun cs => K (.agg cs) st
def fillV (p : Prop) (z : List A) (ps : List (Nat × Nat × Opd)) (st : St) (K : A → St → Prop) : Prop := p ∧ fillS z ps st K
def litS (esz : Nat) (z : List (List A)) (ps : List (Nat × Opd)) (st : St) (K : A → St → Prop) : Prop := litP st esz z ps fun xs => K (.sl esz xs .full) st
def litV (p : Prop) (esz : Nat) (z : List (List A)) (ps : List (Nat × Opd)) (st : St) (K : A → St → Prop) : Prop := p ∧ litS esz z ps st K
def slcS (esz : Nat) (x : A) (lo hi : Option Int) (mx : Option A) (st : St) (K : A → St → Prop) : Prop := match x with
  | .sl e xs _ => match lo, hi, mx with
    | some l, some h, none => vS ((e = esz ∨ xs = []) ∧ 0 ≤ l ∧ l ≤ h ∧ h ≤ xs.length) (.sl esz ((xs.drop l.toNat).take (h.toNat - l.toNat)) .no) st K
    | some l, some h, some (.int _ c) => vS ((e = esz ∨ xs = []) ∧ 0 ≤ l ∧ l ≤ h ∧ h = c ∧ c ≤ xs.length) (.sl esz ((xs.drop l.toNat).take (h.toNat - l.toNat)) .full) st K
    | _, _, _ => False
  | _ => False
def lenI (x : A) : Int := match x with
  | .sl _ xs _ => xs.length
  | _ => 0
def lookF (ok : Bool) (z : A) (o : Option A) (st : St) (K : A → St → Prop) : Prop := match o with
  | some v => K (if ok then .tup [v.strip, .bool true] else v.strip) st
  | none => K (if ok then .tup [z, .bool false] else z) st
def lookB (kb : Basic) (ok : Bool) (z : A) (b : Option Blk) (x : A) (st : St) (K : A → St → Prop) : Prop := match b with
  | some (.map es) => (keyB kb x = true ∧ ∀ p ∈ es, kindEq x p.1 = true) ∧ lookF ok z (findA x es) st K
  | _ => False
def lookS (kb : Basic) (ok : Bool) (z m x : A) (st : St) (K : A → St → Prop) : Prop := match m with
  | .map id => lookB kb ok z (st.s id) x st K
  | .nilmap => keyB kb x = true ∧ lookF ok z none st K
  | _ => False
def seqQ (F : St → Prop) (Q : PX → St → Prop) : PX → St → Prop := fun e st => match e with
  | .normal => F st
  | e => Q e st
def blkQ (id : Nat) (Q : PX → St → Prop) : PX → St → Prop := fun e st => match e with
  | .exit j => if j = id then Q .normal st else Q (.exit j) st
  | e => Q e st
/-- At the end of a round. -/
def nextQ (I : Nat → St → Prop) (m : Nat) (Q : PX → St → Prop) : PX → St → Prop := fun e st' => match e with
  | .normal => ∃ st2 m', m' < m ∧ St.le st' st2 ∧ I m' st2
  | e => Q e st'
theorem nextQ_normal {I : Nat → St → Prop} {m : Nat} {Q : PX → St → Prop} {st st2 : St} (m' : Nat) (hm : m' < m) (hl : St.le st st2) (hi : I m' st2) : nextQ I m Q .normal st := ⟨st2, m', hm, hl, hi⟩
theorem loop_intro {P : Program} {x : PC} {Q : PX → St → Prop} {st : St} (I : Nat → St → Prop) (m : Nat) (h0 : I m st) (h : ∀ m st1, I m st1 → pwp P x (nextQ I m Q) st1) : pwp P (.loop x) Q st := by
  refine ⟨I, ⟨st, m, St.le_refl st, h0⟩, fun m st1 hi => ?_⟩
  have := h m st1 hi
  have e : nextQ I m Q = fun e st' => match e with
    | .normal => ∃ st2 m', m' < m ∧ St.le st' st2 ∧ I m' st2
    | e => Q e st' := by funext e st'; cases e <;> rfl
  rw [e] at this
  exact this
theorem St.le_s {t : Nat → A} {s s' : Nat → Option Blk} {k : Nat → Tk} (h : SExt s s') : St.le ⟨t, s', k⟩ ⟨t, s, k⟩ := ⟨fun _ => A.le_refl _, fun id => by
  by_cases e : s id = none
  · exact .inl e
  · exact .inr (h id e).symm, rfl⟩

/-! #### As equations -/
section
variable (P : Program) (st : St) (K : A → St → Prop)
theorem step_pick (c a b : Opd) : step P (.pick c a b) st K = pickS (ev st c) (ev st a) (ev st b) st K := rfl
theorem step_load (n : Option Nat) (a : Opd) : step P (.load n a) st K = loadS (ev st a) n st K := by
  simp only [step, loadS, cellsS, readS, readT]
  generalize ev st a = X
  cases X <;> rfl
theorem step_store (n : Nat) (a x : Opd) : step P (.store n a x) st K = storeS (ev st a) (ev st x) n st K := by
  simp only [step, storeS, stoS, vS, and_assoc]
  generalize ev st a = X
  cases X <;> rfl
theorem step_fld (off : Nat) (a : Opd) : step P (.fld off a) st K = getS (fldA off (ev st a)) st K := by
  simp only [step, fldA, getS]
  generalize ev st a = X
  cases X <;> rfl
theorem step_idx (esz : Nat) (x i : Opd) : step P (.idx esz x i) st K = idxS esz (ev st x) (ev st i) st K := by
  simp only [step, idxS, idxT]
  generalize ev st x = X
  generalize ev st i = Y
  cases X <;> cases Y <;> try rfl
  simp only
  rename_i xs _ _ n
  generalize xs[n.toNat]? = o
  cases o <;> simp [and_assoc]
theorem step_idxA (len esz : Nat) (x i : Opd) : step P (.idxA len esz x i) st K = idxAS len esz (ev st x) (ev st i) st K := by
  simp only [step, idxAS, vS]
  generalize ev st x = X
  generalize ev st i = Y
  cases X <;> cases Y <;> simp [and_assoc]
theorem step_getf (off : Nat) (n : Option Nat) (x : Opd) : step P (.getf off n x) st K = getfS off n (ev st x) st K := rfl
theorem step_geti (len esz : Nat) (n : Option Nat) (x i : Opd) : step P (.geti len esz n x i) st K = getiS len esz n (ev st x) (ev st i) st K := by
  simp only [step, getiS, rdS, readT]
  generalize ev st x = X
  generalize ev st i = Y
  cases X <;> cases Y <;> simp [and_assoc]
theorem step_bin (op : BinOp) (x y : Opd) : step P (.bin op x y) st K = getS (binA op (ev st x) (ev st y)) st K := by
  simp only [step, getS]
  generalize binA op (ev st x) (ev st y) = o
  cases o <;> rfl
theorem step_eqs (bs : List Basic) (neq : Bool) (x y : Opd) : step P (.eqs bs neq x y) st K = eqsS bs neq (ev st x) (ev st y) st K := by
  simp only [step, eqsS, eqqT]
  generalize ev st x = X
  generalize ev st y = Y
  cases X <;> cases Y <;> try rfl
  rename_i cs ds
  simp only
  generalize eqCells cs ds = o
  cases o <;> simp
theorem step_eqb (neq : Bool) (x y : Opd) : step P (.eqb neq x y) st K = getS (eqbA neq (ev st x) (ev st y)) st K := by
  simp only [step, eqbA, getS]
  generalize ev st x = X
  generalize ev st y = Y
  cases X <;> cases Y <;> rfl
theorem step_un (op : UnOp) (x : Opd) : step P (.un op x) st K = getS (unA op (ev st x)) st K := by
  simp only [step, unA, getS]
  generalize ev st x = X
  cases op <;> cases X <;> rfl
theorem step_conv (k : IntKind) (x : Opd) : step P (.conv k x) st K = getS (convA k (ev st x)) st K := by
  simp only [step, convA, getS]
  generalize ev st x = X
  cases X <;> rfl
theorem step_len (q : Bool) (x : Opd) : step P (.len q x) st K = getS (lenA q (ev st x)) st K := by
  simp only [step, lenA, getS]
  generalize ev st x = X
  cases q <;> cases X <;> rfl
theorem step_mm (big : Bool) (x y : Opd) : step P (.mm big x y) st K = getS (mmA big (ev st x) (ev st y)) st K := by
  simp only [step, mmA, getS]
  generalize ev st x = X
  generalize ev st y = Y
  cases X <;> cases Y <;> try rfl
  rename_i k a k' b
  by_cases h : k = k' <;> simp [h]
theorem step_ext (x : Opd) (i : Nat) : step P (.ext x i) st K = extS (ev st x) i st K := by
  simp only [step, extS, getT]
  generalize ev st x = X
  cases X <;> rfl
theorem step_call (f : Opd) (args : List Opd) : step P (.call false f args) st K = callS P (ev st f) (args.map fun x => (ev st x).strip) st K := by
  simp only [step, callS]
  generalize ev st f = a
  cases a <;> simp
theorem step_callq (f : Opd) (args : List Opd) : step P (.call true f args) st K = callQS P (ev st f) (args.map fun x => (ev st x).strip) st K := by
  simp only [step, callQS]
  generalize ev st f = a
  cases a <;> simp
theorem step_slc (esz : Nat) (x : Opd) (lo hi mx : Option Opd) : step P (.slc esz x lo hi mx) st K = slcS esz (ev st x) (optI st lo 0) (optI st hi (lenI (ev st x))) (mx.map (ev st)) st K := by
  simp only [step, slcS, vS]
  generalize ev st x = X
  cases X <;> try rfl
  rename_i e xs t
  simp only [lenI]
  generalize optI st lo 0 = L
  generalize optI st hi xs.length = H
  cases L <;> cases H <;> cases mx <;> simp [and_assoc]
  rename_i m
  generalize ev st m = M
  cases M <;> simp
theorem step_look (kb : Basic) (ok : Bool) (z : A) (m x : Opd) : step P (.look kb ok z m x) st K = lookS kb ok z (ev st m) (ev st x) st K := by
  simp only [step, lookS, lookB, lookF]
  generalize ev st m = M
  cases M <;> try rfl
  rename_i id
  simp only
  generalize st.s id = b
  rcases b with _ | (_ | es) <;> try rfl
  simp only [and_assoc]
  generalize findA (ev st x) es = o
  cases o <;> rfl
end
theorem callS_quiet {P : Program} {fid : FuncId} {caps args : List A} {st : St} {K : A → St → Prop} {r : A} (h : Spec P fid (args ++ caps) st.s st.k r st.s st.k) (hk : K r.strip st) : callS P (.fn fid caps) args st K := ⟨r, _, _, h, hk⟩
theorem callQS_quiet {P : Program} {fid : FuncId} {caps args : List A} {st : St} {K : A → St → Prop} {r : A} (h : Spec P fid (args ++ caps) st.s st.k r st.s st.k) (hk : K r.strip st) : callQS P (.fn fid caps) args st K := ⟨r, h, hk⟩
theorem pwp_seq (P : Program) (x y : PC) (Q : PX → St → Prop) (st : St) : pwp P (.seq x y) Q st = pwp P x (seqQ (pwp P y Q) Q) st := by
  simp only [pwp]
  congr 1
theorem pwp_block (P : Program) (id : Nat) (x : PC) (Q : PX → St → Prop) (st : St) : pwp P (.block id x) Q st = pwp P x (blkQ id Q) st := by
  simp only [pwp]
  congr 1
theorem pwp_cond (P : Program) (c : Opd) (x y : PC) (Q : PX → St → Prop) (st : St) : pwp P (.cond c x y) Q st = condS P (ev st c) x y Q st := by
  simp only [pwp, condS]
  generalize ev st c = a
  cases a with
  | bool b => cases b <;> simp
  | _ => rfl
theorem runs_some (P : Program) (d : Option Nat) (j : Nat) (w : Bool) (i : Ins) (ps : List PI) (K : St → Prop) (st : St) : runs P (⟨d, some (j, w), i⟩ :: ps) K st = gdS P (st.t j) w i d ps K st := by
  simp only [runs, run1, gdS]
  generalize st.t j = a
  cases a <;> rfl
theorem gdS_false (P : Program) (b : Bool) (i : Ins) (d : Option Nat) (ps : List PI) (K : St → Prop) (st : St) : gdS P (.bool b) false i d ps K st = brN P b i d ps K st := by
  cases b <;> simp [gdS, brN]
theorem gdS_true (P : Program) (b : Bool) (i : Ins) (d : Option Nat) (ps : List PI) (K : St → Prop) (st : St) : gdS P (.bool b) true i d ps K st = brG P b i d ps K st := by
  cases b <;> simp [gdS, brG]
/-- The equations of code and of regions. -/
theorem pvC (P : Program) : (∀ Q st, pwp P .skip Q st = Q .normal st) ∧ (∀ Q st, pwp P .ret Q st = Q .ret st) ∧ (∀ id Q st, pwp P (.exit id) Q st = Q (.exit id) st) ∧ (∀ l d Q st, pwp P (.reg l d none) Q st = runs P l (Q .normal) st) ∧ (∀ b x y Q st, condS P (.bool b) x y Q st = brC P b x y Q st) ∧ (∀ x y Q st, brC P true x y Q st = pwp P x Q st) ∧ (∀ x y Q st, brC P false x y Q st = pwp P y Q st) ∧ (∀ K st, runs P [] K st = K st) ∧ (∀ d i ps K st, runs P (⟨d, none, i⟩ :: ps) K st = step P i st (nx P d ps K)) ∧ (∀ w i d ps K st l, gdS P (.tup l) w i d ps K st = nx P d ps K (.tup []) st) ∧ (∀ i d ps K st, brG P true i d ps K st = step P i st (nx P d ps K)) ∧ (∀ i d ps K st, brG P false i d ps K st = nx P d ps K (.tup []) st) ∧ (∀ i d ps K st, brN P false i d ps K st = step P i st (nx P d ps K)) ∧ (∀ i d ps K st, brN P true i d ps K st = nx P d ps K (.tup []) st) ∧ (∀ d ps K v t s k, nx P (some d) ps K v ⟨t, s, k⟩ = runs P ps K ⟨upd t d v, s, k⟩) ∧ (∀ ps K v t s k, nx P none ps K v ⟨t, s, k⟩ = runs P ps K ⟨t, s, k⟩) := by
  refine ⟨?_, ?_, ?_, ?_, ?_, ?_, ?_, ?_, ?_, ?_, ?_, ?_, ?_, ?_, ?_, ?_⟩ <;> intros <;> first | rfl | simp [brC, brG, brN]
theorem pvQ : (∀ F Q st, seqQ F Q .normal st = F st) ∧ (∀ F Q id st, seqQ F Q (.exit id) st = Q (.exit id) st) ∧ (∀ F Q st, seqQ F Q .ret st = Q .ret st) ∧ (∀ id Q st, blkQ id Q .normal st = Q .normal st) ∧ (∀ id Q j st, blkQ id Q (.exit j) st = if j = id then Q .normal st else Q (.exit j) st) ∧ (∀ id Q st, blkQ id Q .ret st = Q .ret st) ∧ (∀ I m Q id st, nextQ I m Q (.exit id) st = Q (.exit id) st) ∧ (∀ I m Q st, nextQ I m Q .ret st = Q .ret st) ∧ (∀ rs R st, bodyQ rs R .normal st = resP st rs fun xs => R (oneOf xs) st) ∧ (∀ rs R st, bodyQ rs R .ret st = resP st rs fun xs => R (oneOf xs) st) := by
  refine ⟨?_, ?_, ?_, ?_, ?_, ?_, ?_, ?_, ?_, ?_⟩ <;> intros <;> rfl
/-- The equations of operations. -/
theorem pvO (P : Program) (st : St) (K : A → St → Prop) : (∀ x, step P (.mv x) st K = K (ev st x) st) ∧ (∀ z ps, step P (.build z ps) st K = fillS z ps st K) ∧ (∀ esz e z n ps, step P (.lit esz e z n ps) st K = litS esz (List.replicate n z) ps st K) ∧ (∀ z, step P (.new z) st K = newS z st K) ∧ (∀ x, step P (.box x) st K = boxS (ev st x) st K) ∧ (∀ f caps, step P (.mkfn f caps) st K = K (.fn f (caps.map fun x => (ev st x).strip)) st) ∧ (∀ n, step P (.clen n) st K = K (.int .i64 n) st) ∧ (∀ esz e bytes s x, step P (.app esz e bytes s x) st K = appS esz e bytes (ev st s) (ev st x) st K) := by
  refine ⟨?_, ?_, ?_, ?_, ?_, ?_, ?_, ?_⟩ <;> intros <;> rfl
theorem pvK (st : St) (K : A → St → Prop) : (∀ v, getS (some v) st K = K v st) ∧ (∀ v, getT (some v) st K = K v.strip st) ∧ (∀ v, vS True v st K = K v st) ∧ (∀ t a b, pickS (.bool t) a b st K = K (if t then a else b) st) ∧ (∀ cs off, readS cs off none st K = getS cs[off]? st K) ∧ (∀ cs off m, readS cs off (some m) st K = vS (off + m ≤ cs.length) (.agg (((cs.drop off).take m).map A.strip)) st K) ∧ (∀ cs off, readT cs off none st K = getT cs[off]? st K) ∧ (∀ cs off m, readT cs off (some m) st K = vS (off + m ≤ cs.length) (.agg (((cs.drop off).take m).map A.strip)) st K) ∧ (∀ cs off n, cellsS (some (.cells cs)) off n st K = readS cs off n st K) ∧ (∀ cs off n, loadS (.el cs off) n st K = readT cs off n st K) ∧ (∀ id off n, loadS (.ptr id off) n st K = cellsS (st.s id) off n st K) ∧ (∀ cs id off x n, stoS (some (.cells cs)) id off x n st K = vS (x.solid = true ∧ x.pcells.length = n ∧ off + n ≤ cs.length) .undef ⟨st.t, upd st.s id (some (.cells (splice cs off x.pcells))), st.k⟩ K) ∧ (∀ id off x n, storeS (.ptr id off) x n st K = stoS (st.s id) id off x n st K) ∧ (∀ x, x.solid = true → boxS x st K = newS x.pcells st K) ∧ (∀ cs, idxT True (some cs) st K = K (.el cs 0) st) ∧ (∀ esz e xs t k n, idxS esz (.sl e xs t) (.int k n) st K = idxT (e = esz ∧ 0 ≤ n) xs[n.toNat]? st K) ∧ (∀ len esz id o k n, idxAS len esz (.ptr id o) (.int k n) st K = vS (0 ≤ n ∧ n < len) (.ptr id (o + n.toNat * esz)) st K) ∧ (∀ len esz cs o k n, idxAS len esz (.el cs o) (.int k n) st K = vS (0 ≤ n ∧ n < len) (.el cs (o + n.toNat * esz)) st K) ∧ (∀ off n cs, getfS off n (.agg cs) st K = readT cs off n st K) ∧ (∀ cs off n, rdS True cs off n st K = readT cs off n st K) ∧ (∀ len esz n cs k j, getiS len esz n (.agg cs) (.int k j) st K = rdS (0 ≤ j ∧ j < len) cs (j.toNat * esz) n st K) ∧ (∀ b neq, eqqT True (some b) neq st K = K (.bool (if neq then !b else b)) st) ∧ (∀ bs neq cs ds, eqsS bs neq (.agg cs) (.agg ds) st K = eqqT (fitBs bs cs = true) (eqCells cs ds) neq st K) ∧ (∀ cs i, extS (.tup cs) i st K = getT cs[i]? st K) ∧ (∀ z, fillS z [] st K = K (.agg z) st) ∧ (∀ z r, fillV True z r st K = fillS z r st K) ∧ (∀ z o n x r, fillS z ((o, n, x) :: r) st K = fillV ((ev st x).solid = true ∧ (ev st x).scells.length = n ∧ o + n ≤ z.length) (splice z o (ev st x).scells) r st K) ∧ (∀ esz z, litS esz z [] st K = K (.sl esz z .full) st) ∧ (∀ esz z r, litV True esz z r st K = litS esz z r st K) ∧ (∀ esz z i x r, litS esz z ((i, x) :: r) st K = litV ((ev st x).solid = true ∧ (ev st x).scells.length = esz ∧ i < z.length) esz (z.set i (ev st x).scells) r st K) := by
  refine ⟨?_, ?_, ?_, ?_, ?_, ?_, ?_, ?_, ?_, ?_, ?_, ?_, ?_, ?_, ?_, ?_, ?_, ?_, ?_, ?_, ?_, ?_, ?_, ?_, ?_, ?_, ?_, ?_, ?_, ?_⟩ <;> intros <;> first | rfl | (simp [vS, boxS, idxT, rdS, eqqT, fillV, litV, fillS, litS, fillP, litP, and_assoc, *]; done)
theorem pvE (st : St) : (∀ i, ev st (.t i) = st.t i) ∧ ∀ a, ev st (.c a) = a := ⟨fun _ => rfl, fun _ => rfl⟩
def resC (a : A) (n : Option Nat) (st : St) (r : List RV) (K : List A → Prop) : Prop := match a with
  | .ptr id off => match st.s id with
    | some (.cells cs) => readP cs off n fun x => resP st r fun xs => K (x.strip :: xs)
    | _ => False
  | _ => False
def resD (b : Option Blk) (off : Nat) (n : Option Nat) (st : St) (r : List RV) (K : List A → Prop) : Prop := match b with
  | some (.cells cs) => readP cs off n fun x => resP st r fun xs => K (x.strip :: xs)
  | _ => False
def resG (o : Option A) (st : St) (r : List RV) (K : List A → Prop) : Prop := match o with
  | some x => resP st r fun xs => K (x.strip :: xs)
  | none => False
def resW (p : Prop) (x : A) (st : St) (r : List RV) (K : List A → Prop) : Prop := p ∧ resP st r fun xs => K (x.strip :: xs)
theorem pvRC : (∀ st t n r K, resP st (.cell t n :: r) K = resC (st.t t) n st r K) ∧ (∀ id off n st r K, resC (.ptr id off) n st r K = resD (st.s id) off n st r K) ∧ (∀ cs off st r K, resD (some (.cells cs)) off none st r K = resG cs[off]? st r K) ∧
    (∀ cs off m st r K, resD (some (.cells cs)) off (some m) st r K = resW (off + m ≤ cs.length) (.agg (((cs.drop off).take m).map A.strip)) st r K) ∧ (∀ x st r K, resG (some x) st r K = resP st r fun xs => K (x.strip :: xs)) ∧ ∀ x st r K, resW True x st r K = resP st r fun xs => K (x.strip :: xs) := by
  refine ⟨?_, ?_, ?_, ?_, ?_, ?_⟩ <;> intros <;> first | rfl | (simp [resW]; done) | skip
  all_goals
    rename_i cs off st r K
    simp only [resD, readP, resG]
    generalize cs[off]? = o
    cases o <;> rfl
theorem pvR : (∀ st K, resP st [] K = K []) ∧ (∀ st i r K, resP st (.tmp i :: r) K = resP st r fun xs => K ((st.t i).strip :: xs)) ∧ (∀ x, oneOf [x] = x) ∧ (∀ x y r, oneOf (x :: y :: r) = .tup (x :: y :: r)) ∧ oneOf [] = .tup [] := by
  refine ⟨?_, ?_, ?_, ?_, ?_⟩ <;> intros <;> rfl
theorem fldA_eq : (∀ off cs o, fldA off (.el cs o) = some (.el cs (o + off))) ∧ ∀ off id o, fldA off (.ptr id o) = some (.ptr id (o + off)) := ⟨fun _ _ _ => rfl, fun _ _ _ => rfl⟩
theorem lenA_eq : (∀ e xs t, lenA false (.sl e xs t) = some (.int .i64 xs.length)) ∧ ∀ s, lenA true (.str s) = some (.int .i64 s.size) := ⟨fun _ _ _ => rfl, fun _ => rfl⟩
/-- Numbers that fit are as they are. -/
theorem wrap64 {n : Int} (h1 : -9223372036854775808 ≤ n) (h2 : n < 9223372036854775808) : IntKind.i64.wrap n = n := by
  simp only [IntKind.wrap, IntKind.signed, IntKind.bits]
  simp
  omega

theorem pvV : A.strip .undef = .undef ∧ (∀ k n, A.strip (.int k n) = .int k n) ∧ (∀ b, A.strip (.bool b) = .bool b) ∧ (∀ b, A.strip (.str b) = .str b) ∧ (∀ e xs, A.strip (.sl e xs .no) = .sl e xs .no) ∧ (∀ e xs, A.strip (.sl e xs .nil) = .sl e xs .nil) ∧
    (∀ e xs, A.strip (.sl e xs .full) = .sl e xs .full) ∧ (∀ e xs g t, A.strip (.sl e xs (.own g t)) = .sl e xs .no) ∧ (∀ cs, A.strip (.agg cs) = .agg cs) ∧ (∀ cs, A.strip (.tup cs) = .tup cs) ∧ (∀ a b, A.strip (.ptr a b) = .ptr a b) ∧ (∀ cs b, A.strip (.el cs b) = .el cs b) ∧
    A.strip .nilptr = .nilptr ∧ (∀ f cs, A.strip (.fn f cs) = .fn f cs) ∧ A.strip .nilfn = .nilfn ∧ (∀ i, A.strip (.map i) = .map i) ∧ A.strip .nilmap = .nilmap := by
  refine ⟨?_, ?_, ?_, ?_, ?_, ?_, ?_, ?_, ?_, ?_, ?_, ?_, ?_, ?_, ?_, ?_, ?_⟩ <;> intros <;> rfl
theorem pvB (k : IntKind) (a b : Int) : binA .add (.int k a) (.int k b) = some (.int k (k.wrap (a + b))) ∧ binA .sub (.int k a) (.int k b) = some (.int k (k.wrap (a - b))) ∧ binA .mul (.int k a) (.int k b) = some (.int k (k.wrap (a * b))) ∧ binA .quo (.int k a) (.int k b) = (if b = 0 then none else some (.int k (k.wrap (a.tdiv b)))) ∧ binA .rem (.int k a) (.int k b) = (if b = 0 then none else some (.int k (a.tmod b))) ∧ binA .eql (.int k a) (.int k b) = some (.bool (decide (a = b))) ∧ binA .neq (.int k a) (.int k b) = some (.bool (!decide (a = b))) ∧ binA .lss (.int k a) (.int k b) = some (.bool (decide (a < b))) ∧ binA .leq (.int k a) (.int k b) = some (.bool (decide (a ≤ b))) ∧ binA .gtr (.int k a) (.int k b) = some (.bool (decide (b < a))) ∧ binA .geq (.int k a) (.int k b) = some (.bool (decide (b ≤ a))) ∧ (∀ big, mmA big (.int k a) (.int k b) = some (.int k (if big then max a b else min a b))) := by
  refine ⟨?_, ?_, ?_, ?_, ?_, ?_, ?_, ?_, ?_, ?_, ?_, ?_⟩ <;> intros <;> simp [binA, convA, mmA, unA]
theorem pvB1 (x y : ByteArray) : binA .eql (.str x) (.str y) = some (.bool (decide (x = y))) ∧ binA .neq (.str x) (.str y) = some (.bool (!decide (x = y))) ∧ binA .lss (.str x) (.str y) = some (.bool (Op.bytesLess x.toList y.toList)) ∧ binA .add (.str x) (.str y) = (if x.size + y.size ≤ 9223372036854775807 then some (.str (x ++ y)) else none) := by
  refine ⟨?_, ?_, ?_, ?_⟩ <;> intros <;> simp [binA]
theorem pvB2 (k : IntKind) (a : Int) : (∀ k', convA k' (.int k a) = some (.int k' (k'.wrap a))) ∧ unA .neg (.int k a) = some (.int k (k.wrap (0 - a))) := by
  refine ⟨?_, ?_⟩ <;> intros <;> simp [convA, unA]
theorem pvL : (∀ p, unA .not (.bool p) = some (.bool !p)) ∧ (∀ neq p q, eqbA neq (.bool p) (.bool q) = some (.bool (if neq then !decide (p = q) else decide (p = q)))) := ⟨fun _ => rfl, fun _ _ _ => rfl⟩

theorem pvP : (∀ cs, A.solid (.agg cs) = true) ∧ (∀ cs, A.pcells (.agg cs) = cs.map A.strip) ∧ (∀ cs, A.scells (.agg cs) = cs.map A.strip) ∧ (∀ cs st K, boxS (.agg cs) st K = newS (cs.map A.strip) st K) ∧ (∀ k n, A.solid (.int k n) = true) ∧ (∀ k n, A.pcells (.int k n) = [.int k n]) ∧ (∀ k n, A.scells (.int k n) = [A.strip (.int k n)]) ∧ (∀ k n st K, boxS (.int k n) st K = newS [.int k n] st K) ∧ (∀ b, A.solid (.bool b) = true) ∧ (∀ b, A.pcells (.bool b) = [.bool b]) ∧ (∀ b, A.scells (.bool b) = [A.strip (.bool b)]) ∧ (∀ b st K, boxS (.bool b) st K = newS [.bool b] st K) ∧ (∀ b, A.solid (.str b) = true) ∧ (∀ b, A.pcells (.str b) = [.str b]) ∧ (∀ b, A.scells (.str b) = [A.strip (.str b)]) ∧ (∀ b st K, boxS (.str b) st K = newS [.str b] st K) ∧ (∀ e xs t, A.solid (.sl e xs t) = true) ∧ (∀ e xs t, A.pcells (.sl e xs t) = [.sl e xs t]) ∧ (∀ e xs t, A.scells (.sl e xs t) = [A.strip (.sl e xs t)]) ∧ (∀ e xs t st K, boxS (.sl e xs t) st K = newS [.sl e xs t] st K) ∧ (∀ a b, A.solid (.ptr a b) = true) ∧ (∀ a b, A.pcells (.ptr a b) = [.ptr a b]) ∧ (∀ a b, A.scells (.ptr a b) = [A.strip (.ptr a b)]) ∧ (∀ a b st K, boxS (.ptr a b) st K = newS [.ptr a b] st K) ∧ (∀ cs b, A.solid (.el cs b) = true) ∧ (∀ cs b, A.pcells (.el cs b) = [.el cs b]) ∧ (∀ cs b, A.scells (.el cs b) = [A.strip (.el cs b)]) ∧ (∀ cs b st K, boxS (.el cs b) st K = newS [.el cs b] st K) ∧ A.solid .nilptr = true ∧ A.pcells .nilptr = [.nilptr] ∧ A.scells .nilptr = [A.strip .nilptr] ∧ (∀ st K, boxS .nilptr st K = newS [.nilptr] st K) ∧ (∀ f cs, A.solid (.fn f cs) = true) ∧ (∀ f cs, A.pcells (.fn f cs) = [.fn f cs]) ∧ (∀ f cs, A.scells (.fn f cs) = [A.strip (.fn f cs)]) ∧ (∀ f cs st K, boxS (.fn f cs) st K = newS [.fn f cs] st K) ∧ A.solid .nilfn = true ∧ A.pcells .nilfn = [.nilfn] ∧ A.scells .nilfn = [A.strip .nilfn] ∧ (∀ st K, boxS .nilfn st K = newS [.nilfn] st K) ∧ (∀ i, A.solid (.map i) = true) ∧ (∀ i, A.pcells (.map i) = [.map i]) ∧ (∀ i, A.scells (.map i) = [A.strip (.map i)]) ∧ (∀ i st K, boxS (.map i) st K = newS [.map i] st K) ∧ A.solid .nilmap = true ∧ A.pcells .nilmap = [.nilmap] ∧ A.scells .nilmap = [A.strip .nilmap] ∧ (∀ st K, boxS .nilmap st K = newS [.nilmap] st K) := by
  refine ⟨?_, ?_, ?_, ?_, ?_, ?_, ?_, ?_, ?_, ?_, ?_, ?_, ?_, ?_, ?_, ?_, ?_, ?_, ?_, ?_, ?_, ?_, ?_, ?_, ?_, ?_, ?_, ?_, ?_, ?_, ?_, ?_, ?_, ?_, ?_, ?_, ?_, ?_, ?_, ?_, ?_, ?_, ?_, ?_, ?_, ?_, ?_, ?_⟩ <;> intros <;> first | rfl | simp [boxS, A.solid, A.pcells]
theorem newS_in {z : List A} {st : St} {K : A → St → Prop} (h : ∀ id, st.s id = none → K (.ptr id 0) ⟨st.t, upd st.s id (some (.cells z)), st.k⟩) : newS z st K := h
theorem brC_in {P : Program} {b : Bool} {x y : PC} {Q : PX → St → Prop} {st : St} (h1 : b = true → pwp P x Q st) (h2 : b = false → pwp P y Q st) : brC P b x y Q st := ⟨h1, h2⟩
theorem brG_in {P : Program} {b : Bool} {i : Ins} {d : Option Nat} {ps : List PI} {K : St → Prop} {st : St} (h1 : b = true → step P i st (nx P d ps K)) (h2 : b = false → nx P d ps K (.tup []) st) : brG P b i d ps K st := ⟨h1, h2⟩
theorem brN_in {P : Program} {b : Bool} {i : Ins} {d : Option Nat} {ps : List PI} {K : St → Prop} {st : St} (h1 : b = false → step P i st (nx P d ps K)) (h2 : b = true → nx P d ps K (.tup []) st) : brN P b i d ps K st := ⟨h1, h2⟩
theorem OutQ.eq {s s' : Nat → Option Blk} {k : Nat → Tk} {t : Nat → A} {r r1 : A} (h2 : SExt s s') (h1 : r1 = r) : OutQ s k r r1 ⟨t, s', k⟩ := ⟨h1 ▸ A.le_refl _, h2, KExt.refl _⟩
theorem OutQ.le {s s' : Nat → Option Blk} {k : Nat → Tk} {t : Nat → A} {r r1 : A} (h2 : SExt s s') (h1 : A.le r1 r) : OutQ s k r r1 ⟨t, s', k⟩ := ⟨h1, h2, KExt.refl _⟩

end Go.Pv
