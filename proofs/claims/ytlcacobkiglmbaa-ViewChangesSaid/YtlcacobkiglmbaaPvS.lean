/- Evaluation: a function's contract out of its compact code, read off the program. -/
import Derived.Test.YtlcacobkiglmbaaPvR
import Derived.KernelRfl
set_option linter.unusedVariables false
set_option linter.unusedSimpArgs false
namespace Go.Pv
open Go
variable {B : List Nat}

/-- A function's compact code, its results, how many temporaries it has. -/
def trAll (P : Program) (B : List Nat) (f : Nat) : Option (PC × List RV × Nat) := do
  let fn ← P.funcs[f]?
  let c ← fn.body
  let pc ← trCode P B fn.ntmps 400 c
  let rs ← trRes P fn.results
  if fn.name == "runtime.NumGoroutine" then none else some (pc, rs, fn.ntmps)
theorem bare_tr {P : Program} {n : Nat} : ∀ (fu : Nat) (c : Code) (pc : PC), trCode P B n fu c = some pc → pc.bare = pc := by
  intro fu
  induction fu with
  | zero => intro c pc h; simp [trCode] at h
  | succ fu ih =>
  intro c
  cases c with
  | skip => intro pc h; simp [trCode] at h; subst h; rfl
  | region id ops draw =>
    intro pc h
    simp only [trCode, Option.bind_eq_bind, Option.bind_eq_some_iff] at h
    obtain ⟨ps, _, h⟩ := h
    split at h
    · cases h; rfl
    · split at h
      · cases h; rfl
      · cases h
  | seq x y =>
    intro pc h
    simp only [trCode] at h
    split at h
    · simp only [Option.map_eq_some_iff] at h
      obtain ⟨a, ha, rfl⟩ := h
      simp only [PC.bare, ih _ a ha]
    · simp only [Option.bind_eq_bind, Option.bind_eq_some_iff, Option.some.injEq] at h
      obtain ⟨a, ha, b, hb, rfl⟩ := h
      simp only [PC.bare, ih _ a ha, ih _ b hb]
  | cond c x y =>
    intro pc h
    simp only [trCode, Option.bind_eq_bind, Option.bind_eq_some_iff, Option.some.injEq] at h
    obtain ⟨d, hd, a, ha, b, hb, rfl⟩ := h
    simp only [PC.bare, ih _ a ha, ih _ b hb]
  | block id x =>
    intro pc h
    simp only [trCode, Option.map_eq_some_iff] at h
    obtain ⟨a, ha, rfl⟩ := h
    simp only [PC.bare, ih _ a ha]
  | loop x =>
    intro pc h
    simp only [trCode, Option.map_eq_some_iff] at h
    obtain ⟨a, ha, rfl⟩ := h
    simp only [PC.bare, ih _ a ha]
  | exit id => intro pc h; simp [trCode] at h; subst h; rfl
  | ret => intro pc h; simp [trCode] at h; subst h; rfl
  | label l => intro pc h; simp [trCode] at h; subst h; rfl
  | scope x => intro pc h; exact ih x pc h
  | _ => intro pc h; simp [trCode] at h

/-- Arguments are no rows of the caller's. -/
def A.noOwn : A → Bool
  | .sl _ _ (.own _ _) => false
  | _ => true
theorem spec_tr {P : Program} (hm : P.follows .mixedOrders = true) {f : FuncId} {pc : PC} {rs : List RV} {n : Nat} (ht : trAll P B f = some (pc, rs, n)) {args : List A} (hn : args.length ≤ n) (hnt : args.all A.noOwn = true) {s : Nat → Option Blk} {k : Nat → Tk} {r : A}
    (h : pwp P pc (bodyQ rs (OutQ s k r)) ⟨initT args, s, k⟩) : Spec P f args s k r s k := by
  unfold trAll at ht
  simp only [Option.bind_eq_bind, Option.bind_eq_some_iff] at ht
  obtain ⟨fn, h1, c, h2, pc', h3, rs', h4, ht⟩ := ht
  split at ht
  · cases ht
  · rename_i hname
    cases ht
    refine spec_quiet hm h1 (by simpa using hname) h2 (by rw [bare_tr _ c pc h3]; exact h3) h4 hn ?_ h
    intro x hx esz xs g e he
    have := List.all_eq_true.1 hnt x hx
    rw [he] at this
    cases this
/-- A function's contract, whatever it does. -/
theorem specR_tr {P : Program} (hm : P.follows .mixedOrders = true) {f : FuncId} {pc : PC} {rs : List RV} {n : Nat} (ht : trAll P B f = some (pc, rs, n)) {args : List A} (hn : args.length ≤ n) (hnt : args.all A.noOwn = true) {s : Nat → Option Blk} {k : Nat → Tk} {R : A → Hp → (Nat → Tk) → Prop}
    (h : pwp P pc (bodyQ rs (OutR s k R)) ⟨initT args, s, k⟩) : SpecR P f args s k R := by
  unfold trAll at ht
  simp only [Option.bind_eq_bind, Option.bind_eq_some_iff] at ht
  obtain ⟨fn, h1, c, h2, pc', h3, rs', h4, ht⟩ := ht
  split at ht
  · cases ht
  · rename_i hname
    cases ht
    refine spec_any hm h1 (by simpa using hname) h2 (by rw [bare_tr _ c pc h3]; exact h3) h4 hn ?_ h
    intro x hx esz xs g e he
    have := List.all_eq_true.1 hnt x hx
    rw [he] at this
    cases this
theorem SpecR.args {P : Program} {f : FuncId} {xs ys : List A} {s : Nat → Option Blk} {k : Nat → Tk} {R : A → Hp → (Nat → Tk) → Prop} (h : SpecR P f ys s k R) (hl : A.lel xs ys) : SpecR P f xs s k R := by
  intro w E vs hS hsz hr
  obtain ⟨h1, h2⟩ := hl.get
  exact h w E vs hS (by omega) fun j y hy => by
    obtain ⟨x, e1, e2⟩ := h2 j y hy
    exact e2.rel _ _ _ (hr j x e1)
/-- Less may be known of the arguments. -/
theorem Spec.args {P : Program} {f : FuncId} {xs ys : List A} {s s' : Nat → Option Blk} {k k' : Nat → Tk} {r : A} (h : Spec P f ys s k r s' k') (hl : A.lel xs ys) : Spec P f xs s k r s' k' := by
  intro w E vs hS hsz hr
  obtain ⟨h1, h2⟩ := hl.get
  exact h w E vs hS (by omega) fun j y hy => by
    obtain ⟨x, e1, e2⟩ := h2 j y hy
    exact e2.rel _ _ _ (hr j x e1)

/-! ### Steps -/
theorem upd_apply {α : Type} (f : Nat → α) (i : Nat) (x : α) (j : Nat) : upd f i x j = if j = i then x else f j := rfl
theorem upd_none {α : Type} (f : Nat → Option α) (i : Nat) (x : α) (j : Nat) : upd f i (some x) j = none ↔ (¬ j = i ∧ ¬ i = j) ∧ f j = none := by
  unfold upd
  by_cases h : j = i
  · simp [h]
  · simp [h, Ne.symm h]

/-- What follows an operation. -/
def nx (P : Program) (d : Option Nat) (ps : List PI) (K : St → Prop) : A → St → Prop := fun v st => runs P ps K (st.put d v)
def condS (P : Program) (a : A) (x y : PC) (Q : PX → St → Prop) (st : St) : Prop := match a with
  | .bool b => (b = true → pwp P x Q st) ∧ (b = false → pwp P y Q st)
  | _ => False
def brC (P : Program) (b : Bool) (x y : PC) (Q : PX → St → Prop) (st : St) : Prop := (b = true → pwp P x Q st) ∧ (b = false → pwp P y Q st)
def gdS (P : Program) (a : A) (w : Bool) (i : Ins) (d : Option Nat) (ps : List PI) (K : St → Prop) (st : St) : Prop := match a with
  | .bool b => if b = w then step P i st (nx P d ps K) else nx P d ps K (.tup []) st
  | .tup _ => nx P d ps K (.tup []) st
  | _ => False
def brG (P : Program) (b : Bool) (i : Ins) (d : Option Nat) (ps : List PI) (K : St → Prop) (st : St) : Prop := (b = true → step P i st (nx P d ps K)) ∧ (b = false → nx P d ps K (.tup []) st)
def brN (P : Program) (b : Bool) (i : Ins) (d : Option Nat) (ps : List PI) (K : St → Prop) (st : St) : Prop := (b = false → step P i st (nx P d ps K)) ∧ (b = true → nx P d ps K (.tup []) st)
def getS (o : Option A) (st : St) (K : A → St → Prop) : Prop := match o with
  | some v => K v st
  | none => False
def getT (o : Option A) (st : St) (K : A → St → Prop) : Prop := match o with
  | some v => K v.strip st
  | none => False
def vS (p : Prop) (v : A) (st : St) (K : A → St → Prop) : Prop := p ∧ K v st
def pickS (c a b : A) (st : St) (K : A → St → Prop) : Prop := match c with
  | .bool t => K (if t then a else b) st
  | _ => False
def readS (cs : List A) (off : Nat) (n : Option Nat) (st : St) (K : A → St → Prop) : Prop := readP cs off n fun x => K x st
def readT (cs : List A) (off : Nat) (n : Option Nat) (st : St) (K : A → St → Prop) : Prop := readP cs off n fun x => K x.strip st
def cellsS (b : Option Blk) (off : Nat) (n : Option Nat) (st : St) (K : A → St → Prop) : Prop := match b with
  | some (.cells cs) => readS cs off n st K
  | _ => False
def loadS (a : A) (n : Option Nat) (st : St) (K : A → St → Prop) : Prop := match a with
  | .el cs off => readT cs off n st K
  | .ptr id off => cellsS (st.s id) off n st K
  | _ => False
def stoS (b : Option Blk) (id off : Nat) (x : A) (n : Nat) (st : St) (K : A → St → Prop) : Prop := match b with
  | some (.cells cs) => vS (x.solid = true ∧ x.pcells.length = n ∧ off + n ≤ cs.length) .undef ⟨st.t, upd st.s id (some (.cells (splice cs off x.pcells))), st.k⟩ K
  | _ => False
def storeS (a x : A) (n : Nat) (st : St) (K : A → St → Prop) : Prop := match a with
  | .ptr id off => stoS (st.s id) id off x n st K
  | _ => False
def newS (z : List A) (st : St) (K : A → St → Prop) : Prop := ∀ id, st.s id = none → K (.ptr id 0) ⟨st.t, upd st.s id (some (.cells z)), st.k⟩
def boxS (x : A) (st : St) (K : A → St → Prop) : Prop := x.solid = true ∧ newS x.pcells st K
def fldA (off : Nat) (a : A) : Option A := match a with
  | .el cs o => some (.el cs (o + off))
  | .ptr id o => some (.ptr id (o + off))
  | _ => none
def idxT (p : Prop) (o : Option (List A)) (st : St) (K : A → St → Prop) : Prop := match o with
  | some cs => p ∧ K (.el cs 0) st
  | none => False
def idxS (esz : Nat) (x i : A) (st : St) (K : A → St → Prop) : Prop := match x, i with
  | .sl e xs _, .int _ n => idxT (e = esz ∧ 0 ≤ n) xs[n.toNat]? st K
  | .sb id off e n _, .int _ j => vS (e = esz ∧ 0 ≤ j ∧ j < n) (.ptr id (off + j.toNat * esz)) st K
  | _, _ => False
def idxAS (len esz : Nat) (x i : A) (st : St) (K : A → St → Prop) : Prop := match x, i with
  | .ptr id o, .int _ n => vS (0 ≤ n ∧ n < len) (.ptr id (o + n.toNat * esz)) st K
  | .el cs o, .int _ n => vS (0 ≤ n ∧ n < len) (.el cs (o + n.toNat * esz)) st K
  | _, _ => False
def getfS (off : Nat) (n : Option Nat) (x : A) (st : St) (K : A → St → Prop) : Prop := match x with
  | .agg cs => readT cs off n st K
  | _ => False
def rdS (p : Prop) (cs : List A) (off : Nat) (n : Option Nat) (st : St) (K : A → St → Prop) : Prop := p ∧ readT cs off n st K
def getiS (len esz : Nat) (n : Option Nat) (x i : A) (st : St) (K : A → St → Prop) : Prop := match x, i with
  | .agg cs, .int _ j => rdS (0 ≤ j ∧ j < len) cs (j.toNat * esz) n st K
  | _, _ => False
def eqqT (p : Prop) (o : Option Bool) (neq : Bool) (st : St) (K : A → St → Prop) : Prop := match o with
  | some b => p ∧ K (.bool (if neq then !b else b)) st
  | none => False
def eqsS (bs : List Basic) (neq : Bool) (x y : A) (st : St) (K : A → St → Prop) : Prop := match x, y with
  | .agg cs, .agg ds => eqqT (fitBs bs cs = true) (eqCells cs ds) neq st K
  | _, _ => False
def eqbA (neq : Bool) (x y : A) : Option A := match x, y with
  | .bool a, .bool b => some (.bool (if neq then !decide (a = b) else decide (a = b)))
  | _, _ => none
def unA (op : UnOp) (x : A) : Option A := match op, x with
  | .not, .bool b => some (.bool !b)
  | .neg, .int k n => some (.int k (k.wrap (0 - n)))
  | _, _ => none
def convA (k : IntKind) (x : A) : Option A := match x with
  | .int _ n => some (.int k (k.wrap n))
  | _ => none
def lenA (q : Bool) (x : A) : Option A := match q, x with
  | false, .sl _ xs _ => some (.int .i64 xs.length)
  | false, .sb _ _ _ n _ => some (.int .i64 n)
  | true, .str s => some (.int .i64 s.size)
  | _, _ => none
def mmA (big : Bool) (x y : A) : Option A := match x, y with
  | .int k a, .int k' b => if k = k' then some (.int k (if big then max a b else min a b)) else none
  | _, _ => none
def extS (x : A) (i : Nat) (st : St) (K : A → St → Prop) : Prop := match x with
  | .tup cs => getT cs[i]? st K
  | _ => False
def callS (P : Program) (f : A) (args : List A) (st : St) (K : A → St → Prop) : Prop := match f with
  | .fn fid caps => ∃ R, SpecR P fid (args ++ caps) st.s st.k R ∧ ∀ r s' k', R r s' k' → K r.strip ⟨st.t, s', k'⟩
  | _ => False
def callQS (P : Program) (f : A) (args : List A) (st : St) (K : A → St → Prop) : Prop := match f with
  | .fn fid caps => ∃ r, Spec P fid (args ++ caps) st.s st.k r st.s st.k ∧ K r.strip st
  | _ => False
def appS (esz e bytes : Nat) (s x : A) (st : St) (K : A → St → Prop) : Prop := match s, x with
  | .sl e1 xs t, .sl e2 ys _ => (e1 = esz ∨ (xs = [] ∧ t = .nil)) ∧ (e2 = esz ∨ ys = []) ∧ tokLive st.k e t ∧ (xs.length + ys.length) * bytes ≤ 140737488355328 ∧ (ys = [] → K (.sl esz xs t) st) ∧
      (ys ≠ [] → ∀ g, st.k g = .unused → K (.sl esz (xs ++ ys) (.own g e)) ⟨st.t, st.s, upd (killT st.k t) g .live⟩)
  | _, _ => False
def fillS (z : List A) (ps : List (Nat × Nat × Opd)) (st : St) (K : A → St → Prop) : Prop := fillP st z ps fun cs => K (.agg cs) st
def fillV (p : Prop) (z : List A) (ps : List (Nat × Nat × Opd)) (st : St) (K : A → St → Prop) : Prop := p ∧ fillS z ps st K
def litS (esz : Nat) (z : List (List A)) (ps : List (Nat × Opd)) (st : St) (K : A → St → Prop) : Prop := litP st esz z ps fun xs => K (.sl esz xs .full) st
def litV (p : Prop) (esz : Nat) (z : List (List A)) (ps : List (Nat × Opd)) (st : St) (K : A → St → Prop) : Prop := p ∧ litS esz z ps st K
def slcS (esz : Nat) (x : A) (lo hi : Option Int) (mx : Option A) (st : St) (K : A → St → Prop) : Prop := match x with
  | .sl e xs tk => match lo, hi, mx with
    | some l, some h, none => vS ((e = esz ∨ xs = []) ∧ 0 ≤ l ∧ l ≤ h ∧ h ≤ xs.length) (.sl esz ((xs.drop l.toNat).take (h.toNat - l.toNat)) tk.cut) st K
    | some l, some h, some (.int _ c) => vS ((e = esz ∨ xs = []) ∧ 0 ≤ l ∧ l ≤ h ∧ h = c ∧ c ≤ xs.length) (.sl esz ((xs.drop l.toNat).take (h.toNat - l.toNat)) .full) st K
    | _, _, _ => False
  | .sb id off e n c => match lo, hi, mx with
    | some l, some h, none => vS (e = esz ∧ 0 ≤ l ∧ l ≤ h ∧ h ≤ c) (.sb id (off + l.toNat * esz) esz (h.toNat - l.toNat) (c - l.toNat)) st K
    | some l, some h, some (.int _ q) => vS (e = esz ∧ 0 ≤ l ∧ l ≤ h ∧ h ≤ q ∧ q ≤ c) (.sb id (off + l.toNat * esz) esz (h.toNat - l.toNat) (q.toNat - l.toNat)) st K
    | _, _, _ => False
  | _ => False
def lenI (x : A) : Int := match x with
  | .sl _ xs _ => xs.length
  | .sb _ _ _ n _ => n
  | _ => 0
def lookF (ok : Bool) (z : A) (o : Option A) (st : St) (K : A → St → Prop) : Prop := match o with
  | some v => K (if ok then .tup [v.strip, .bool true] else v.strip) st
  | none => K (if ok then .tup [z, .bool false] else z) st
def lookB (kb : Basic) (ok : Bool) (z : A) (b : Option Blk) (x : A) (st : St) (K : A → St → Prop) : Prop := match b with
  | some (.map es) => (keyB kb x = true ∧ ∀ p ∈ es, kindEq x p.1 = true) ∧ lookF ok z (findA x es) st K
  | _ => False
def lookS (kb : Basic) (ok : Bool) (z m x : A) (st : St) (K : A → St → Prop) : Prop := match m with
  | .map id => lookB kb ok z (st.s id) x st K
  | .nilmap => keyB kb x = true ∧ lookF ok z none st K
  | _ => False
def bt (s : ByteArray) (i : Nat) : UInt8 := s.data.toList.getD i 0
def getsS (x i : A) (st : St) (K : A → St → Prop) : Prop := match x, i with
  | .str s, .int _ n => vS (0 ≤ n ∧ n < s.size) (.int .u8 (bt s n.toNat).toNat) st K
  | _, _ => False
def cutS (x : A) (lo hi : Option Int) (st : St) (K : A → St → Prop) : Prop := match x, lo, hi with
  | .str s, some l, some h => vS (0 ≤ l ∧ l ≤ h ∧ h ≤ s.size) (.str (s.extract l.toNat h.toNat)) st K
  | _, _, _ => False
def sizI (x : A) : Int := match x with
  | .str s => s.size
  | _ => 0
def eqnA (neq : Bool) (x y : A) : Option A := match x, y with
  | .nilptr, .nilptr => some (.bool !neq)
  | .ptr _ _, .nilptr | .el _ _, .nilptr | .nilptr, .ptr _ _ | .nilptr, .el _ _ => some (.bool neq)
  | _, _ => none
def idcA (x : A) : Option A := match x with
  | .str s => some (.str s)
  | _ => none
def nilcA (x : A) : Option A := match x with
  | .ptr id off => some (.ptr id off)
  | .el cs off => some (.el cs off)
  | _ => none
def capA (x : A) : Option A := match x with
  | .sb _ _ _ _ c => some (.int .i64 c)
  | .sl _ xs .full => some (.int .i64 xs.length)
  | .sl _ xs .nil => some (.int .i64 xs.length)
  | _ => none
def msetB (kb : Basic) (b : Option Blk) (id : Nat) (x v : A) (st : St) (K : A → St → Prop) : Prop := match b with
  | some (.map es) => vS (keyB kb x = true ∧ (∀ p ∈ es, kindEq x p.1 = true) ∧ v.solid = true) .undef ⟨st.t, upd st.s id (some (.map (setA x v.strip es))), st.k⟩ K
  | _ => False
def msetS (kb : Basic) (m x v : A) (st : St) (K : A → St → Prop) : Prop := match m with
  | .map id => msetB kb (st.s id) id x v st K
  | _ => False
def mlenB (b : Option Blk) (st : St) (K : A → St → Prop) : Prop := match b with
  | some (.map es) => K (.int .i64 es.length) st
  | _ => False
def mlenS (m : A) (st : St) (K : A → St → Prop) : Prop := match m with
  | .map id => mlenB (st.s id) st K
  | .nilmap => K (.int .i64 0) st
  | _ => False
def mkmS (st : St) (K : A → St → Prop) : Prop := ∀ id, st.s id = none → K (.map id) ⟨st.t, upd st.s id (some (.map [])), st.k⟩
def appBS (esz e bytes : Nat) (s x : A) (st : St) (K : A → St → Prop) : Prop := match s, x with
  | .sl e1 xs t, .sl e2 ys _ => (e1 = esz ∨ (xs = [] ∧ t = .nil)) ∧ (e2 = esz ∨ ys = []) ∧ (t = .nil ∨ t = .full) ∧ (xs.length + ys.length) * bytes ≤ 140737488355328 ∧ (ys = [] → K (.sl esz xs t) st) ∧
      (ys ≠ [] → ∀ id c, st.s id = none → xs.length + ys.length ≤ c → c ≤ maxLen → K (.sb id 0 esz (xs.length + ys.length) c) ⟨st.t, upd st.s id (some (.cells (flatS (xs ++ ys) ++ List.replicate ((c - (xs.length + ys.length)) * esz) .undef))), st.k⟩)
  | .sb id off e1 n c, y => match st.s id with
    | some (.cells cs) => e1 = esz ∧ appC esz bytes id off n c cs y st K
    | _ => False
  | _, _ => False
def isnS (neg : Bool) (x : A) (st : St) (K : A → St → Prop) : Prop := match x with
  | .sl e xs t => (xs ≠ [] → 0 < e ∧ K (.bool neg) st) ∧ (xs = [] → t = .nil → K (.bool !neg) st) ∧ (xs = [] → t ≠ .nil → K (.bool true) st ∧ K (.bool false) st)
  | .sb _ _ _ n _ => 0 < n ∧ K (.bool neg) st
  | _ => False
def appZS (esz bytes : Nat) (z : List A) (s n : A) (st : St) (K : A → St → Prop) : Prop := match s, n with
  | .sl _ xs t, .int .i64 m => xs = [] ∧ t = .nil ∧ 0 < m ∧ appN esz bytes z 0 [] m st K
  | .sb id off e1 n c, .int .i64 m => match st.s id with
    | some (.cells cs) => e1 = esz ∧ off + n * esz ≤ cs.length ∧ n ≤ c ∧ (c : Int) < n + m ∧ appN esz bytes z n (((cs.drop off).take (n * esz)).map A.strip) m st K
    | _ => False
  | _, _ => False
def cpyS (esz : Nat) (d x : A) (st : St) (K : A → St → Prop) : Prop := match d with
  | .sb id off e1 n c => match st.s id with
    | some (.cells cs) => e1 = esz ∧ off + n * esz ≤ cs.length ∧ n ≤ c ∧ srcP st.s esz x fun m ds =>
        K (.int .i64 ((Nat.min m n : Nat) : Int)) ⟨st.t, upd st.s id (some (.cells (splice cs off (ds.take (Nat.min m n * esz))))), st.k⟩
    | _ => False
  | _ => False
def clrS (esz : Nat) (z : List A) (x : A) (st : St) (K : A → St → Prop) : Prop := match x with
  | .sb id off e1 n c => match st.s id with
    | some (.cells cs) => e1 = esz ∧ off + n * esz ≤ cs.length ∧ n ≤ c ∧ K (.tup []) ⟨st.t, upd st.s id (some (.cells (splice cs off (List.replicate n z).flatten))), st.k⟩
    | _ => False
  | _ => False
/-! Memory apart -/
def hNil : Hp := fun _ => none
def rfin (Q : PX → St → Prop) : St → Hp → Prop := fun st h => Q .normal (mst st h)
def kR (P : Program) (ps : List PI) (K : St → Hp → Prop) (h : Hp) : St → Prop := fun st => runsR P ps K st h
def kS (P : Program) (d : Option Nat) (ps : List PI) (K : St → Hp → Prop) : A → St → Hp → Prop := fun v st h => runsR P ps K (st.put d v) h
def tkS (P : Program) (bs : List Nat) (ins : List PI) (Q : PX → St → Prop) (s h : Hp) (st : St) : Prop := takeR bs st.t s h fun s h => runsR P ins (rfin Q) ⟨st.t, s, st.k⟩ h
def tkB (P : Program) (b : Option Blk) (id : Nat) (bs : List Nat) (ins : List PI) (Q : PX → St → Prop) (s h : Hp) (st : St) : Prop := match b with
  | some blk => tkS P bs ins Q (upd s id none) (upd h id (some blk)) st
  | none => False
def tkA (P : Program) (a : A) (bs : List Nat) (ins : List PI) (Q : PX → St → Prop) (s h : Hp) (st : St) : Prop := match a with
  | .ptr id _ => tkB P (s id) id bs ins Q s h st
  | _ => False
def newR (z : List A) (st : St) (h : Hp) (K : A → St → Hp → Prop) : Prop := ∀ id, st.s id = none → h id = none → K (.ptr id 0) st (upd h id (some (.cells z)))
def stoR (b : Option Blk) (id off : Nat) (x : A) (n : Nat) (st : St) (h : Hp) (K : A → St → Hp → Prop) : Prop := match b with
  | some (.cells cs) => (x.solid = true ∧ x.pcells.length = n ∧ off + n ≤ cs.length) ∧ K .undef st (upd h id (some (.cells (splice cs off x.pcells))))
  | _ => False
def stoR' (p : Prop) (id : Nat) (b : Blk) (st : St) (h : Hp) (K : A → St → Hp → Prop) : Prop := p ∧ K .undef st (upd h id (some b))
def storeR (a x : A) (n : Nat) (st : St) (h : Hp) (K : A → St → Hp → Prop) : Prop := match a with
  | .ptr id off => stoR (h id) id off x n st h K
  | _ => False
def appR (esz e bytes : Nat) (s x : A) (st : St) (h : Hp) (K : A → St → Hp → Prop) : Prop := match s, x with
  | .sl e1 xs t, .sl e2 ys _ => ((e1 = esz ∨ (xs = [] ∧ t = .nil)) ∧ (e2 = esz ∨ ys = []) ∧ (t = .nil ∨ t = .full) ∧ (xs.length + ys.length) * bytes ≤ 140737488355328 ∧ 0 < bytes ∧ ys ≠ []) ∧ ∀ (c : { c : Nat // xs.length + ys.length ≤ c ∧ c ≤ maxLen }) (id : Nat), st.s id = none → h id = none →
          K (.sb id 0 esz (xs.length + ys.length) c.1) st (upd h id (some (.cells (flatS (xs ++ ys) ++ List.replicate ((c.1 - (xs.length + ys.length)) * esz) .undef))))
  | _, _ => False
def seqQ (F : St → Prop) (Q : PX → St → Prop) : PX → St → Prop := fun e st => match e with
  | .normal => F st
  | e => Q e st
def blkQ (id : Nat) (Q : PX → St → Prop) : PX → St → Prop := fun e st => match e with
  | .exit j => if j = id then Q .normal st else Q (.exit j) st
  | e => Q e st
/-- At the end of a round. -/
def nextQ (I : Nat → St → Prop) (m : Nat) (Q : PX → St → Prop) : PX → St → Prop := fun e st' => match e with
  | .normal => ∃ st2 m', m' < m ∧ St.le st' st2 ∧ I m' st2
  | e => Q e st'
theorem nextQ_normal {I : Nat → St → Prop} {m : Nat} {Q : PX → St → Prop} {st st2 : St} (m' : Nat) (hm : m' < m) (hl : St.le st st2) (hi : I m' st2) : nextQ I m Q .normal st := ⟨st2, m', hm, hl, hi⟩
theorem loop_intro {P : Program} {x : PC} {Q : PX → St → Prop} {st : St} (I : Nat → St → Prop) (m : Nat) (h0 : I m st) (h : ∀ m st1, I m st1 → pwp P x (nextQ I m Q) st1) : pwp P (.loop x) Q st := by
  refine ⟨I, ⟨st, m, St.le_refl st, h0⟩, fun m st1 hi => ?_⟩
  have := h m st1 hi
  have e : nextQ I m Q = fun e st' => match e with
    | .normal => ∃ st2 m', m' < m ∧ St.le st' st2 ∧ I m' st2
    | e => Q e st' := by funext e st'; cases e <;> rfl
  rw [e] at this
  exact this
theorem St.le_s {t : Nat → A} {s s' : Nat → Option Blk} {k : Nat → Tk} (h : SExt s s') : St.le ⟨t, s', k⟩ ⟨t, s, k⟩ := ⟨fun _ => A.le_refl _, fun id => by
  by_cases e : s id = none
  · exact .inl e
  · exact .inr (h id e).symm, rfl⟩

/-! #### As equations -/
section
variable (P : Program) (st : St) (K : A → St → Prop)
theorem step_pick (c a b : Opd) : step P (.pick c a b) st K = pickS (ev st c) (ev st a) (ev st b) st K := rfl
theorem step_load (n : Option Nat) (a : Opd) : step P (.load n a) st K = loadS (ev st a) n st K := by
  simp only [step, loadS, cellsS, readS, readT]
  generalize ev st a = X
  cases X <;> rfl
theorem step_store (n : Nat) (a x : Opd) : step P (.store n a x) st K = storeS (ev st a) (ev st x) n st K := by
  simp only [step, storeS, stoS, vS, and_assoc]
  generalize ev st a = X
  cases X <;> rfl
theorem step_fld (off : Nat) (a : Opd) : step P (.fld off a) st K = getS (fldA off (ev st a)) st K := by
  simp only [step, fldA, getS]
  generalize ev st a = X
  cases X <;> rfl
theorem step_idx (esz : Nat) (x i : Opd) : step P (.idx esz x i) st K = idxS esz (ev st x) (ev st i) st K := by
  simp only [step, idxS, idxT]
  generalize ev st x = X
  generalize ev st i = Y
  cases X <;> cases Y <;> try rfl
  · rename_i xs _ _ n
    simp only
    generalize xs[n.toNat]? = o
    cases o <;> simp [and_assoc]
  · simp [vS, and_assoc]
theorem step_idxA (len esz : Nat) (x i : Opd) : step P (.idxA len esz x i) st K = idxAS len esz (ev st x) (ev st i) st K := by
  simp only [step, idxAS, vS]
  generalize ev st x = X
  generalize ev st i = Y
  cases X <;> cases Y <;> simp [and_assoc]
theorem step_getf (off : Nat) (n : Option Nat) (x : Opd) : step P (.getf off n x) st K = getfS off n (ev st x) st K := rfl
theorem step_geti (len esz : Nat) (n : Option Nat) (x i : Opd) : step P (.geti len esz n x i) st K = getiS len esz n (ev st x) (ev st i) st K := by
  simp only [step, getiS, rdS, readT]
  generalize ev st x = X
  generalize ev st i = Y
  cases X <;> cases Y <;> simp [and_assoc]
theorem step_bin (op : BinOp) (x y : Opd) : step P (.bin op x y) st K = getS (binA op (ev st x) (ev st y)) st K := by
  simp only [step, getS]
  generalize binA op (ev st x) (ev st y) = o
  cases o <;> rfl
theorem step_eqs (bs : List Basic) (neq : Bool) (x y : Opd) : step P (.eqs bs neq x y) st K = eqsS bs neq (ev st x) (ev st y) st K := by
  simp only [step, eqsS, eqqT]
  generalize ev st x = X
  generalize ev st y = Y
  cases X <;> cases Y <;> try rfl
  rename_i cs ds
  simp only
  generalize eqCells cs ds = o
  cases o <;> simp
theorem step_eqb (neq : Bool) (x y : Opd) : step P (.eqb neq x y) st K = getS (eqbA neq (ev st x) (ev st y)) st K := by
  simp only [step, eqbA, getS]
  generalize ev st x = X
  generalize ev st y = Y
  cases X <;> cases Y <;> rfl
theorem bt_eq (s : ByteArray) (i : Nat) (h : i < s.size) : bt s i = s[i] := by
  have h' : i < s.data.toList.length := by simpa using h
  unfold bt
  rw [List.getD_eq_getElem?_getD, List.getElem?_eq_getElem h']
  simp
  rfl
theorem step_gets (x i : Opd) : step P (.gets x i) st K = getsS (ev st x) (ev st i) st K := by
  simp only [step, getsS, vS]
  generalize ev st x = X
  generalize ev st i = Y
  cases X <;> cases Y <;> try rfl
  rename_i s k n
  refine propext ⟨fun ⟨h0, h1, h2⟩ => ⟨⟨h0, by omega⟩, by rw [bt_eq s _ h1]; exact h2⟩, fun ⟨⟨h0, h1⟩, h2⟩ => ⟨h0, by omega, by rw [bt_eq s _ (by omega)] at h2; exact h2⟩⟩
theorem step_cut (x : Opd) (lo hi : Option Opd) : step P (.cut x lo hi) st K = cutS (ev st x) (optI st lo 0) (optI st hi (sizI (ev st x))) st K := by
  simp only [step, cutS, vS]
  generalize ev st x = X
  cases X <;> try rfl
  rename_i s
  simp only [sizI]
  generalize optI st lo 0 = L
  generalize optI st hi s.size = H
  cases L <;> cases H <;> simp [and_assoc]
theorem step_eqn (neq : Bool) (x y : Opd) : step P (.eqn neq x y) st K = getS (eqnA neq (ev st x) (ev st y)) st K := by
  simp only [step, eqnA, getS]
  generalize ev st x = X
  generalize ev st y = Y
  cases X <;> cases Y <;> rfl
theorem step_idc (x : Opd) : step P (.idc x) st K = getS (idcA (ev st x)) st K := by
  simp only [step, idcA, getS]
  generalize ev st x = X
  cases X <;> rfl
theorem step_nilc (x : Opd) : step P (.nilc x) st K = getS (nilcA (ev st x)) st K := by
  simp only [step, nilcA, getS]
  generalize ev st x = X
  cases X <;> rfl
theorem step_capn (x : Opd) : step P (.capn x) st K = getS (capA (ev st x)) st K := by
  simp only [step, capA, getS]
  generalize ev st x = X
  cases X <;> try rfl
  rename_i e xs t
  cases t <;> rfl
theorem step_mset (kb : Basic) (m x v : Opd) : step P (.mset kb m x v) st K = msetS kb (ev st m) (ev st x) (ev st v) st K := by
  simp only [step, msetS, msetB, vS]
  generalize ev st m = M
  cases M <;> try rfl
  rename_i id
  simp only
  generalize st.s id = b
  rcases b with _ | (_ | es) <;> try rfl
  simp only [and_assoc]
theorem step_mlen (m : Opd) : step P (.mlen m) st K = mlenS (ev st m) st K := by
  simp only [step, mlenS, mlenB]
  generalize ev st m = M
  cases M <;> rfl
theorem step_mkmap : step P .mkmap st K = mkmS st K := rfl
theorem step_appB (esz e bytes : Nat) (s x : Opd) : step P (.appB esz e bytes s x) st K = appBS esz e bytes (ev st s) (ev st x) st K := by
  simp only [step, appBS]
  generalize ev st s = X
  generalize ev st x = Y
  cases X <;> cases Y <;> rfl
theorem step_isn (neg : Bool) (x : Opd) : step P (.isn neg x) st K = isnS neg (ev st x) st K := rfl
theorem step_appZ (esz e bytes : Nat) (z : List A) (s n : Opd) : step P (.appZ esz e bytes z s n) st K = appZS esz bytes z (ev st s) (ev st n) st K := rfl
theorem step_cpy (esz : Nat) (d x : Opd) : step P (.cpy esz d x) st K = cpyS esz (ev st d) (ev st x) st K := rfl
theorem step_clr (esz : Nat) (z : List A) (x : Opd) : step P (.clr esz z x) st K = clrS esz z (ev st x) st K := rfl
theorem step_un (op : UnOp) (x : Opd) : step P (.un op x) st K = getS (unA op (ev st x)) st K := by
  simp only [step, unA, getS]
  generalize ev st x = X
  cases op <;> cases X <;> rfl
theorem step_conv (k : IntKind) (x : Opd) : step P (.conv k x) st K = getS (convA k (ev st x)) st K := by
  simp only [step, convA, getS]
  generalize ev st x = X
  cases X <;> rfl
theorem step_len (q : Bool) (x : Opd) : step P (.len q x) st K = getS (lenA q (ev st x)) st K := by
  simp only [step, lenA, getS]
  generalize ev st x = X
  cases q <;> cases X <;> rfl
theorem step_mm (big : Bool) (x y : Opd) : step P (.mm big x y) st K = getS (mmA big (ev st x) (ev st y)) st K := by
  simp only [step, mmA, getS]
  generalize ev st x = X
  generalize ev st y = Y
  cases X <;> cases Y <;> try rfl
  rename_i k a k' b
  by_cases h : k = k' <;> simp [h]
theorem step_ext (x : Opd) (i : Nat) : step P (.ext x i) st K = extS (ev st x) i st K := by
  simp only [step, extS, getT]
  generalize ev st x = X
  cases X <;> rfl
theorem step_call (f : Opd) (args : List Opd) : step P (.call false f args) st K = callS P (ev st f) (args.map fun x => (ev st x).strip) st K := by
  simp only [step, callS]
  generalize ev st f = a
  cases a <;> simp
theorem step_callq (f : Opd) (args : List Opd) : step P (.call true f args) st K = callQS P (ev st f) (args.map fun x => (ev st x).strip) st K := by
  simp only [step, callQS]
  generalize ev st f = a
  cases a <;> simp
theorem step_slc (esz : Nat) (x : Opd) (lo hi mx : Option Opd) : step P (.slc esz x lo hi mx) st K = slcS esz (ev st x) (optI st lo 0) (optI st hi (lenI (ev st x))) (mx.map (ev st)) st K := by
  simp only [step, slcS, vS]
  generalize ev st x = X
  cases X <;> try rfl
  · rename_i e xs t
    simp only [lenI]
    generalize optI st lo 0 = L
    generalize optI st hi xs.length = H
    cases L <;> cases H <;> cases mx <;> simp [and_assoc]
    rename_i m
    generalize ev st m = M
    cases M <;> simp
  · rename_i id off e n c
    simp only [lenI]
    generalize optI st lo 0 = L
    generalize optI st hi n = H
    cases L <;> cases H <;> cases mx <;> simp [and_assoc]
    rename_i m
    generalize ev st m = M
    cases M <;> simp
theorem step_look (kb : Basic) (ok : Bool) (z : A) (m x : Opd) : step P (.look kb ok z m x) st K = lookS kb ok z (ev st m) (ev st x) st K := by
  simp only [step, lookS, lookB, lookF]
  generalize ev st m = M
  cases M <;> try rfl
  rename_i id
  simp only
  generalize st.s id = b
  rcases b with _ | (_ | es) <;> try rfl
  simp only [and_assoc]
  generalize findA (ev st x) es = o
  cases o <;> rfl
end
theorem callS_quiet {P : Program} {fid : FuncId} {caps args : List A} {st : St} {K : A → St → Prop} {r : A} (h : Spec P fid (args ++ caps) st.s st.k r st.s st.k) (hk : K r.strip st) : callS P (.fn fid caps) args st K := ⟨_, h.toR, fun _ _ _ ⟨e1, e2, e3⟩ => by rw [e1, e2, e3]; exact hk⟩
theorem callS_R {P : Program} {fid : FuncId} {caps args : List A} {st : St} {K : A → St → Prop} {R : A → Hp → (Nat → Tk) → Prop} (h : SpecR P fid (args ++ caps) st.s st.k R) (hk : ∀ r s' k', R r s' k' → K r.strip ⟨st.t, s', k'⟩) : callS P (.fn fid caps) args st K := ⟨R, h, hk⟩
theorem callQS_quiet {P : Program} {fid : FuncId} {caps args : List A} {st : St} {K : A → St → Prop} {r : A} (h : Spec P fid (args ++ caps) st.s st.k r st.s st.k) (hk : K r.strip st) : callQS P (.fn fid caps) args st K := ⟨r, h, hk⟩
theorem pwp_seq (P : Program) (x y : PC) (Q : PX → St → Prop) (st : St) : pwp P (.seq x y) Q st = pwp P x (seqQ (pwp P y Q) Q) st := by
  simp only [pwp]
  congr 1
theorem pwp_block (P : Program) (id : Nat) (x : PC) (Q : PX → St → Prop) (st : St) : pwp P (.block id x) Q st = pwp P x (blkQ id Q) st := by
  simp only [pwp]
  congr 1
theorem pwp_cond (P : Program) (c : Opd) (x y : PC) (Q : PX → St → Prop) (st : St) : pwp P (.cond c x y) Q st = condS P (ev st c) x y Q st := by
  simp only [pwp, condS]
  generalize ev st c = a
  cases a with
  | bool b => cases b <;> simp
  | _ => rfl
theorem runs_some (P : Program) (d : Option Nat) (j : Nat) (w : Bool) (i : Ins) (ps : List PI) (K : St → Prop) (st : St) : runs P (⟨d, some (j, w), i⟩ :: ps) K st = gdS P (st.t j) w i d ps K st := by
  simp only [runs, run1, gdS]
  generalize st.t j = a
  cases a <;> rfl
theorem gdS_false (P : Program) (b : Bool) (i : Ins) (d : Option Nat) (ps : List PI) (K : St → Prop) (st : St) : gdS P (.bool b) false i d ps K st = brN P b i d ps K st := by
  cases b <;> simp [gdS, brN]
theorem gdS_true (P : Program) (b : Bool) (i : Ins) (d : Option Nat) (ps : List PI) (K : St → Prop) (st : St) : gdS P (.bool b) true i d ps K st = brG P b i d ps K st := by
  cases b <;> simp [gdS, brG]
/-- The equations of code and of regions. -/
theorem pvC (P : Program) : (∀ Q st, pwp P .skip Q st = Q .normal st) ∧ (∀ Q st, pwp P .ret Q st = Q .ret st) ∧ (∀ id Q st, pwp P (.exit id) Q st = Q (.exit id) st) ∧ (∀ l d Q st, pwp P (.reg l d none) Q st = runs P l (Q .normal) st) ∧ (∀ b x y Q st, condS P (.bool b) x y Q st = brC P b x y Q st) ∧ (∀ x y Q st, brC P true x y Q st = pwp P x Q st) ∧ (∀ x y Q st, brC P false x y Q st = pwp P y Q st) ∧ (∀ K st, runs P [] K st = K st) ∧ (∀ d i ps K st, runs P (⟨d, none, i⟩ :: ps) K st = step P i st (nx P d ps K)) ∧ (∀ w i d ps K st l, gdS P (.tup l) w i d ps K st = nx P d ps K (.tup []) st) ∧ (∀ i d ps K st, brG P true i d ps K st = step P i st (nx P d ps K)) ∧ (∀ i d ps K st, brG P false i d ps K st = nx P d ps K (.tup []) st) ∧ (∀ i d ps K st, brN P false i d ps K st = step P i st (nx P d ps K)) ∧ (∀ i d ps K st, brN P true i d ps K st = nx P d ps K (.tup []) st) ∧ (∀ d ps K v t s k, nx P (some d) ps K v ⟨t, s, k⟩ = runs P ps K ⟨upd t d v, s, k⟩) ∧ (∀ ps K v t s k, nx P none ps K v ⟨t, s, k⟩ = runs P ps K ⟨t, s, k⟩) := by
  refine ⟨?_, ?_, ?_, ?_, ?_, ?_, ?_, ?_, ?_, ?_, ?_, ?_, ?_, ?_, ?_, ?_⟩ <;> intros <;> first | rfl | simp [brC, brG, brN]
theorem pvQ : (∀ F Q st, seqQ F Q .normal st = F st) ∧ (∀ F Q id st, seqQ F Q (.exit id) st = Q (.exit id) st) ∧ (∀ F Q st, seqQ F Q .ret st = Q .ret st) ∧ (∀ id Q st, blkQ id Q .normal st = Q .normal st) ∧ (∀ id Q j st, blkQ id Q (.exit j) st = if j = id then Q .normal st else Q (.exit j) st) ∧ (∀ id Q st, blkQ id Q .ret st = Q .ret st) ∧ (∀ I m Q id st, nextQ I m Q (.exit id) st = Q (.exit id) st) ∧ (∀ I m Q st, nextQ I m Q .ret st = Q .ret st) ∧ (∀ rs R st, bodyQ rs R .normal st = resP st rs fun xs => R (oneOf xs) st) ∧ (∀ rs R st, bodyQ rs R .ret st = resP st rs fun xs => R (oneOf xs) st) := by
  refine ⟨?_, ?_, ?_, ?_, ?_, ?_, ?_, ?_, ?_, ?_⟩ <;> intros <;> rfl
/-- The equations of operations. -/
theorem pvO (P : Program) (st : St) (K : A → St → Prop) : (∀ x, step P (.mv x) st K = K (ev st x) st) ∧ (∀ z ps, step P (.build z ps) st K = fillS z ps st K) ∧ (∀ esz e z n ps, step P (.lit esz e z n ps) st K = litS esz (List.replicate n z) ps st K) ∧ (∀ z, step P (.new z) st K = newS z st K) ∧ (∀ x, step P (.box x) st K = boxS (ev st x) st K) ∧ (∀ f caps, step P (.mkfn f caps) st K = K (.fn f (caps.map fun x => (ev st x).strip)) st) ∧ (∀ n, step P (.clen n) st K = K (.int .i64 n) st) ∧ (∀ esz e bytes s x, step P (.app esz e bytes s x) st K = appS esz e bytes (ev st s) (ev st x) st K) := by
  refine ⟨?_, ?_, ?_, ?_, ?_, ?_, ?_, ?_⟩ <;> intros <;> rfl
theorem pvK (st : St) (K : A → St → Prop) : (∀ v, getS (some v) st K = K v st) ∧ (∀ v, getT (some v) st K = K v.strip st) ∧ (∀ v, vS True v st K = K v st) ∧ (∀ t a b, pickS (.bool t) a b st K = K (if t then a else b) st) ∧ (∀ cs off, readS cs off none st K = getS cs[off]? st K) ∧ (∀ cs off m, readS cs off (some m) st K = vS (off + m ≤ cs.length) (.agg (((cs.drop off).take m).map A.strip)) st K) ∧ (∀ cs off, readT cs off none st K = getT cs[off]? st K) ∧ (∀ cs off m, readT cs off (some m) st K = vS (off + m ≤ cs.length) (.agg (((cs.drop off).take m).map A.strip)) st K) ∧ (∀ cs off n, cellsS (some (.cells cs)) off n st K = readS cs off n st K) ∧ (∀ cs off n, loadS (.el cs off) n st K = readT cs off n st K) ∧ (∀ id off n, loadS (.ptr id off) n st K = cellsS (st.s id) off n st K) ∧ (∀ cs id off x n, stoS (some (.cells cs)) id off x n st K = vS (x.solid = true ∧ x.pcells.length = n ∧ off + n ≤ cs.length) .undef ⟨st.t, upd st.s id (some (.cells (splice cs off x.pcells))), st.k⟩ K) ∧ (∀ id off x n, storeS (.ptr id off) x n st K = stoS (st.s id) id off x n st K) ∧ (∀ x, x.solid = true → boxS x st K = newS x.pcells st K) ∧ (∀ cs, idxT True (some cs) st K = K (.el cs 0) st) ∧ (∀ esz e xs t k n, idxS esz (.sl e xs t) (.int k n) st K = idxT (e = esz ∧ 0 ≤ n) xs[n.toNat]? st K) ∧ (∀ esz id off e n c k j, idxS esz (.sb id off e n c) (.int k j) st K = vS (e = esz ∧ 0 ≤ j ∧ j < n) (.ptr id (off + j.toNat * esz)) st K) ∧ (∀ len esz id o k n, idxAS len esz (.ptr id o) (.int k n) st K = vS (0 ≤ n ∧ n < len) (.ptr id (o + n.toNat * esz)) st K) ∧ (∀ len esz cs o k n, idxAS len esz (.el cs o) (.int k n) st K = vS (0 ≤ n ∧ n < len) (.el cs (o + n.toNat * esz)) st K) ∧ (∀ off n cs, getfS off n (.agg cs) st K = readT cs off n st K) ∧ (∀ cs off n, rdS True cs off n st K = readT cs off n st K) ∧ (∀ len esz n cs k j, getiS len esz n (.agg cs) (.int k j) st K = rdS (0 ≤ j ∧ j < len) cs (j.toNat * esz) n st K) ∧ (∀ b neq, eqqT True (some b) neq st K = K (.bool (if neq then !b else b)) st) ∧ (∀ bs neq cs ds, eqsS bs neq (.agg cs) (.agg ds) st K = eqqT (fitBs bs cs = true) (eqCells cs ds) neq st K) ∧ (∀ cs i, extS (.tup cs) i st K = getT cs[i]? st K) ∧ (∀ z, fillS z [] st K = K (.agg z) st) ∧ (∀ z r, fillV True z r st K = fillS z r st K) ∧ (∀ z o n x r, fillS z ((o, n, x) :: r) st K = fillV ((ev st x).solid = true ∧ (ev st x).scells.length = n ∧ o + n ≤ z.length) (splice z o (ev st x).scells) r st K) ∧ (∀ esz z, litS esz z [] st K = K (.sl esz z .full) st) ∧ (∀ esz z r, litV True esz z r st K = litS esz z r st K) ∧ (∀ esz z i x r, litS esz z ((i, x) :: r) st K = litV ((ev st x).solid = true ∧ (ev st x).scells.length = esz ∧ i < z.length) esz (z.set i (ev st x).scells) r st K) := by
  refine ⟨?_, ?_, ?_, ?_, ?_, ?_, ?_, ?_, ?_, ?_, ?_, ?_, ?_, ?_, ?_, ?_, ?_, ?_, ?_, ?_, ?_, ?_, ?_, ?_, ?_, ?_, ?_, ?_, ?_, ?_⟩ <;> intros <;> first | rfl | (simp [vS, boxS, idxT, rdS, eqqT, fillV, litV, fillS, litS, fillP, litP, and_assoc, *]; done)
theorem pvE (st : St) : (∀ i, ev st (.t i) = st.t i) ∧ ∀ a, ev st (.c a) = a := ⟨fun _ => rfl, fun _ => rfl⟩
def resC (a : A) (n : Option Nat) (st : St) (r : List RV) (K : List A → Prop) : Prop := match a with
  | .ptr id off => match st.s id with
    | some (.cells cs) => readP cs off n fun x => resP st r fun xs => K (x.strip :: xs)
    | _ => False
  | _ => False
def resD (b : Option Blk) (off : Nat) (n : Option Nat) (st : St) (r : List RV) (K : List A → Prop) : Prop := match b with
  | some (.cells cs) => readP cs off n fun x => resP st r fun xs => K (x.strip :: xs)
  | _ => False
def resG (o : Option A) (st : St) (r : List RV) (K : List A → Prop) : Prop := match o with
  | some x => resP st r fun xs => K (x.strip :: xs)
  | none => False
def resW (p : Prop) (x : A) (st : St) (r : List RV) (K : List A → Prop) : Prop := p ∧ resP st r fun xs => K (x.strip :: xs)
theorem pvRC : (∀ st t n r K, resP st (.cell t n :: r) K = resC (st.t t) n st r K) ∧ (∀ id off n st r K, resC (.ptr id off) n st r K = resD (st.s id) off n st r K) ∧ (∀ cs off st r K, resD (some (.cells cs)) off none st r K = resG cs[off]? st r K) ∧
    (∀ cs off m st r K, resD (some (.cells cs)) off (some m) st r K = resW (off + m ≤ cs.length) (.agg (((cs.drop off).take m).map A.strip)) st r K) ∧ (∀ x st r K, resG (some x) st r K = resP st r fun xs => K (x.strip :: xs)) ∧ ∀ x st r K, resW True x st r K = resP st r fun xs => K (x.strip :: xs) := by
  refine ⟨?_, ?_, ?_, ?_, ?_, ?_⟩ <;> intros <;> first | rfl | (simp [resW]; done) | skip
  all_goals
    rename_i cs off st r K
    simp only [resD, readP, resG]
    generalize cs[off]? = o
    cases o <;> rfl
theorem pvR : (∀ st K, resP st [] K = K []) ∧ (∀ st i r K, resP st (.tmp i :: r) K = resP st r fun xs => K ((st.t i).strip :: xs)) ∧ (∀ x, oneOf [x] = x) ∧ (∀ x y r, oneOf (x :: y :: r) = .tup (x :: y :: r)) ∧ oneOf [] = .tup [] := by
  refine ⟨?_, ?_, ?_, ?_, ?_⟩ <;> intros <;> rfl
theorem pvX (st : St) (K : A → St → Prop) : (∀ s k n, getsS (.str s) (.int k n) st K = vS (0 ≤ n ∧ n < s.size) (.int .u8 (bt s n.toNat).toNat) st K) ∧ (∀ s l h, cutS (.str s) (some l) (some h) st K = vS (0 ≤ l ∧ l ≤ h ∧ h ≤ s.size) (.str (s.extract l.toNat h.toNat)) st K) ∧
    (∀ kb id x v, msetS kb (.map id) x v st K = msetB kb (st.s id) id x v st K) ∧ (∀ id, mlenS (.map id) st K = mlenB (st.s id) st K) ∧ mlenS .nilmap st K = K (.int .i64 0) st ∧ (∀ es, mlenB (some (.map es)) st K = K (.int .i64 es.length) st) ∧
    (∀ kb ok z id x, lookS kb ok z (.map id) x st K = lookB kb ok z (st.s id) x st K) ∧ (∀ ok z v, lookF ok z (some v) st K = K (if ok then .tup [v.strip, .bool true] else v.strip) st) ∧ (∀ ok z, lookF ok z none st K = K (if ok then .tup [z, .bool false] else z) st) ∧
    (∀ esz e xs t l h, slcS esz (.sl e xs t) (some l) (some h) none st K = vS ((e = esz ∨ xs = []) ∧ 0 ≤ l ∧ l ≤ h ∧ h ≤ xs.length) (.sl esz ((xs.drop l.toNat).take (h.toNat - l.toNat)) t.cut) st K) ∧
    (∀ esz e xs t l h k c, slcS esz (.sl e xs t) (some l) (some h) (some (.int k c)) st K = vS ((e = esz ∨ xs = []) ∧ 0 ≤ l ∧ l ≤ h ∧ h = c ∧ c ≤ xs.length) (.sl esz ((xs.drop l.toNat).take (h.toNat - l.toNat)) .full) st K) ∧
    (∀ esz id off e n c l h, slcS esz (.sb id off e n c) (some l) (some h) none st K = vS (e = esz ∧ 0 ≤ l ∧ l ≤ h ∧ h ≤ c) (.sb id (off + l.toNat * esz) esz (h.toNat - l.toNat) (c - l.toNat)) st K) ∧
    (∀ esz id off e n c l h k q, slcS esz (.sb id off e n c) (some l) (some h) (some (.int k q)) st K = vS (e = esz ∧ 0 ≤ l ∧ l ≤ h ∧ h ≤ q ∧ q ≤ c) (.sb id (off + l.toNat * esz) esz (h.toNat - l.toNat) (q.toNat - l.toNat)) st K) := by
  refine ⟨?_, ?_, ?_, ?_, ?_, ?_, ?_, ?_, ?_, ?_, ?_, ?_, ?_⟩ <;> intros <;> rfl
theorem pvY : Tok.cut .no = .no ∧ Tok.cut .nil = .nil ∧ Tok.cut .full = .no ∧ (∀ g e, Tok.cut (.own g e) = .no) ∧ (∀ e xs, capA (.sl e xs .nil) = some (.int .i64 xs.length)) ∧ (∀ neq, eqnA neq .nilptr .nilptr = some (.bool !neq)) ∧ (∀ neq a b, eqnA neq (.ptr a b) .nilptr = some (.bool neq)) ∧ (∀ neq a b, eqnA neq (.el a b) .nilptr = some (.bool neq)) ∧ (∀ neq a b, eqnA neq .nilptr (.ptr a b) = some (.bool neq)) ∧ (∀ neq a b, eqnA neq .nilptr (.el a b) = some (.bool neq)) ∧
    (∀ s, idcA (.str s) = some (.str s)) ∧ (∀ a b, nilcA (.ptr a b) = some (.ptr a b)) ∧ (∀ a b, nilcA (.el a b) = some (.el a b)) ∧ (∀ a b e n c, capA (.sb a b e n c) = some (.int .i64 c)) ∧ (∀ e xs, capA (.sl e xs .full) = some (.int .i64 xs.length)) ∧ (∀ s, sizI (.str s) = s.size) ∧ (∀ a b e n c, lenI (.sb a b e n c) = n) ∧ (∀ e xs t, lenI (.sl e xs t) = xs.length) ∧
    (∀ a b e n c, lenA false (.sb a b e n c) = some (.int .i64 n)) ∧ (∀ a b e n c, A.strip (.sb a b e n c) = .sb a b e n c) ∧ (∀ a b e n c, A.solid (.sb a b e n c) = true) ∧ (∀ a b e n c, A.pcells (.sb a b e n c) = [.sb a b e n c]) ∧ (∀ a b e n c, A.scells (.sb a b e n c) = [.sb a b e n c]) ∧ (∀ a b e n c st K, boxS (.sb a b e n c) st K = newS [.sb a b e n c] st K) := by
  refine ⟨?_, ?_, ?_, ?_, ?_, ?_, ?_, ?_, ?_, ?_, ?_, ?_, ?_, ?_, ?_, ?_, ?_, ?_, ?_, ?_, ?_, ?_, ?_, ?_⟩ <;> intros <;> first | rfl | simp [boxS, A.solid, A.pcells]
/-! ### Maps with strings as keys -/
def encM {α : Type} (f : α → A) (l : List (ByteArray × α)) : List (A × A) := l.map fun p => (.str p.1, f p.2)
def lookM {α : Type} (s : ByteArray) : List (ByteArray × α) → Option α
  | [] => none
  | p :: l => if s = p.1 then some p.2 else lookM s l
def setM {α : Type} (s : ByteArray) (v : α) : List (ByteArray × α) → List (ByteArray × α)
  | [] => [(s, v)]
  | p :: l => if s = p.1 then (s, v) :: l else p :: setM s v l
theorem encM_nil {α : Type} (f : α → A) : ([] : List (A × A)) = encM f [] := rfl
theorem encM_len {α : Type} (f : α → A) (l : List (ByteArray × α)) : (encM f l).length = l.length := by simp [encM]
theorem encM_kind {α : Type} (f : α → A) (l : List (ByteArray × α)) (s : ByteArray) : ∀ p ∈ encM f l, kindEq (.str s) p.1 = true := by
  intro p hp
  obtain ⟨q, _, rfl⟩ := List.mem_map.1 hp
  rfl
theorem encM_find {α : Type} (f : α → A) (s : ByteArray) : ∀ l : List (ByteArray × α), findA (.str s) (encM f l) = (lookM s l).map f
  | [] => rfl
  | p :: l => by
    simp only [encM, List.map_cons, findA, keyEq, lookM]
    by_cases h : s = p.1
    · simp [h]
    · simp only [h, decide_false, Bool.false_eq_true, if_false]
      exact encM_find f s l
theorem encM_set {α : Type} (f : α → A) (s : ByteArray) (v : α) : ∀ l : List (ByteArray × α), setA (.str s) (f v) (encM f l) = encM f (setM s v l)
  | [] => rfl
  | p :: l => by
    simp only [encM, List.map_cons, setA, keyEq, setM]
    by_cases h : s = p.1
    · simp [h]
    · simp only [h, decide_false, Bool.false_eq_true, if_false, List.map_cons]
      have := encM_set f s v l
      simp only [encM] at this
      rw [this]
theorem look_M {α : Type} (f : α → A) (l : List (ByteArray × α)) (s : ByteArray) (ok : Bool) (z : A) (st : St) (K : A → St → Prop) : lookB .str ok z (some (.map (encM f l))) (.str s) st K = lookF ok z ((lookM s l).map f) st K := by
  simp only [lookB, encM_find]
  exact propext ⟨fun h => h.2, fun h => ⟨⟨rfl, encM_kind f l s⟩, h⟩⟩
theorem mset_M {α : Type} (f : α → A) (l : List (ByteArray × α)) (s : ByteArray) (v : α) (id : Nat) (hv : (f v).solid = true) (hs : (f v).strip = f v) (st : St) (K : A → St → Prop) :
    msetB .str (some (.map (encM f l))) id (.str s) (f v) st K = K .undef ⟨st.t, upd st.s id (some (.map (encM f (setM s v l)))), st.k⟩ := by
  simp only [msetB, vS, hs, encM_set]
  exact propext ⟨fun h => h.2, fun h => ⟨⟨rfl, encM_kind f l s, hv⟩, h⟩⟩
/-! ### Memory apart -/
theorem pwp_regR (P : Program) (bs : List Nat) (ins : List PI) (Q : PX → St → Prop) (st : St) : pwp P (.regR bs ins) Q st = tkS P bs ins Q st.s hNil st := rfl
theorem tk_nil (P : Program) (ins : List PI) (Q : PX → St → Prop) (s h : Hp) (st : St) : tkS P [] ins Q s h st = runsR P ins (rfin Q) ⟨st.t, s, st.k⟩ h := rfl
theorem tk_cons (P : Program) (b : Nat) (bs : List Nat) (ins : List PI) (Q : PX → St → Prop) (s h : Hp) (st : St) : tkS P (b :: bs) ins Q s h st = tkA P (st.t b) bs ins Q s h st := by
  simp only [tkS, takeR, tkA, tkB]
  generalize st.t b = a
  cases a <;> rfl
theorem tk_A (P : Program) (id off : Nat) (bs : List Nat) (ins : List PI) (Q : PX → St → Prop) (s h : Hp) (st : St) : tkA P (.ptr id off) bs ins Q s h st = tkB P (s id) id bs ins Q s h st := rfl
theorem tk_B (P : Program) (blk : Blk) (id : Nat) (bs : List Nat) (ins : List PI) (Q : PX → St → Prop) (s h : Hp) (st : St) : tkB P (some blk) id bs ins Q s h st = tkS P bs ins Q (upd s id none) (upd h id (some blk)) st := rfl
theorem rr_one (P : Program) (d : Option Nat) (g : Option (Nat × Bool)) (i : Ins) (ps : List PI) (K : St → Hp → Prop) (st : St) (h : Hp) (hi : i.isR = false) : runsR P (⟨d, g, i⟩ :: ps) K st h = runs P [⟨d, g, i⟩] (kR P ps K h) st := by
  simp only [runsR, run1R, hi, Bool.false_eq_true, if_false, runs]
  rfl
theorem rr_new (P : Program) (d : Option Nat) (g : Option (Nat × Bool)) (z : List A) (ps : List PI) (K : St → Hp → Prop) (st : St) (h : Hp) : runsR P (⟨d, g, .new z⟩ :: ps) K st h = newR z st h (kS P d ps K) := rfl
theorem rr_store (P : Program) (d : Option Nat) (g : Option (Nat × Bool)) (n : Nat) (a x : Opd) (ps : List PI) (K : St → Hp → Prop) (st : St) (h : Hp) : runsR P (⟨d, g, .store n a x⟩ :: ps) K st h = storeR (ev st a) (ev st x) n st h (kS P d ps K) := by
  simp only [runsR, run1R, Ins.isR, if_true, stepR, storeR, stoR]
  generalize ev st a = X
  cases X <;> rfl
theorem rr_app (P : Program) (d : Option Nat) (g : Option (Nat × Bool)) (esz e bytes : Nat) (s x : Opd) (ps : List PI) (K : St → Hp → Prop) (st : St) (h : Hp) : runsR P (⟨d, g, .appB esz e bytes s x⟩ :: ps) K st h = appR esz e bytes (ev st s) (ev st x) st h (kS P d ps K) := by
  simp only [runsR, run1R, Ins.isR, if_true, stepR, appR]
  generalize ev st s = X
  generalize ev st x = Y
  cases X <;> cases Y <;> rfl
theorem rr_eqs (P : Program) : (∀ K st h, runsR P [] K st h = K st h) ∧ (∀ ps K h st, kR P ps K h st = runsR P ps K st h) ∧ (∀ d ps K v t s k h, kS P (some d) ps K v ⟨t, s, k⟩ h = runsR P ps K ⟨upd t d v, s, k⟩ h) ∧ (∀ ps K v t s k h, kS P none ps K v ⟨t, s, k⟩ h = runsR P ps K ⟨t, s, k⟩ h) := by
  refine ⟨?_, ?_, ?_, ?_⟩ <;> intros <;> rfl
theorem rr_eqs2 : (∀ Q t s k h, rfin Q ⟨t, s, k⟩ h = Q .normal ⟨t, mrg s h, k⟩) ∧ (∀ s, mrg s hNil = s) ∧ (∀ id, hNil id = none) ∧ (∀ s h id b, mrg s (upd h id (some b)) = upd (mrg s h) id (some b)) ∧ (∀ id off x n st h K, storeR (.ptr id off) x n st h K = stoR (h id) id off x n st h K) ∧
    (∀ cs id off x n st h K, stoR (some (.cells cs)) id off x n st h K = stoR' (x.solid = true ∧ x.pcells.length = n ∧ off + n ≤ cs.length) id (.cells (splice cs off x.pcells)) st h K) ∧ (∀ id b st h K, stoR' True id b st h K = K .undef st (upd h id (some b))) := by
  refine ⟨?_, ?_, ?_, ?_, ?_, ?_, ?_⟩ <;> intros <;> first | rfl | exact mrg_upd _ _ _ _ | simp [stoR']
theorem isR_eqs : (∀ x, Ins.isR (.mv x) = false) ∧ (∀ a b c, Ins.isR (.pick a b c) = false) ∧ (∀ z ps, Ins.isR (.build z ps) = false) ∧ (∀ a b c d e, Ins.isR (.lit a b c d e) = false) ∧ (∀ a b, Ins.isR (.load a b) = false) ∧ (∀ a b, Ins.isR (.fld a b) = false) ∧ (∀ a b c, Ins.isR (.idx a b c) = false) ∧ (∀ a b c d, Ins.isR (.idxA a b c d) = false) ∧
    (∀ a b c, Ins.isR (.getf a b c) = false) ∧ (∀ a b c d e, Ins.isR (.geti a b c d e) = false) ∧ (∀ a b, Ins.isR (.gets a b) = false) ∧ (∀ a b c, Ins.isR (.bin a b c) = false) ∧ (∀ a b c d, Ins.isR (.eqs a b c d) = false) ∧ (∀ a b c, Ins.isR (.eqb a b c) = false) ∧ (∀ a b c, Ins.isR (.eqn a b c) = false) ∧ (∀ a b, Ins.isR (.un a b) = false) ∧ (∀ a b, Ins.isR (.conv a b) = false) ∧
    (∀ a, Ins.isR (.idc a) = false) ∧ (∀ a b, Ins.isR (.mkfn a b) = false) ∧ (∀ a b c, Ins.isR (.call a b c) = false) ∧ (∀ a b, Ins.isR (.len a b) = false) ∧ (∀ a, Ins.isR (.clen a) = false) ∧ (∀ a b c d e, Ins.isR (.app a b c d e) = false) ∧ (∀ a b c, Ins.isR (.mm a b c) = false) ∧ (∀ a b c d e, Ins.isR (.slc a b c d e) = false) ∧ (∀ a b c, Ins.isR (.cut a b c) = false) ∧
    (∀ a b, Ins.isR (.ext a b) = false) ∧ (∀ a b c d e, Ins.isR (.look a b c d e) = false) ∧ (∀ a, Ins.isR (.mlen a) = false) ∧ (∀ a, Ins.isR (.nilc a) = false) ∧ (∀ a, Ins.isR (.capn a) = false) := by
  refine ⟨?_, ?_, ?_, ?_, ?_, ?_, ?_, ?_, ?_, ?_, ?_, ?_, ?_, ?_, ?_, ?_, ?_, ?_, ?_, ?_, ?_, ?_, ?_, ?_, ?_, ?_, ?_, ?_, ?_, ?_, ?_⟩ <;> intros <;> rfl
theorem newR_in {z : List A} {st : St} {h : Hp} {K : A → St → Hp → Prop} (hh : ∀ id, st.s id = none → h id = none → K (.ptr id 0) st (upd h id (some (.cells z)))) : newR z st h K := hh
theorem upd_none' {α : Type} (f : Nat → Option α) (i j : Nat) : upd f i none j = none ↔ j = i ∨ f j = none := by
  unfold upd
  by_cases h : j = i <;> simp [h]
theorem mkmS_in {st : St} {K : A → St → Prop} (h : ∀ id, st.s id = none → K (.map id) ⟨st.t, upd st.s id (some (.map [])), st.k⟩) : mkmS st K := h
theorem fldA_eq : (∀ off cs o, fldA off (.el cs o) = some (.el cs (o + off))) ∧ ∀ off id o, fldA off (.ptr id o) = some (.ptr id (o + off)) := ⟨fun _ _ _ => rfl, fun _ _ _ => rfl⟩
theorem lenA_eq : (∀ e xs t, lenA false (.sl e xs t) = some (.int .i64 xs.length)) ∧ ∀ s, lenA true (.str s) = some (.int .i64 s.size) := ⟨fun _ _ _ => rfl, fun _ => rfl⟩
/-- Numbers that fit are as they are. -/
theorem pvV : A.strip .undef = .undef ∧ (∀ k n, A.strip (.int k n) = .int k n) ∧ (∀ b, A.strip (.bool b) = .bool b) ∧ (∀ b, A.strip (.str b) = .str b) ∧ (∀ e xs, A.strip (.sl e xs .no) = .sl e xs .no) ∧ (∀ e xs, A.strip (.sl e xs .nil) = .sl e xs .nil) ∧
    (∀ e xs, A.strip (.sl e xs .full) = .sl e xs .full) ∧ (∀ e xs g t, A.strip (.sl e xs (.own g t)) = .sl e xs .no) ∧ (∀ cs, A.strip (.agg cs) = .agg cs) ∧ (∀ cs, A.strip (.tup cs) = .tup cs) ∧ (∀ a b, A.strip (.ptr a b) = .ptr a b) ∧ (∀ cs b, A.strip (.el cs b) = .el cs b) ∧
    A.strip .nilptr = .nilptr ∧ (∀ f cs, A.strip (.fn f cs) = .fn f cs) ∧ A.strip .nilfn = .nilfn ∧ (∀ i, A.strip (.map i) = .map i) ∧ A.strip .nilmap = .nilmap := by
  refine ⟨?_, ?_, ?_, ?_, ?_, ?_, ?_, ?_, ?_, ?_, ?_, ?_, ?_, ?_, ?_, ?_, ?_⟩ <;> intros <;> rfl
theorem pvB (k : IntKind) (a b : Int) : binA .add (.int k a) (.int k b) = some (.int k (k.wrap (a + b))) ∧ binA .sub (.int k a) (.int k b) = some (.int k (k.wrap (a - b))) ∧ binA .mul (.int k a) (.int k b) = some (.int k (k.wrap (a * b))) ∧ binA .quo (.int k a) (.int k b) = (if b = 0 then none else some (.int k (k.wrap (a.tdiv b)))) ∧ binA .rem (.int k a) (.int k b) = (if b = 0 then none else some (.int k (a.tmod b))) ∧ binA .eql (.int k a) (.int k b) = some (.bool (decide (a = b))) ∧ binA .neq (.int k a) (.int k b) = some (.bool (!decide (a = b))) ∧ binA .lss (.int k a) (.int k b) = some (.bool (decide (a < b))) ∧ binA .leq (.int k a) (.int k b) = some (.bool (decide (a ≤ b))) ∧ binA .gtr (.int k a) (.int k b) = some (.bool (decide (b < a))) ∧ binA .geq (.int k a) (.int k b) = some (.bool (decide (b ≤ a))) ∧ (∀ big, mmA big (.int k a) (.int k b) = some (.int k (if big then max a b else min a b))) := by
  refine ⟨?_, ?_, ?_, ?_, ?_, ?_, ?_, ?_, ?_, ?_, ?_, ?_⟩ <;> intros <;> simp [binA, convA, mmA, unA]
theorem pvB1 (x y : ByteArray) : binA .eql (.str x) (.str y) = some (.bool (decide (x = y))) ∧ binA .neq (.str x) (.str y) = some (.bool (!decide (x = y))) ∧ binA .lss (.str x) (.str y) = some (.bool (Op.bytesLess x.toList y.toList)) ∧ binA .add (.str x) (.str y) = (if x.size + y.size ≤ 9223372036854775807 then some (.str (x ++ y)) else none) := by
  refine ⟨?_, ?_, ?_, ?_⟩ <;> intros <;> simp [binA]
theorem pvB2 (k : IntKind) (a : Int) : (∀ k', convA k' (.int k a) = some (.int k' (k'.wrap a))) ∧ unA .neg (.int k a) = some (.int k (k.wrap (0 - a))) := by
  refine ⟨?_, ?_⟩ <;> intros <;> simp [convA, unA]
theorem pvL : (∀ p, unA .not (.bool p) = some (.bool !p)) ∧ (∀ neq p q, eqbA neq (.bool p) (.bool q) = some (.bool (if neq then !decide (p = q) else decide (p = q)))) := ⟨fun _ => rfl, fun _ _ _ => rfl⟩

theorem pvP : (∀ cs, A.solid (.agg cs) = true) ∧ (∀ cs, A.pcells (.agg cs) = cs.map A.strip) ∧ (∀ cs, A.scells (.agg cs) = cs.map A.strip) ∧ (∀ cs st K, boxS (.agg cs) st K = newS (cs.map A.strip) st K) ∧ (∀ k n, A.solid (.int k n) = true) ∧ (∀ k n, A.pcells (.int k n) = [.int k n]) ∧ (∀ k n, A.scells (.int k n) = [A.strip (.int k n)]) ∧ (∀ k n st K, boxS (.int k n) st K = newS [.int k n] st K) ∧ (∀ b, A.solid (.bool b) = true) ∧ (∀ b, A.pcells (.bool b) = [.bool b]) ∧ (∀ b, A.scells (.bool b) = [A.strip (.bool b)]) ∧ (∀ b st K, boxS (.bool b) st K = newS [.bool b] st K) ∧ (∀ b, A.solid (.str b) = true) ∧ (∀ b, A.pcells (.str b) = [.str b]) ∧ (∀ b, A.scells (.str b) = [A.strip (.str b)]) ∧ (∀ b st K, boxS (.str b) st K = newS [.str b] st K) ∧ (∀ e xs t, A.solid (.sl e xs t) = true) ∧ (∀ e xs t, A.pcells (.sl e xs t) = [.sl e xs t]) ∧ (∀ e xs t, A.scells (.sl e xs t) = [A.strip (.sl e xs t)]) ∧ (∀ e xs t st K, boxS (.sl e xs t) st K = newS [.sl e xs t] st K) ∧ (∀ a b, A.solid (.ptr a b) = true) ∧ (∀ a b, A.pcells (.ptr a b) = [.ptr a b]) ∧ (∀ a b, A.scells (.ptr a b) = [A.strip (.ptr a b)]) ∧ (∀ a b st K, boxS (.ptr a b) st K = newS [.ptr a b] st K) ∧ (∀ cs b, A.solid (.el cs b) = true) ∧ (∀ cs b, A.pcells (.el cs b) = [.el cs b]) ∧ (∀ cs b, A.scells (.el cs b) = [A.strip (.el cs b)]) ∧ (∀ cs b st K, boxS (.el cs b) st K = newS [.el cs b] st K) ∧ A.solid .nilptr = true ∧ A.pcells .nilptr = [.nilptr] ∧ A.scells .nilptr = [A.strip .nilptr] ∧ (∀ st K, boxS .nilptr st K = newS [.nilptr] st K) ∧ (∀ f cs, A.solid (.fn f cs) = true) ∧ (∀ f cs, A.pcells (.fn f cs) = [.fn f cs]) ∧ (∀ f cs, A.scells (.fn f cs) = [A.strip (.fn f cs)]) ∧ (∀ f cs st K, boxS (.fn f cs) st K = newS [.fn f cs] st K) ∧ A.solid .nilfn = true ∧ A.pcells .nilfn = [.nilfn] ∧ A.scells .nilfn = [A.strip .nilfn] ∧ (∀ st K, boxS .nilfn st K = newS [.nilfn] st K) ∧ (∀ i, A.solid (.map i) = true) ∧ (∀ i, A.pcells (.map i) = [.map i]) ∧ (∀ i, A.scells (.map i) = [A.strip (.map i)]) ∧ (∀ i st K, boxS (.map i) st K = newS [.map i] st K) ∧ A.solid .nilmap = true ∧ A.pcells .nilmap = [.nilmap] ∧ A.scells .nilmap = [A.strip .nilmap] ∧ (∀ st K, boxS .nilmap st K = newS [.nilmap] st K) := by
  refine ⟨?_, ?_, ?_, ?_, ?_, ?_, ?_, ?_, ?_, ?_, ?_, ?_, ?_, ?_, ?_, ?_, ?_, ?_, ?_, ?_, ?_, ?_, ?_, ?_, ?_, ?_, ?_, ?_, ?_, ?_, ?_, ?_, ?_, ?_, ?_, ?_, ?_, ?_, ?_, ?_, ?_, ?_, ?_, ?_, ?_, ?_, ?_, ?_⟩ <;> intros <;> first | rfl | simp [boxS, A.solid, A.pcells]
theorem newS_in {z : List A} {st : St} {K : A → St → Prop} (h : ∀ id, st.s id = none → K (.ptr id 0) ⟨st.t, upd st.s id (some (.cells z)), st.k⟩) : newS z st K := h
theorem brC_in {P : Program} {b : Bool} {x y : PC} {Q : PX → St → Prop} {st : St} (h1 : b = true → pwp P x Q st) (h2 : b = false → pwp P y Q st) : brC P b x y Q st := ⟨h1, h2⟩
theorem brG_in {P : Program} {b : Bool} {i : Ins} {d : Option Nat} {ps : List PI} {K : St → Prop} {st : St} (h1 : b = true → step P i st (nx P d ps K)) (h2 : b = false → nx P d ps K (.tup []) st) : brG P b i d ps K st := ⟨h1, h2⟩
theorem brN_in {P : Program} {b : Bool} {i : Ins} {d : Option Nat} {ps : List PI} {K : St → Prop} {st : St} (h1 : b = false → step P i st (nx P d ps K)) (h2 : b = true → nx P d ps K (.tup []) st) : brN P b i d ps K st := ⟨h1, h2⟩
theorem OutQ.eq {s s' : Nat → Option Blk} {k : Nat → Tk} {t : Nat → A} {r r1 : A} (h2 : SExt s s') (h1 : r1 = r) : OutQ s k r r1 ⟨t, s', k⟩ := ⟨.le (h1 ▸ A.le_refl _), h2, KExt.refl _⟩
theorem OutQ.le {s s' : Nat → Option Blk} {k : Nat → Tk} {t : Nat → A} {r r1 : A} (h2 : SExt s s') (h1 : A.le r1 r) : OutQ s k r r1 ⟨t, s', k⟩ := ⟨.le h1, h2, KExt.refl _⟩
theorem OutQ.lek {s s' : Nat → Option Blk} {k k' : Nat → Tk} {t : Nat → A} {r r1 : A} (h2 : SExt s s') (hk : KExt k k') (h1 : A.le r1 r) : OutQ s k r r1 ⟨t, s', k'⟩ := ⟨.le h1, h2, hk⟩

/-! ### Loops over tables of slots -/
def tab : List (Nat × A) → Nat → A
  | [], _ => .undef
  | (i, x) :: l, j => if j = i then x else tab l j
theorem tab_cons (i : Nat) (x : A) (l : List (Nat × A)) (j : Nat) : tab ((i, x) :: l) j = if j = i then x else tab l j := rfl
theorem tab_nil (j : Nat) : tab [] j = .undef := rfl
def TabLe (t : Nat → A) : List (Nat × A) → Prop
  | [] => True
  | (i, x) :: l => A.le (t i) x ∧ TabLe t l
theorem TabLe_cons (t : Nat → A) (i : Nat) (x : A) (l : List (Nat × A)) : TabLe t ((i, x) :: l) = (A.le (t i) x ∧ TabLe t l) := rfl
theorem TabLe_nil (t : Nat → A) : TabLe t [] = True := rfl
theorem TabLe.le {t : Nat → A} : ∀ {l : List (Nat × A)}, TabLe t l → ∀ i, A.le (t i) (tab l i)
  | [], _, i => A.le_undef _
  | (j, x) :: l, h, i => by
    simp only [tab]
    split
    · rename_i e; subst e; exact h.1
    · exact TabLe.le h.2 i
theorem St.le_tab {t : Nat → A} {s s' : Hp} {k : Nat → Tk} (l : List (Nat × A)) (hs : SExt s s') (h : TabLe t l) : St.le ⟨t, s', k⟩ ⟨tab l, s, k⟩ := ⟨h.le, (St.le_s (t := t) (k := k) hs).s, rfl⟩
def upI (I : Nat → St → Prop) (N : Nat) : Nat → St → Prop := fun m st => ∃ j, m = N - j ∧ j ≤ N ∧ I j st
theorem nextU_in {I : Nat → St → Prop} {N j : Nat} {Q : PX → St → Prop} {st st2 : St} (hj : j < N) (hl : St.le st st2) (hi : I (j + 1) st2) : nextQ (upI I N) (N - j) Q .normal st := ⟨st2, N - (j + 1), by omega, hl, j + 1, rfl, by omega, hi⟩
/-- A loop that counts up. -/
theorem loop_tab {P : Program} {x : PC} {Q : PX → St → Prop} {st : St} (N : Nat) (I : Nat → St → Prop) (h0 : ∃ st1, St.le st st1 ∧ I 0 st1) (h : ∀ j st1, j ≤ N → I j st1 → pwp P x (nextQ (upI I N) (N - j) Q) st1) : pwp P (.loop x) Q st := by
  obtain ⟨st1, h1, h2⟩ := h0
  refine ⟨upI I N, ⟨st1, N, h1, 0, by omega, by omega, h2⟩, ?_⟩
  rintro m st2 ⟨j, rfl, hj, hi⟩
  have := h j st2 hj hi
  have e : nextQ (upI I N) (N - j) Q = fun e st' => match e with
    | .normal => ∃ st2 m', m' < N - j ∧ St.le st' st2 ∧ upI I N m' st2
    | e => Q e st' := by funext e st'; cases e <;> rfl
  rw [e] at this
  exact this
theorem wrap_succ {j N : Nat} (h : j < N) (hN : N ≤ 4611686018427387904) : IntKind.i64.wrap ((j : Int) + 1) = ((j + 1 : Nat) : Int) := wrap64 (by omega) (by omega)

theorem le_strip_no (esz : Nat) (xs : List (List A)) (t : Tok) : A.le (A.sl esz xs t).strip (.sl esz xs .no) := by
  cases t with
  | own g e => exact A.le_refl _
  | _ => exact A.le_no _ _ _
/-! ### Appends, whatever is appended -/
def TokA (k0 k : Nat → Tk) (e : Nat) (tok : Tok) : Prop := tok = .nil ∨ tok = .full ∨ ∃ g, tok = .own g e ∧ k g = .live ∧ k0 g = .unused
theorem TokA.live {k0 k : Nat → Tk} {e : Nat} {tok : Tok} (h : TokA k0 k e tok) : tokLive k e tok := by
  rcases h with rfl | rfl | ⟨g, rfl, h, _⟩
  · trivial
  · trivial
  · exact ⟨rfl, h⟩
theorem TokA.ext {k0 k : Nat → Tk} {e : Nat} {tok : Tok} (h : TokA k0 k e tok) (hk : KExt k0 k) {g : Nat} (hg : k g = .unused) : KExt k0 (upd (killT k tok) g .live) := by
  refine KExt.old ?_ (hk.unused hg) _
  rcases h with rfl | rfl | ⟨g', rfl, _, hu⟩
  · exact hk
  · exact hk
  · exact hk.old hu _
theorem app_in {k0 : Nat → Tk} {esz e bytes : Nat} {xs ys : List (List A)} {t t2 : Tok} {st : St} {K : A → St → Prop} (hk : KExt k0 st.k) (ht : TokA k0 st.k e t) (hlen : (xs.length + ys.length) * bytes ≤ 140737488355328)
    (h : ∀ tok k', KExt k0 k' → TokA k0 k' e tok → K (.sl esz (xs ++ ys) tok) ⟨st.t, st.s, k'⟩) : appS esz e bytes (.sl esz xs t) (.sl esz ys t2) st K := by
  refine ⟨.inl rfl, .inl rfl, ht.live, hlen, fun hy => ?_, fun _ g hg => ?_⟩
  · subst hy
    have := h t st.k hk ht
    rwa [List.append_nil] at this
  · exact h _ _ (ht.ext hk hg) (.inr (.inr ⟨g, rfl, by simp [upd], hk.unused hg⟩))

/-- All equations. -/
theorem pvZ : type_of% (And.intro @pwp_cond (And.intro @pwp_seq (And.intro @pwp_block (And.intro @pvC (And.intro @runs_some (And.intro @gdS_false (And.intro @gdS_true (And.intro @step_pick (And.intro @step_load (And.intro @step_store (And.intro @step_fld (And.intro @step_idx (And.intro @step_idxA (And.intro @step_getf (And.intro @step_geti (And.intro @step_bin (And.intro @step_eqs (And.intro @step_eqb (And.intro @step_un (And.intro @step_conv (And.intro @step_len (And.intro @step_mm (And.intro @step_ext (And.intro @step_call (And.intro @step_callq (And.intro @step_slc (And.intro @step_look (And.intro @step_gets (And.intro @step_cut (And.intro @step_eqn (And.intro @step_idc (And.intro @step_nilc (And.intro @step_capn (And.intro @step_mset (And.intro @step_mlen (And.intro @step_isn (And.intro @step_appZ (And.intro @step_cpy (And.intro @step_clr (And.intro @step_mkmap (And.intro @step_appB (And.intro @pvO (And.intro @pvK (And.intro @pvQ (And.intro @pvE (And.intro @pvR (And.intro @pvRC (And.intro @fldA_eq (And.intro @lenA_eq (And.intro @pvV (And.intro @pvB (And.intro @pvB1 (And.intro @pvB2 (And.intro @pvL (And.intro @pvP (And.intro @pvX (And.intro @pvY (And.intro @pwp_regR (And.intro @tk_nil (And.intro @tk_cons (And.intro @tk_A (And.intro @tk_B (And.intro @rr_new (And.intro @rr_store (And.intro @rr_app (And.intro @rr_eqs (And.intro @rr_eqs2 (And.intro @isR_eqs (And.intro @tab_cons @tab_nil))))))))))))))))))))))))))))))))))))))))))))))))))))))))))))))))))))) := And.intro @pwp_cond (And.intro @pwp_seq (And.intro @pwp_block (And.intro @pvC (And.intro @runs_some (And.intro @gdS_false (And.intro @gdS_true (And.intro @step_pick (And.intro @step_load (And.intro @step_store (And.intro @step_fld (And.intro @step_idx (And.intro @step_idxA (And.intro @step_getf (And.intro @step_geti (And.intro @step_bin (And.intro @step_eqs (And.intro @step_eqb (And.intro @step_un (And.intro @step_conv (And.intro @step_len (And.intro @step_mm (And.intro @step_ext (And.intro @step_call (And.intro @step_callq (And.intro @step_slc (And.intro @step_look (And.intro @step_gets (And.intro @step_cut (And.intro @step_eqn (And.intro @step_idc (And.intro @step_nilc (And.intro @step_capn (And.intro @step_mset (And.intro @step_mlen (And.intro @step_isn (And.intro @step_appZ (And.intro @step_cpy (And.intro @step_clr (And.intro @step_mkmap (And.intro @step_appB (And.intro @pvO (And.intro @pvK (And.intro @pvQ (And.intro @pvE (And.intro @pvR (And.intro @pvRC (And.intro @fldA_eq (And.intro @lenA_eq (And.intro @pvV (And.intro @pvB (And.intro @pvB1 (And.intro @pvB2 (And.intro @pvL (And.intro @pvP (And.intro @pvX (And.intro @pvY (And.intro @pwp_regR (And.intro @tk_nil (And.intro @tk_cons (And.intro @tk_A (And.intro @tk_B (And.intro @rr_new (And.intro @rr_store (And.intro @rr_app (And.intro @rr_eqs (And.intro @rr_eqs2 (And.intro @isR_eqs (And.intro @tab_cons @tab_nil))))))))))))))))))))))))))))))))))))))))))))))))))))))))))))))))))))
theorem lz : (∀ (α β : Type) (f : α → β) (a : α) (l : List α), List.map f (a :: l) = f a :: List.map f l) ∧ (∀ (α β : Type) (f : α → β), List.map f [] = []) ∧ (∀ (α : Type) (a : α) (l : List α), (a :: l).length = l.length + 1) ∧ (∀ (α : Type), ([] : List α).length = 0) ∧ (∀ (α β : Type) (f : α → β) (l : List α), (List.map f l).length = l.length) ∧
    (∀ (α : Type) (a : α) (l : List α), (a :: l)[0]? = some a) ∧ (∀ (α : Type) (a : α) (l : List α) (n : Nat), (a :: l)[n + 1]? = l[n]?) ∧ (∀ (α : Type) (n : Nat), ([] : List α)[n]? = none) ∧ (∀ (α : Type) (a d : α), (some a).getD d = a) ∧ (∀ (α : Type) (d : α), (none : Option α).getD d = d) ∧
    (∀ (α : Type) (a : α) (l m : List α), (a :: l) ++ m = a :: (l ++ m)) ∧ (∀ (α : Type) (l : List α), [] ++ l = l) ∧ (∀ (α : Type) (l : List α), l ++ [] = l) ∧ (∀ (α : Type) (a : α) (l : List α) (n : Nat), List.drop (n + 1) (a :: l) = List.drop n l) ∧ (∀ (α : Type) (l : List α), List.drop 0 l = l) ∧
    (∀ (α : Type) (a : α) (l : List α) (n : Nat), List.take (n + 1) (a :: l) = a :: List.take n l) ∧ (∀ (α : Type) (l : List α), List.take 0 l = []) ∧ (∀ (α : Type) (n : Nat), List.drop n ([] : List α) = []) ∧ (∀ (α : Type) (n : Nat), List.take n ([] : List α) = []) ∧ (∀ (α : Type) (a x : α) (l : List α), List.set (a :: l) 0 x = x :: l) ∧
    (∀ (α : Type) (a x : α) (l : List α) (n : Nat), List.set (a :: l) (n + 1) x = a :: List.set l n x) ∧ (∀ (α : Type) (a : α) (n : Nat), List.replicate (n + 1) a = a :: List.replicate n a) ∧ (∀ (α : Type) (a : α), List.replicate 0 a = []) := by
  refine ⟨?_, ?_, ?_, ?_, ?_, ?_, ?_, ?_, ?_, ?_, ?_, ?_, ?_, ?_, ?_, ?_, ?_, ?_, ?_, ?_, ?_, ?_, ?_⟩ <;> intros <;> simp [List.replicate_succ]
theorem nz : (∀ n : Nat, n + 0 = n) ∧ (∀ n : Nat, 0 + n = n) ∧ (¬ True) = False ∧ (¬ False) = True ∧ (∀ p, (p ∧ True) = p) ∧ (∀ p, (True ∧ p) = p) ∧ (∀ p : Prop, (p ∧ p) = p) ∧ (false = true) = False ∧ (!true) = false ∧ (!false) = true ∧ (∀ h, @decide True h = true) ∧ (∀ h, @decide False h = false) ∧ (∀ n : Nat, (n : Int).toNat = n) ∧ (∀ n : Nat, (0 ≤ (n : Int)) = True) ∧ (∀ n : Nat, (n ≤ n) = True) ∧ (∀ n : Nat, (0 ≤ n) = True) ∧ (true = false) = False := by
  refine ⟨?_, ?_, ?_, ?_, ?_, ?_, ?_, ?_, ?_, ?_, ?_, ?_, ?_, ?_, ?_, ?_, ?_⟩ <;> intros <;> simp
end Go.Pv
