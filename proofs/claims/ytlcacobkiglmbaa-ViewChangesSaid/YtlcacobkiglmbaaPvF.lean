/- What a compact operation does to an abstract state. -/
import Derived.Test.YtlcacobkiglmbaaPvE
namespace Go.Pv
open Go

/-- The call of a function (with a body, or one that the model carries out at once) returns. -/
def CallsV (P : Program) (f : FuncId) (args : Array Value) (w : World) (R : Value → World → Prop) : Prop :=
  match (callFunc f args).run P w with
  | .ok (.value v) w' => R v w'
  | .ok (.enter g as) w' => Calls P g as w' fun e w'' => ∃ v, e = .returned v ∧ R v w''
  | _ => False
/-- The contract of a function on abstract values: what it comes to. -/
def SpecR (P : Program) (f : FuncId) (args : List A) (s : Nat → Option Blk) (k : Nat → Tk) (R : A → (Nat → Option Blk) → (Nat → Tk) → Prop) : Prop :=
  ∀ (w : World) (E : Env) (vs : Array Value), InvS w E s k → vs.size = args.length → (∀ j x, args[j]? = some x → Rel w E x (vs.getD j Go.undef)) →
    CallsV P f vs w fun v w' => ∃ r s' k', R r s' k' ∧ ∃ E', Reach w E s k w' E' s' k' ∧ Rel w' E' r v
/-- The contract of a function on abstract values. -/
def Spec (P : Program) (f : FuncId) (args : List A) (s : Nat → Option Blk) (k : Nat → Tk) (r : A) (s' : Nat → Option Blk) (k' : Nat → Tk) : Prop :=
  ∀ (w : World) (E : Env) (vs : Array Value), InvS w E s k → vs.size = args.length → (∀ j x, args[j]? = some x → Rel w E x (vs.getD j Go.undef)) →
    CallsV P f vs w fun v w' => ∃ E', Reach w E s k w' E' s' k' ∧ Rel w' E' r v

theorem CallsV.mono {P : Program} {f : FuncId} {args : Array Value} {w : World} {R R' : Value → World → Prop} (h : CallsV P f args w R) (hi : ∀ v w', R v w' → R' v w') : CallsV P f args w R' := by
  unfold CallsV at h ⊢
  generalize (callFunc f args).run P w = q at h ⊢
  cases q with
  | halt x w' => exact h.elim
  | ok n w' =>
    cases n with
    | value v => exact hi _ _ h
    | enter g as => exact Calls.mono h fun e w'' ⟨v, h1, h2⟩ => ⟨v, h1, hi _ _ h2⟩
    | _ => exact h.elim
theorem Spec.toR {P : Program} {f : FuncId} {args : List A} {s s' : Nat → Option Blk} {k k' : Nat → Tk} {r : A} (h : Spec P f args s k r s' k') : SpecR P f args s k fun r1 s1 k1 => r1 = r ∧ s1 = s' ∧ k1 = k' :=
  fun w E vs hS hl hr => (h w E vs hS hl hr).mono fun _ _ ⟨E', h1, h2⟩ => ⟨r, s', k', ⟨rfl, rfl, rfl⟩, E', h1, h2⟩
def flatS (xs : List (List A)) : List A := (xs.map (List.map A.strip)).flatten
/-- The cells of a value that is put into a box. -/
def A.pcells : A → List A
  | .agg cs => cs.map A.strip
  | a => [a]
/-- The cells of a value that becomes a part of another. -/
def A.scells : A → List A
  | .agg cs => cs.map A.strip
  | a => [a.strip]

def fillP (st : St) : List A → List (Nat × Nat × Opd) → (List A → Prop) → Prop
  | z, [], K => K z
  | z, (o, n, x) :: r, K => (ev st x).solid = true ∧ (ev st x).scells.length = n ∧ o + n ≤ z.length ∧ fillP st (splice z o (ev st x).scells) r K
def litP (st : St) (esz : Nat) : List (List A) → List (Nat × Opd) → (List (List A) → Prop) → Prop
  | z, [], K => K z
  | z, (i, x) :: r, K => (ev st x).solid = true ∧ (ev st x).scells.length = esz ∧ i < z.length ∧ litP st esz (z.set i (ev st x).scells) r K
/-- What is read of cells. -/
def readP (cs : List A) (off : Nat) (n : Option Nat) (K : A → Prop) : Prop :=
  match n with
  | none => match cs[off]? with
    | some x => K x
    | none => False
  | some m => off + m ≤ cs.length ∧ K (.agg (((cs.drop off).take m).map A.strip))
def eqCells : List A → List A → Option Bool
  | [], [] => some true
  | .int k a :: r, .int k' b :: r' => if k = k' then (eqCells r r').map (decide (a = b) && ·) else none
  | .str a :: r, .str b :: r' => (eqCells r r').map (decide (a = b) && ·)
  | .bool a :: r, .bool b :: r' => (eqCells r r').map (decide (a = b) && ·)
  | _, _ => none
def fitB : Basic → A → Bool
  | .int _, .int _ _ => true
  | .str, .str _ => true
  | .bool, .bool _ => true
  | _, _ => false
def fitBs : List Basic → List A → Bool
  | [], [] => true
  | b :: bs, c :: cs => fitB b c && fitBs bs cs
  | _, _ => false
/-- Keys of maps. -/
def keyEq : A → A → Bool
  | .str a, .str b => decide (a = b)
  | .int k a, .int k' b => decide (k = k') && decide (a = b)
  | _, _ => false
def keyB : Basic → A → Bool
  | .str, .str _ => true
  | .int k, .int k' _ => decide (k = k')
  | _, _ => false
def kindEq : A → A → Bool
  | .str _, .str _ => true
  | .int k _, .int k' _ => decide (k = k')
  | _, _ => false
def findA (x : A) : List (A × A) → Option A
  | [] => none
  | (y, v) :: es => if keyEq x y then some v else findA x es
def setA (x v : A) : List (A × A) → List (A × A)
  | [] => [(x, v)]
  | (y, u) :: es => if keyEq x y then (x, v) :: es else (y, u) :: setA x v es
def optI (st : St) (x : Option Opd) (d : Int) : Option Int :=
  match x with
  | none => some d
  | some o => match ev st o with
    | .int _ n => some n
    | _ => none

/-- What is known of a part of a slice: nothing, but that of the nil slice. -/
def Tok.cut : Tok → Tok
  | .nil => .nil
  | _ => .no
/-- The cells of a slice that is read: how many elements, and the cells. -/
def srcP (s : Nat → Option Blk) (esz : Nat) (x : A) (K : Nat → List A → Prop) : Prop :=
  match x with
  | .sl e ys _ => (e = esz ∨ ys = []) ∧ K ys.length (flatS ys)
  | .sb id off e n _ => match s id with
    | some (.cells cs) => e = esz ∧ off + n * esz ≤ cs.length ∧ K n (((cs.drop off).take (n * esz)).map A.strip)
    | _ => False
  | _ => False
/-- What an append onto a slice over a box comes to: in place, or a new box. -/
def appC (esz bytes : Nat) (id off n c : Nat) (cs : List A) (y : A) (st : St) (K : A → St → Prop) : Prop :=
  off + c * esz ≤ cs.length ∧ n ≤ c ∧ srcP st.s esz y fun m ds => (n + m) * bytes ≤ 140737488355328 ∧
    (n + m ≤ c → K (.sb id off esz (n + m) c) { st with s := upd st.s id (some (.cells (splice cs (off + n * esz) ds))) }) ∧
    (c < n + m → ∀ id' c', st.s id' = none → n + m ≤ c' → c' ≤ maxLen →
      K (.sb id' 0 esz (n + m) c') { st with s := upd st.s id' (some (.cells (((cs.drop off).take (n * esz)).map A.strip ++ ds ++ List.replicate ((c' - (n + m)) * esz) .undef))) })
/-- What an append of zeros comes to: a new box. -/
def appN (esz bytes : Nat) (z : List A) (n : Nat) (olds : List A) (m : Int) (st : St) (K : A → St → Prop) : Prop :=
  0 ≤ m ∧ (n + m.toNat) * bytes ≤ 140737488355328 ∧ ∀ id' c', st.s id' = none → n + m.toNat ≤ c' → c' ≤ maxLen →
    K (.sb id' 0 esz (n + m.toNat) c') { st with s := upd st.s id' (some (.cells (olds ++ (List.replicate m.toNat z).flatten ++ List.replicate ((c' - (n + m.toNat)) * esz) .undef))) }

def step (P : Program) (i : Ins) (st : St) (K : A → St → Prop) : Prop :=
  match i with
  | .mv x => K (ev st x) st
  | .pick c a b => match ev st c with
    | .bool t => K (if t then ev st a else ev st b) st
    | _ => False
  | .new z => ∀ id, st.s id = none → K (.ptr id 0) { st with s := upd st.s id (some (.cells z)) }
  | .box x => (ev st x).solid = true ∧ ∀ id, st.s id = none → K (.ptr id 0) { st with s := upd st.s id (some (.cells (ev st x).pcells)) }
  | .build z ps => fillP st z ps fun cs => K (.agg cs) st
  | .lit esz _ z n ps => litP st esz (List.replicate n z) ps fun xs => K (.sl esz xs .full) st
  | .load n a => match ev st a with
    | .el cs off => readP cs off n fun x => K x.strip st
    | .ptr id off => match st.s id with
      | some (.cells cs) => readP cs off n fun x => K x st
      | _ => False
    | _ => False
  | .store n a x => match ev st a with
    | .ptr id off => match st.s id with
      | some (.cells cs) => (ev st x).solid = true ∧ (ev st x).pcells.length = n ∧ off + n ≤ cs.length ∧ K .undef { st with s := upd st.s id (some (.cells (splice cs off (ev st x).pcells))) }
      | _ => False
    | _ => False
  | .fld off a => match ev st a with
    | .el cs o => K (.el cs (o + off)) st
    | .ptr id o => K (.ptr id (o + off)) st
    | _ => False
  | .idx esz x i => match ev st x, ev st i with
    | .sl e xs _, .int _ n => e = esz ∧ 0 ≤ n ∧ match xs[n.toNat]? with
      | some cs => K (.el cs 0) st
      | none => False
    | .sb id off e n c, .int _ j => e = esz ∧ 0 ≤ j ∧ j < n ∧ K (.ptr id (off + j.toNat * esz)) st
    | _, _ => False
  | .idxA len esz x i => match ev st x, ev st i with
    | .ptr id o, .int _ n => 0 ≤ n ∧ n < len ∧ K (.ptr id (o + n.toNat * esz)) st
    | .el cs o, .int _ n => 0 ≤ n ∧ n < len ∧ K (.el cs (o + n.toNat * esz)) st
    | _, _ => False
  | .getf off n x => match ev st x with
    | .agg cs => readP cs off n fun x => K x.strip st
    | _ => False
  | .geti len esz n x i => match ev st x, ev st i with
    | .agg cs, .int _ j => 0 ≤ j ∧ j < len ∧ readP cs (j.toNat * esz) n fun x => K x.strip st
    | _, _ => False
  | .gets x i => match ev st x, ev st i with
    | .str s, .int _ n => 0 ≤ n ∧ ∃ h : n.toNat < s.size, K (.int .u8 s[n.toNat].toNat) st
    | _, _ => False
  | .bin op x y => match binA op (ev st x) (ev st y) with
    | some v => K v st
    | none => False
  | .eqs bs neq x y => match ev st x, ev st y with
    | .agg cs, .agg ds => fitBs bs cs = true ∧ match eqCells cs ds with
      | some b => K (.bool (if neq then !b else b)) st
      | none => False
    | _, _ => False
  | .eqb neq x y => match ev st x, ev st y with
    | .bool a, .bool b => K (.bool (if neq then !decide (a = b) else decide (a = b))) st
    | _, _ => False
  | .eqn neq x y => match ev st x, ev st y with
    | .nilptr, .nilptr => K (.bool !neq) st
    | .ptr _ _, .nilptr | .el _ _, .nilptr | .nilptr, .ptr _ _ | .nilptr, .el _ _ => K (.bool neq) st
    | _, _ => False
  | .un op x => match op, ev st x with
    | .not, .bool b => K (.bool !b) st
    | .neg, .int k n => K (.int k (k.wrap (0 - n))) st
    | _, _ => False
  | .conv k x => match ev st x with
    | .int _ n => K (.int k (k.wrap n)) st
    | _ => False
  | .idc x => match ev st x with
    | .str s => K (.str s) st
    | _ => False
  | .mkfn f caps => K (.fn f (caps.map fun x => (ev st x).strip)) st
  | .call q f args => match ev st f with
    | .fn fid caps => if q then ∃ r, Spec P fid (args.map (fun x => (ev st x).strip) ++ caps) st.s st.k r st.s st.k ∧ K r.strip st
      else ∃ R, SpecR P fid (args.map (fun x => (ev st x).strip) ++ caps) st.s st.k R ∧ ∀ r s' k', R r s' k' → K r.strip ⟨st.t, s', k'⟩
    | _ => False
  | .len q x => match q, ev st x with
    | false, .sl _ xs _ => K (.int .i64 xs.length) st
    | false, .sb _ _ _ n _ => K (.int .i64 n) st
    | true, .str s => K (.int .i64 s.size) st
    | _, _ => False
  | .clen n => K (.int .i64 n) st
  | .app esz e bytes s x => match ev st s, ev st x with
    | .sl e1 xs t, .sl e2 ys _ => (e1 = esz ∨ (xs = [] ∧ t = .nil)) ∧ (e2 = esz ∨ ys = []) ∧ tokLive st.k e t ∧ (xs.length + ys.length) * bytes ≤ 140737488355328 ∧
        (ys = [] → K (.sl esz xs t) st) ∧ (ys ≠ [] → ∀ g, st.k g = .unused → K (.sl esz (xs ++ ys) (.own g e)) { st with k := upd (killT st.k t) g .live })
    | _, _ => False
  | .mm big x y => match ev st x, ev st y with
    | .int k a, .int k' b => k = k' ∧ K (.int k (if big then max a b else min a b)) st
    | _, _ => False
  | .slc esz x lo hi mx => match ev st x with
    | .sl e xs t => match optI st lo 0, optI st hi xs.length, mx with
      | some l, some h, none => (e = esz ∨ xs = []) ∧ 0 ≤ l ∧ l ≤ h ∧ h ≤ xs.length ∧ K (.sl esz ((xs.drop l.toNat).take (h.toNat - l.toNat)) t.cut) st
      | some l, some h, some m => match ev st m with
        | .int _ c => (e = esz ∨ xs = []) ∧ 0 ≤ l ∧ l ≤ h ∧ h = c ∧ c ≤ xs.length ∧ K (.sl esz ((xs.drop l.toNat).take (h.toNat - l.toNat)) .full) st
        | _ => False
      | _, _, _ => False
    | .sb id off e n c => match optI st lo 0, optI st hi n, mx with
      | some l, some h, none => e = esz ∧ 0 ≤ l ∧ l ≤ h ∧ h ≤ c ∧ K (.sb id (off + l.toNat * esz) esz (h.toNat - l.toNat) (c - l.toNat)) st
      | some l, some h, some m => match ev st m with
        | .int _ q => e = esz ∧ 0 ≤ l ∧ l ≤ h ∧ h ≤ q ∧ q ≤ c ∧ K (.sb id (off + l.toNat * esz) esz (h.toNat - l.toNat) (q.toNat - l.toNat)) st
        | _ => False
      | _, _, _ => False
    | _ => False
  | .cut x lo hi => match ev st x with
    | .str s => match optI st lo 0, optI st hi s.size with
      | some l, some h => 0 ≤ l ∧ l ≤ h ∧ h ≤ s.size ∧ K (.str (s.extract l.toNat h.toNat)) st
      | _, _ => False
    | _ => False
  | .ext x i => match ev st x with
    | .tup cs => match cs[i]? with
      | some v => K v.strip st
      | none => False
    | _ => False
  | .mkmap => ∀ id, st.s id = none → K (.map id) { st with s := upd st.s id (some (.map [])) }
  | .look kb ok z m x => match ev st m with
    | .map id => match st.s id with
      | some (.map es) => keyB kb (ev st x) = true ∧ (∀ p ∈ es, kindEq (ev st x) p.1 = true) ∧ match findA (ev st x) es with
        | some v => K (if ok then .tup [v.strip, .bool true] else v.strip) st
        | none => K (if ok then .tup [z, .bool false] else z) st
      | _ => False
    | .nilmap => keyB kb (ev st x) = true ∧ K (if ok then .tup [z, .bool false] else z) st
    | _ => False
  | .mset kb m x v => match ev st m with
    | .map id => match st.s id with
      | some (.map es) => keyB kb (ev st x) = true ∧ (∀ p ∈ es, kindEq (ev st x) p.1 = true) ∧ (ev st v).solid = true ∧ K .undef { st with s := upd st.s id (some (.map (setA (ev st x) (ev st v).strip es))) }
      | _ => False
    | _ => False
  | .mlen m => match ev st m with
    | .map id => match st.s id with
      | some (.map es) => K (.int .i64 es.length) st
      | _ => False
    | .nilmap => K (.int .i64 0) st
    | _ => False
  | .nilc x => match ev st x with
    | .ptr id off => K (.ptr id off) st
    | .el cs off => K (.el cs off) st
    | _ => False
  | .appB esz e bytes s x => match ev st s, ev st x with
    | .sl e1 xs t, .sl e2 ys _ => (e1 = esz ∨ (xs = [] ∧ t = .nil)) ∧ (e2 = esz ∨ ys = []) ∧ (t = .nil ∨ t = .full) ∧ (xs.length + ys.length) * bytes ≤ 140737488355328 ∧
        (ys = [] → K (.sl esz xs t) st) ∧ (ys ≠ [] → ∀ id c, st.s id = none → xs.length + ys.length ≤ c → c ≤ maxLen →
          K (.sb id 0 esz (xs.length + ys.length) c) { st with s := upd st.s id (some (.cells (flatS (xs ++ ys) ++ List.replicate ((c - (xs.length + ys.length)) * esz) .undef))) })
    | .sb id off e1 n c, y => match st.s id with
      | some (.cells cs) => e1 = esz ∧ appC esz bytes id off n c cs y st K
      | _ => False
    | _, _ => False
  | .capn x => match ev st x with
    | .sb _ _ _ _ c => K (.int .i64 c) st
    | .sl _ xs .full => K (.int .i64 xs.length) st
    | .sl _ xs .nil => K (.int .i64 xs.length) st
    | _ => False
  | .isn neg x => match ev st x with
    | .sl e xs t => (xs ≠ [] → 0 < e ∧ K (.bool neg) st) ∧ (xs = [] → t = .nil → K (.bool !neg) st) ∧ (xs = [] → t ≠ .nil → K (.bool true) st ∧ K (.bool false) st)
    | .sb _ _ _ n _ => 0 < n ∧ K (.bool neg) st
    | _ => False
  | .appZ esz e bytes z s n => match ev st s, ev st n with
    | .sl _ xs t, .int .i64 m => xs = [] ∧ t = .nil ∧ 0 < m ∧ appN esz bytes z 0 [] m st K
    | .sb id off e1 n c, .int .i64 m => match st.s id with
      | some (.cells cs) => e1 = esz ∧ off + n * esz ≤ cs.length ∧ n ≤ c ∧ (c : Int) < n + m ∧ appN esz bytes z n (((cs.drop off).take (n * esz)).map A.strip) m st K
      | _ => False
    | _, _ => False
  | .cpy esz d x => match ev st d with
    | .sb id off e1 n c => match st.s id with
      | some (.cells cs) => e1 = esz ∧ off + n * esz ≤ cs.length ∧ n ≤ c ∧ srcP st.s esz (ev st x) fun m ds =>
          K (.int .i64 ((Nat.min m n : Nat) : Int)) { st with s := upd st.s id (some (.cells (splice cs off (ds.take (Nat.min m n * esz))))) }
      | _ => False
    | _ => False
  | .clr esz z x => match ev st x with
    | .sb id off e1 n c => match st.s id with
      | some (.cells cs) => e1 = esz ∧ off + n * esz ≤ cs.length ∧ n ≤ c ∧ K (.tup []) { st with s := upd st.s id (some (.cells (splice cs off (List.replicate n z).flatten))) }
      | _ => False
    | _ => False

/-! ### One operation of the program -/
/-- What the state says of the temporaries. -/
def Tm (w : World) (E : Env) (st : St) (a : Act) : Prop := ∀ j, RelP w E st.k (st.t j) (a.tmps.getD j Go.undef)
/-- The operation's value, wherever it goes. -/
def After (P : Program) (st : St) (w : World) (E : Env) (K : A → St → Prop) (N : Value → World → Prop) : Prop :=
  ∀ x s' k' w' E' v, K x ⟨st.t, s', k'⟩ → Reach w E st.s st.k w' E' s' k' → RelP w' E' k' x v → N v w'
theorem After.same {P : Program} {st : St} {w : World} {E : Env} {K : A → St → Prop} {N : Value → World → Prop} (h : After P st w E K N) (hS : InvS w E st.s st.k) {x : A} {v : Value} (hk : K x st) (hr : RelP w E st.k x v) : N v w :=
  h x st.s st.k w E v hk (Reach.refl hS) hr
theorem relp_of {w : World} {E : Env} {k : Nat → Tk} {x : A} {v : Value} (h : Rel w E x v) (hn : ∀ esz xs g e, x ≠ .sl esz xs (.own g e)) : RelP w E k x v := ⟨h, fun esz xs g e he => absurd he (hn esz xs g e)⟩
theorem strip_ne (x : A) : ∀ esz xs g e, x.strip ≠ .sl esz xs (.own g e) := by
  intro esz xs g e h
  cases x <;> simp [A.strip] at h
  rename_i t
  cases t <;> simp at h
theorem relp_strip {w : World} {E : Env} {k : Nat → Tk} {x : A} {v : Value} (h : Rel w E x v) : RelP w E k x.strip v := relp_of h.strip (strip_ne x)
theorem Rel.pcells {w : World} {E : Env} {k : Nat → Tk} {a : A} {v : Value} (h : RelP w E k a v) (hu : a.solid = true) :
    v.cells.size = a.pcells.length ∧ (∀ j, j < a.pcells.length → (v.cells.getD j Go.undef).oneCell' = true) ∧ ∀ j x, a.pcells[j]? = some x → RelP w E k x (v.cells.getD j Go.undef) := by
  obtain ⟨h1, h2, h3⟩ := h.rel.cells hu
  cases a with
  | agg cs =>
    simp only [A.pcells, A.cells, List.length_map] at *
    refine ⟨h1, h2, fun j x hx => ?_⟩
    rw [List.getElem?_map] at hx
    obtain ⟨y, hy, rfl⟩ := Option.map_eq_some_iff.1 hx
    exact relp_strip (h3 j y hy)
  | undef => cases hu
  | tup cs => cases hu
  | _ =>
    refine ⟨h1, h2, fun j x hx => ?_⟩
    have hj : j = 0 := by
      cases j with
      | zero => rfl
      | succ j => simp [A.pcells] at hx
    subst hj
    simp only [A.pcells, List.getElem?_cons_zero, Option.some.injEq] at hx
    subst hx
    have hv : v.cells.getD 0 Go.undef = v := by
      have := h.rel
      cases this <;> rfl
    rw [hv]
    exact h
theorem Rel.scells {w : World} {E : Env} {a : A} {v : Value} (h : Rel w E a v) (hu : a.solid = true) :
    v.cells.size = a.scells.length ∧ (∀ j, j < a.scells.length → (v.cells.getD j Go.undef).oneCell' = true) ∧ ∀ j x, a.scells[j]? = some x → (Rel w E x (v.cells.getD j Go.undef) ∧ ∀ esz xs g e, x ≠ .sl esz xs (.own g e)) := by
  obtain ⟨h1, h2, h3⟩ := h.cells hu
  have hs : a.scells = a.cells.map A.strip := by cases a <;> rfl
  rw [hs]
  refine ⟨by simpa using h1, fun j hj => h2 j (by simpa using hj), fun j x hx => ?_⟩
  rw [List.getElem?_map] at hx
  obtain ⟨y, hy, rfl⟩ := Option.map_eq_some_iff.1 hx
  exact ⟨(h3 j y hy).strip, strip_ne y⟩

end Go.Pv
