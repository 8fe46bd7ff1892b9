/- Abstract values, and what they stand for in a world: a part of an executor of Go functions on values without a heap. -/
import Derived.Orders
import Derived.Below
import Derived.Maps.AppendAt
import Derived.Laws.AppendOwn
import Derived.Tactics
import Derived.RowKit3
namespace Go.Pv
open Go

/-- What is known of a slice's room: nothing; it is the nil slice; it is full; it is a row of the call's own (a token, the element type). -/
inductive Tok where
  | no | nil | full
  | own (g e : Nat)
  deriving DecidableEq

/-- A value: slices bear what they hold (elements as lists of cells). -/
inductive A where
  | undef
  | int (k : IntKind) (n : Int)
  | bool (b : Bool)
  | str (s : ByteArray)
  | sl (esz : Nat) (xs : List (List A)) (t : Tok)
  | agg (cs : List A)
  | tup (cs : List A)
  | ptr (id off : Nat)
  | el (cs : List A) (off : Nat)
  | nilptr
  | fn (f : FuncId) (caps : List A)
  | nilfn
  | map (id : Nat)
  | nilmap
  | sb (id off esz n c : Nat)

inductive Blk where
  | cells (cs : List A)
  | map (es : List (A × A))

inductive Tk where
  | unused | live | dead
  deriving DecidableEq

/-- A row of the call's own: its block, how many elements are used, its room, the element's size and type. -/
structure Row where
  b : Nat
  n : Nat
  c : Nat
  esz : Nat
  e : Nat

/-- Where what is abstract lies: boxes; the cells that are never written again; rows. -/
structure Env where
  μ : Nat → Option Nat
  F : Nat → Nat → Prop
  ρ : Nat → Option Row

def upd {α : Type} (f : Nat → α) (i : Nat) (x : α) : Nat → α := fun j => if j = i then x else f j
theorem upd_same {α : Type} (f : Nat → α) (i : Nat) (x : α) : upd f i x i = x := by simp [upd]
theorem upd_other {α : Type} (f : Nat → α) (i j : Nat) (x : α) (h : j ≠ i) : upd f i x j = f j := by simp [upd, h]

inductive Rel (w : World) (E : Env) : A → Value → Prop where
  | undef (v : Value) : Rel w E .undef v
  | int (k : IntKind) (n : Int) : Rel w E (.int k n) (.int k n)
  | bool (b : Bool) : Rel w E (.bool b) (.bool b)
  | str (s : ByteArray) : Rel w E (.str s) (.string s)
  | sl (esz : Nat) (xs : List (List A)) (t : Tok) (ad : Option Addr) (c : Nat) (f : Nat → Nat → Value)
      (hc : xs.length ≤ c) (hm : c ≤ maxLen) (hn : t = .nil → ad = none ∧ c = 0) (hfull : t = .full → c = xs.length)
      (hl : ∀ (i : Nat) (cs : List A), xs[i]? = some cs → cs.length = esz)
      (ha : ∀ i j, i < xs.length → j < esz → ∃ b o, ad = some ⟨b, o, none⟩ ∧ E.F b (o + (i * esz + j)) ∧ w.cell? ⟨b, o + (i * esz + j), none⟩ = some (f i j) ∧ (f i j).oneCell' = true)
      (hr : ∀ (i : Nat) (cs : List A) (j : Nat) (x : A), xs[i]? = some cs → cs[j]? = some x → Rel w E x (f i j)) : Rel w E (.sl esz xs t) (.slice ad xs.length c)
  | agg (cs : List A) (vs : Array Value) (hs : vs.size = cs.length) (h1 : ∀ j, j < cs.length → (vs.getD j Go.undef).oneCell' = true) (hr : ∀ (j : Nat) (x : A), cs[j]? = some x → Rel w E x (vs.getD j Go.undef)) : Rel w E (.agg cs) (.agg vs)
  | tup (cs : List A) (vs : Array Value) (hs : vs.size = cs.length) (hr : ∀ (j : Nat) (x : A), cs[j]? = some x → Rel w E x (vs.getD j Go.undef)) : Rel w E (.tup cs) (.tuple vs)
  | ptr (id off b : Nat) (h : E.μ id = some b) : Rel w E (.ptr id off) (.pointer (some ⟨b, off, none⟩))
  | el (cs : List A) (off b o : Nat) (f : Nat → Value) (ha : ∀ j, j < cs.length → E.F b (o + j) ∧ w.cell? ⟨b, o + j, none⟩ = some (f j) ∧ (f j).oneCell' = true)
      (hr : ∀ (j : Nat) (x : A), cs[j]? = some x → Rel w E x (f j)) : Rel w E (.el cs off) (.pointer (some ⟨b, o + off, none⟩))
  | nilptr : Rel w E .nilptr (.pointer none)
  | fn (f : FuncId) (cs : List A) (vs : Array Value) (hs : vs.size = cs.length) (hr : ∀ (j : Nat) (x : A), cs[j]? = some x → Rel w E x (vs.getD j Go.undef)) : Rel w E (.fn f cs) (.func (.func f) #[] vs)
  | nilfn : Rel w E .nilfn .nilFunc
  | map (id b : Nat) (h : E.μ id = some b) : Rel w E (.map id) (.map (some b))
  | nilmap : Rel w E .nilmap (.map none)
  | sb (id off esz n c b o : Nat) (h : E.μ id = some b) (hn : n ≤ c) (hm : c ≤ maxLen) (ho : 0 < c → o = off) : Rel w E (.sb id off esz n c) (.slice (some ⟨b, o, none⟩) n c)

theorem Rel.mono {w w' : World} {E E' : Env} (hF : ∀ b o, E.F b o → E'.F b o ∧ w'.cell? ⟨b, o, none⟩ = w.cell? ⟨b, o, none⟩)
    (hμ : ∀ id b, E.μ id = some b → E'.μ id = some b) {a : A} {v : Value} (h : Rel w E a v) : Rel w' E' a v := by
  induction h with
  | undef v => exact .undef v
  | int k n => exact .int k n
  | bool b => exact .bool b
  | str s => exact .str s
  | sl esz xs t ad c f hc hm hn hfull hl ha hr ih =>
    refine .sl esz xs t ad c f hc hm hn hfull hl (fun i j hi hj => ?_) ih
    obtain ⟨b, o, h1, h2, h3, h4⟩ := ha i j hi hj
    exact ⟨b, o, h1, (hF _ _ h2).1, (hF _ _ h2).2.trans h3, h4⟩
  | agg cs vs hs h1 hr ih => exact .agg cs vs hs h1 ih
  | tup cs vs hs hr ih => exact .tup cs vs hs ih
  | ptr id off b h => exact .ptr id off b (hμ _ _ h)
  | el cs off b o f ha hr ih => exact .el cs off b o f (fun j hj => ⟨(hF _ _ (ha j hj).1).1, (hF _ _ (ha j hj).1).2.trans (ha j hj).2.1, (ha j hj).2.2⟩) ih
  | nilptr => exact .nilptr
  | fn f cs vs hs hr ih => exact .fn f cs vs hs ih
  | nilfn => exact .nilfn
  | map id b h => exact .map id b (hμ _ _ h)
  | nilmap => exact .nilmap
  | sb id off esz n c b o h hn hm ho => exact .sb id off esz n c b o (hμ _ _ h) hn hm ho

/-- A value for another holder: a row is no longer its own. -/
def A.strip : A → A
  | .sl esz xs (.own _ _) => .sl esz xs .no
  | a => a
theorem Rel.strip {w : World} {E : Env} {a : A} {v : Value} (h : Rel w E a v) : Rel w E a.strip v := by
  cases h with
  | sl esz xs t ad c f hc hm hn hfull hl ha hr =>
    cases t with
    | own g e => exact .sl esz xs .no ad c f hc hm (fun h => by cases h) (fun h => by cases h) hl ha hr
    | _ => exact .sl esz xs _ ad c f hc hm hn hfull hl ha hr
  | _ => first | exact .undef _ | exact .int .. | exact .bool _ | exact .str _ | exact .agg _ _ ‹_› ‹_› ‹_› | exact .tup _ _ ‹_› ‹_› | exact .ptr _ _ _ ‹_› | exact .el _ _ _ _ _ ‹_› ‹_› | exact .nilptr | exact .fn _ _ _ ‹_› ‹_› | exact .nilfn | exact .map _ _ ‹_› | exact .nilmap | exact .sb _ _ _ _ _ _ _ ‹_› ‹_› ‹_› ‹_›
/-- What can be put into cells. -/
def A.solid : A → Bool
  | .tup _ | .undef => false
  | _ => true
/-- A value's cells. -/
def A.cells : A → List A
  | .agg cs => cs
  | a => [a]
theorem Rel.cells {w : World} {E : Env} {a : A} {v : Value} (h : Rel w E a v) (hu : a.solid = true) :
    v.cells.size = a.cells.length ∧ (∀ j, j < a.cells.length → (v.cells.getD j Go.undef).oneCell' = true) ∧ ∀ j x, a.cells[j]? = some x → Rel w E x (v.cells.getD j Go.undef) := by
  have one : ∀ {a : A} {v : Value}, Rel w E a v → v.cells = #[v] → v.oneCell' = true →
      v.cells.size = [a].length ∧ (∀ j, j < [a].length → (v.cells.getD j Go.undef).oneCell' = true) ∧ ∀ j x, [a][j]? = some x → Rel w E x (v.cells.getD j Go.undef) := by
    intro a v h e h1
    rw [e]
    refine ⟨rfl, fun j hj => ?_, fun j x hx => ?_⟩
    · obtain rfl : j = 0 := by simpa using hj
      exact h1
    · cases j with
      | zero => simp at hx; subst hx; simpa using h
      | succ j => simp at hx
  cases h with
  | undef v => cases hu
  | agg cs vs hs h1 hr => exact ⟨hs, h1, hr⟩
  | sl esz xs t ad c f hc hm hn hfull hl ha hr => exact one (.sl esz xs t ad c f hc hm hn hfull hl ha hr) rfl rfl
  | el cs off b o f ha hr => exact one (.el cs off b o f ha hr) rfl rfl
  | fn f cs vs hs hr => exact one (.fn f cs vs hs hr) rfl rfl
  | tup cs vs hs hr => cases hu
  | int k n => exact one (.int k n) rfl rfl
  | bool b => exact one (.bool b) rfl rfl
  | str s => exact one (.str s) rfl rfl
  | ptr id off b h => exact one (.ptr id off b h) rfl rfl
  | nilptr => exact one .nilptr rfl rfl
  | nilfn => exact one .nilfn rfl rfl
  | map id b h => exact one (.map id b h) rfl rfl
  | nilmap => exact one .nilmap rfl rfl
  | sb id off esz n c b o h hn hm ho => exact one (.sb id off esz n c b o h hn hm ho) rfl rfl

/-- All blocks but some are as they were. -/
structure Agree (Y : Nat → Prop) (w w' : World) : Prop where
  os : w'.os = w.os
  tape : w'.tape = w.tape
  output : w'.output = w.output
  size : w.heap.size ≤ w'.heap.size
  block : ∀ k, k < w.heap.size → ¬ Y k → w'.heap[k]? = w.heap[k]?
theorem Agree.refl (Y : Nat → Prop) (w : World) : Agree Y w w := ⟨rfl, rfl, rfl, Nat.le_refl _, fun _ _ _ => rfl⟩
theorem Agree.trans {Y Z : Nat → Prop} {a b c : World} (h : Agree Y a b) (k : Agree Z b c) (hz : ∀ i, i < a.heap.size → Z i → Y i) : Agree Y a c :=
  ⟨k.os.trans h.os, k.tape.trans h.tape, k.output.trans h.output, Nat.le_trans h.size k.size, fun i hi hy => (k.block i (Nat.lt_of_lt_of_le hi h.size) (fun z => hy (hz i hi z))).trans (h.block i hi hy)⟩
theorem Agree.cell {Y : Nat → Prop} {w w' : World} (h : Agree Y w w') {b o : Nat} (hb : b < w.heap.size) (hy : ¬ Y b) : w'.cell? ⟨b, o, none⟩ = w.cell? ⟨b, o, none⟩ :=
  World.cell?_of_block (w := w) (a := ⟨b, o, none⟩) (h.block b hb hy)

/-- What a row's holder knows of it. -/
def TokOK (E : Env) (k : Nat → Tk) (x : A) (v : Value) : Prop :=
  ∀ esz xs g e, x = .sl esz xs (.own g e) → k g ≠ .unused ∧ (k g = .live → ∃ r, E.ρ g = some r ∧ r.n = xs.length ∧ r.esz = esz ∧ r.e = e ∧ v = .slice (some ⟨r.b, 0, none⟩) xs.length r.c)
structure RelP (w : World) (E : Env) (k : Nat → Tk) (x : A) (v : Value) : Prop where
  rel : Rel w E x v
  tok : TokOK E k x v

/-- A map's entries: each was born at a time of its own, before now. -/
def Born (vs : Array MapEntry) (clock : Nat) : Prop := (∀ x ∈ vs.toList, x.born < clock) ∧ (vs.toList.map (·.born)).Nodup
/-- The boxes, maps and rows of an abstract memory lie in the world. -/
structure InvS (w : World) (E : Env) (s : Nat → Option Blk) (k : Nat → Tk) : Prop where
  cells : ∀ id cs, s id = some (.cells cs) → ∃ b cur ty, E.μ id = some b ∧ w.heap[b]? = some (.cells cur ty (0, 0)) ∧ cur.size = cs.length ∧
    (∀ j, j < cs.length → (cur.getD j Go.undef).oneCell' = true) ∧ (∀ j x, cs[j]? = some x → RelP w E k x (cur.getD j Go.undef)) ∧ (∀ o, ¬ E.F b o)
  maps : ∀ id es, s id = some (.map es) → ∃ b vs clock, E.μ id = some b ∧ w.heap[b]? = some (.map vs clock) ∧ (vs.size = es.length ∧ Born vs clock) ∧
    ∀ (i : Nat) (a x : A), es[i]? = some (a, x) → ∃ e : MapEntry, vs[i]? = some e ∧ Rel w E a e.key ∧ Rel w E x e.val
  inj : ∀ id id' b, s id ≠ none → s id' ≠ none → E.μ id = some b → E.μ id' = some b → id = id'
  rows : ∀ g, k g = .live → ∃ r cur, E.ρ g = some r ∧ w.heap[r.b]? = some (.cells cur r.e (0, 0)) ∧ cur.size = r.c * r.esz ∧ r.n ≤ r.c ∧ r.c ≤ maxLen ∧
    (∀ o, E.F r.b o → o < r.n * r.esz) ∧ ∀ id, s id ≠ none → E.μ id ≠ some r.b
  rinj : ∀ g g' r r', k g = .live → k g' = .live → E.ρ g = some r → E.ρ g' = some r' → r.b = r'.b → g = g'
  prot : ∀ b o, E.F b o → ∃ v, w.cell? ⟨b, o, none⟩ = some v
  fin : ∃ N, ∀ id, N ≤ id → E.μ id = none ∧ k id = .unused

/-- The blocks that a call may write to. -/
def Mut (E : Env) (s : Nat → Option Blk) (k : Nat → Tk) (b : Nat) : Prop := (∃ id, s id ≠ none ∧ E.μ id = some b) ∨ ∃ g r, k g = .live ∧ E.ρ g = some r ∧ r.b = b

/-- The environment has grown: what was there is there. -/
structure Ext (w : World) (E : Env) (k : Nat → Tk) (w' : World) (E' : Env) (k' : Nat → Tk) : Prop where
  F : ∀ b o, E.F b o → E'.F b o ∧ w'.cell? ⟨b, o, none⟩ = w.cell? ⟨b, o, none⟩
  μ : ∀ id b, E.μ id = some b → E'.μ id = some b
  tok : ∀ g, k g ≠ .unused → k' g ≠ .unused ∧ (k' g = .live → k g = .live ∧ E'.ρ g = E.ρ g)
theorem Ext.rel {w w' : World} {E E' : Env} {k k' : Nat → Tk} (h : Ext w E k w' E' k') {a : A} {v : Value} (r : Rel w E a v) : Rel w' E' a v := r.mono h.F h.μ
theorem Ext.relp {w w' : World} {E E' : Env} {k k' : Nat → Tk} (h : Ext w E k w' E' k') {a : A} {v : Value} (r : RelP w E k a v) : RelP w' E' k' a v :=
  ⟨h.rel r.rel, fun esz xs g e he => by
    obtain ⟨h1, h2⟩ := r.tok esz xs g e he
    obtain ⟨h3, h4⟩ := h.tok g h1
    refine ⟨h3, fun hl => ?_⟩
    obtain ⟨h5, h6⟩ := h4 hl
    rw [h6]
    exact h2 h5⟩
theorem Ext.refl (w : World) (E : Env) (k : Nat → Tk) : Ext w E k w E k := ⟨fun _ _ h => ⟨h, rfl⟩, fun _ _ h => h, fun _ h => ⟨h, fun h => ⟨h, rfl⟩⟩⟩
theorem Ext.trans {w1 w2 w3 : World} {E1 E2 E3 : Env} {k1 k2 k3 : Nat → Tk} (h : Ext w1 E1 k1 w2 E2 k2) (h' : Ext w2 E2 k2 w3 E3 k3) : Ext w1 E1 k1 w3 E3 k3 :=
  ⟨fun b o hb => ⟨(h'.F b o (h.F b o hb).1).1, (h'.F b o (h.F b o hb).1).2.trans (h.F b o hb).2⟩, fun id b hb => h'.μ id b (h.μ id b hb), fun g hg => by
    obtain ⟨a1, a2⟩ := h.tok g hg
    obtain ⟨b1, b2⟩ := h'.tok g a1
    refine ⟨b1, fun hl => ?_⟩
    obtain ⟨c1, c2⟩ := b2 hl
    obtain ⟨d1, d2⟩ := a2 c1
    exact ⟨d1, c2.trans d2⟩⟩

/-- From one memory to a later one: a call, or a part of one. -/
structure Reach (w : World) (E : Env) (s : Nat → Option Blk) (k : Nat → Tk) (w' : World) (E' : Env) (s' : Nat → Option Blk) (k' : Nat → Tk) : Prop where
  S : InvS w' E' s' k'
  ext : Ext w E k w' E' k'
  agree : Agree (Mut E s k) w w'
  base : ∀ b, Mut E' s' k' b → Mut E s k b ∨ w.heap.size ≤ b
  prot : ∀ b o, E'.F b o → E.F b o ∨ Mut E s k b ∨ w.heap.size ≤ b
theorem Reach.refl {w : World} {E : Env} {s : Nat → Option Blk} {k : Nat → Tk} (h : InvS w E s k) : Reach w E s k w E s k := ⟨h, Ext.refl w E k, Agree.refl _ w, fun _ h => .inl h, fun _ _ h => .inl h⟩
theorem Reach.trans {w1 w2 w3 : World} {E1 E2 E3 : Env} {s1 s2 s3 : Nat → Option Blk} {k1 k2 k3 : Nat → Tk} (h : Reach w1 E1 s1 k1 w2 E2 s2 k2) (h' : Reach w2 E2 s2 k2 w3 E3 s3 k3) :
    Reach w1 E1 s1 k1 w3 E3 s3 k3 :=
  ⟨h'.S, h.ext.trans h'.ext, h.agree.trans h'.agree fun i hi hz => (h.base i hz).resolve_right (by omega), fun b hb => by
    rcases h'.base b hb with h1 | h1
    · exact h.base b h1
    · exact .inr (Nat.le_trans h.agree.size h1), fun b o hb => by
    rcases h'.prot b o hb with h1 | h1 | h1
    · exact h.prot b o h1
    · exact .inr (h.base b h1)
    · exact .inr (.inr (Nat.le_trans h.agree.size h1))⟩
/-- All that was there is as it was. -/
theorem InvS.agree {w w' : World} {E : Env} {s : Nat → Option Blk} {k : Nat → Tk} (h : InvS w E s k) (g : Agree (fun _ => False) w w') : Reach w E s k w' E s k := by
  have hlt : ∀ b o v, w.cell? ⟨b, o, none⟩ = some v → b < w.heap.size := fun b o v hv => World.block_lt_of_cell? w ⟨b, o, none⟩ hv
  have hcell : ∀ b o, E.F b o → E.F b o ∧ w'.cell? ⟨b, o, none⟩ = w.cell? ⟨b, o, none⟩ := fun b o hb => by
    obtain ⟨v, hv⟩ := h.prot b o hb
    exact ⟨hb, g.cell (hlt b o v hv) (fun z => z)⟩
  have hext : Ext w E k w' E k := ⟨hcell, fun _ _ h => h, fun _ h => ⟨h, fun h => ⟨h, rfl⟩⟩⟩
  have hblk : ∀ (b : Nat) (o : Obj), w.heap[b]? = some o → w'.heap[b]? = some o := fun b o hb =>
    (g.block b (Array.getElem?_eq_some_iff.1 hb).1 (fun z => z)).trans hb
  refine ⟨⟨?_, ?_, h.inj, ?_, h.rinj, ?_, h.fin⟩, hext, ⟨g.os, g.tape, g.output, g.size, fun b hb _ => g.block b hb (fun z => z)⟩, fun b hb => .inl hb, fun _ _ h => .inl h⟩
  · intro id cs hs
    obtain ⟨b, cur, ty, h1, h2, h3, h3', h4, h5⟩ := h.cells id cs hs
    exact ⟨b, cur, ty, h1, hblk _ _ h2, h3, h3', fun j x hx => hext.relp (h4 j x hx), h5⟩
  · intro id es hs
    obtain ⟨b, vs, clock, h1, h2, h3, h4⟩ := h.maps id es hs
    refine ⟨b, vs, clock, h1, hblk _ _ h2, h3, fun i a x hx => ?_⟩
    obtain ⟨e, e1, e2, e3⟩ := h4 i a x hx
    exact ⟨e, e1, hext.rel e2, hext.rel e3⟩
  · intro g' hg
    obtain ⟨r, cur, h1, h2, h3⟩ := h.rows g' hg
    exact ⟨r, cur, h1, hblk _ _ h2, h3⟩
  · intro b o hb
    obtain ⟨v, hv⟩ := h.prot b o hb
    exact ⟨v, (hcell b o hb).2.trans hv⟩
theorem Agree.alloc (w : World) (o : Obj) : Agree (fun _ => False) w (w.alloc o) :=
  ⟨rfl, rfl, rfl, by simp, fun k hk _ => heap_alloc_old w o k hk⟩
theorem Agree.drew (w : World) : Agree (fun _ => False) w w.drew := ⟨rfl, rfl, rfl, Nat.le_refl _, fun _ _ _ => rfl⟩
/-- Fewer boxes. -/
theorem InvS.less {w : World} {E : Env} {s s' : Nat → Option Blk} {k : Nat → Tk} (h : InvS w E s k) (hs : ∀ id, s' id = none ∨ s' id = s id) : Reach w E s k w E s' k := by
  have hne : ∀ id, s' id ≠ none → s id ≠ none := fun id h1 h2 => by rcases hs id with h3 | h3 <;> simp_all
  have heq : ∀ id x, s' id = some x → s id = some x := fun id x h1 => by rcases hs id with h3 | h3 <;> simp_all
  refine ⟨⟨fun id cs h1 => h.cells id cs (heq _ _ h1), fun id es h1 => h.maps id es (heq _ _ h1), fun id id' b h1 h2 => h.inj id id' b (hne _ h1) (hne _ h2), ?_, h.rinj, h.prot, h.fin⟩,
    Ext.refl w E k, Agree.refl _ w, fun b hb => .inl ?_, fun _ _ h => .inl h⟩
  · intro g hg
    obtain ⟨r, cur, h1, h2, h3, h4, h5, h6, h7⟩ := h.rows g hg
    exact ⟨r, cur, h1, h2, h3, h4, h5, h6, fun id hid => h7 id (hne _ hid)⟩
  · rcases hb with ⟨id, h1, h2⟩ | hb
    · exact .inl ⟨id, hne _ h1, h2⟩
    · exact .inr hb

end Go.Pv
