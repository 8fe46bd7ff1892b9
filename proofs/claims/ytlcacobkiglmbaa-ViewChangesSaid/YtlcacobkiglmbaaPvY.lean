/- Ranges over maps: the code's form, the iterator, what is left. -/
import Derived.Test.YtlcacobkiglmbaaPvQ
import Derived.Maps.RangeRun
set_option linter.unusedVariables false
set_option linter.unusedSimpArgs false
namespace Go.Pv
open Go
open Go.ChangeMaps (setBlock)

/-! ### The code's form -/
def isRange (o : Oper) : Option (TypeId × Nat × Nat) := match o.op, o.dst, o.guard with
  | .range t (.tmp ml), some it, none => some (t, ml, it)
  | _, _, _ => none
def isNext (o : Oper) : Option (Nat × Nat) := match o.op, o.dst, o.guard with
  | .next (.tmp it) false, some nx, none => some (it, nx)
  | _, _, _ => none
def isExt (o : Oper) : Option (Nat × Nat) := match o.op, o.dst, o.guard with
  | .extract (.tmp x) 0, some d, none => some (x, d)
  | _, _, _ => none
def isEntry (o : Oper) : Option (Nat × Nat) := match o.op, o.dst, o.guard with
  | .entry (.tmp it), some d, none => some (it, d)
  | _, _, _ => none
def isAsg (o : Oper) : Option (Nat × Nat) := match o.op, o.dst, o.guard with
  | .assign (.tmp x), some d, none => some (x, d)
  | _, _, _ => none
theorem isRange_spec {o : Oper} {t : TypeId} {ml it : Nat} (h : isRange o = some (t, ml, it)) : o.op = .range t (.tmp ml) ∧ o.dst = some it ∧ o.guard = none := by
  unfold isRange at h
  split at h
  · cases h; exact ⟨‹_›, ‹_›, ‹_›⟩
  · cases h
theorem isNext_spec {o : Oper} {it nx : Nat} (h : isNext o = some (it, nx)) : o.op = .next (.tmp it) false ∧ o.dst = some nx ∧ o.guard = none := by
  unfold isNext at h
  split at h
  · cases h; exact ⟨‹_›, ‹_›, ‹_›⟩
  · cases h
theorem isExt_spec {o : Oper} {x d : Nat} (h : isExt o = some (x, d)) : o.op = .extract (.tmp x) 0 ∧ o.dst = some d ∧ o.guard = none := by
  unfold isExt at h
  split at h
  · cases h; exact ⟨‹_›, ‹_›, ‹_›⟩
  · cases h
theorem isEntry_spec {o : Oper} {x d : Nat} (h : isEntry o = some (x, d)) : o.op = .entry (.tmp x) ∧ o.dst = some d ∧ o.guard = none := by
  unfold isEntry at h
  split at h
  · cases h; exact ⟨‹_›, ‹_›, ‹_›⟩
  · cases h
theorem isAsg_spec {o : Oper} {x d : Nat} (h : isAsg o = some (x, d)) : o.op = .assign (.tmp x) ∧ o.dst = some d ∧ o.guard = none := by
  unfold isAsg at h
  split at h
  · cases h; exact ⟨‹_›, ‹_›, ‹_›⟩
  · cases h
def isMapT (P : Program) (t : TypeId) : Bool := match P.underlying t with
  | some (.map _ _) => true
  | _ => false
def rngOf (P : Program) (B : List Nat) (n : Nat) (x y : Code) : Option (Rng × Code) :=
  match x, y with
  | .region _ ops1 false, .block i (.loop (.seq (.region _ ops2 false) (.seq (.cond (.tmp c0) .skip (.exit i0)) (.block j (.seq (.region _ ops3 false) body))))) => do
    let o2 ← ops1.toList.getLast?
    let pre ← ops1.toList.dropLast.mapM (trPI P B ops1 n false)
    let (t, ml, it) ← isRange o2
    match ops2.toList, ops3.toList with
    | [o3, o4], [o5, o6, o7] => do
      let (it3, nx) ← isNext o3
      let (nx4, c) ← isExt o4
      let (it5, e) ← isEntry o5
      let (e6, f) ← isExt o6
      let (f7, ks) ← isAsg o7
      if isMapT P t && it3 = it && nx4 = nx && it5 = it && e6 = e && f7 = f && c0 = c && i0 = i && nx != it && c != it && it < n && nx < n && c < n && e < n && f < n && ks < n then
        some (⟨pre, ml, it, nx, c, e, f, ks, i, j⟩, body) else none
    | _, _ => none
  | _, _ => none
structure RngOK (P : Program) (B : List Nat) (n : Nat) (x y : Code) (r : Rng) (body : Code) (id1 id2 id3 : Nat) (ops1 ops2 ops3 : Array Oper) (l : List Oper) (o2 o3 o4 o5 o6 o7 : Oper) (t : TypeId) : Prop where
  ex : x = .region id1 ops1 false
  ey : y = .block r.i (.loop (.seq (.region id2 ops2 false) (.seq (.cond (.tmp r.c) .skip (.exit r.i)) (.block r.j (.seq (.region id3 ops3 false) body)))))
  l1 : ops1.toList = l ++ [o2]
  pre : l.mapM (trPI P B ops1 n false) = some r.pre
  l2 : ops2.toList = [o3, o4]
  l3 : ops3.toList = [o5, o6, o7]
  h2 : isRange o2 = some (t, r.ml, r.it)
  h3 : isNext o3 = some (r.it, r.nx)
  h4 : isExt o4 = some (r.nx, r.c)
  h5 : isEntry o5 = some (r.it, r.e)
  h6 : isExt o6 = some (r.e, r.f)
  h7 : isAsg o7 = some (r.f, r.ks)
  ht : isMapT P t = true
  n1 : r.nx ≠ r.it
  n2 : r.c ≠ r.it
  bit : r.it < n
  bnx : r.nx < n
  bc : r.c < n
  be : r.e < n
  bf : r.f < n
  bks : r.ks < n
theorem rngOf_spec {P : Program} {B : List Nat} {n : Nat} {x y : Code} {r : Rng} {body : Code} (h : rngOf P B n x y = some (r, body)) :
    ∃ id1 id2 id3 ops1 ops2 ops3 l o2 o3 o4 o5 o6 o7 t, RngOK P B n x y r body id1 id2 id3 ops1 ops2 ops3 l o2 o3 o4 o5 o6 o7 t := by
  unfold rngOf at h
  split at h
  · rename_i id1 ops1 i id2 ops2 c0 i0 j id3 ops3 body'
    simp only [Option.bind_eq_bind, Option.bind_eq_some_iff] at h
    obtain ⟨o2, ho2, pre, hpre, ⟨t, ml, it⟩, hr, h⟩ := h
    split at h
    · rename_i o3 o4 o5 o6 o7 e2 e3
      simp only [Option.bind_eq_bind, Option.bind_eq_some_iff] at h
      obtain ⟨⟨it3, nx⟩, h3, ⟨nx4, c⟩, h4, ⟨it5, e⟩, h5, ⟨e6, f⟩, h6, ⟨f7, ks⟩, h7, h⟩ := h
      split at h
      · rename_i hc
        simp only [Bool.and_eq_true, decide_eq_true_eq, bne_iff_ne, ne_eq] at hc
        obtain ⟨⟨⟨⟨⟨⟨⟨⟨⟨⟨⟨⟨⟨⟨⟨c1, c2⟩, c3⟩, c4⟩, c5⟩, c6⟩, c7⟩, c8⟩, c9⟩, c10⟩, c11⟩, c12⟩, c13⟩, c14⟩, c15⟩, c16⟩ := hc
        subst c2 c3 c4 c5 c6 c7 c8
        cases h
        have hl : ops1.toList = ops1.toList.dropLast ++ [o2] := by
          have hne : ops1.toList ≠ [] := by intro e; rw [e] at ho2; cases ho2
          rw [List.getLast?_eq_some_getLast hne] at ho2
          cases ho2
          exact (List.dropLast_concat_getLast hne).symm
        exact ⟨id1, id2, id3, ops1, ops2, ops3, _, o2, o3, o4, o5, o6, o7, t, rfl, rfl, hl, hpre, e2, e3, hr, h3, h4, h5, h6, h7, c1, c9, c10, c11, c12, c13, c14, c15, c16⟩
      · cases h
    · cases h
  · cases h

/-! ### What is left -/
/-- The entries that are left, abstract and of the world. -/
def LeftR (w : World) (E : Env) (left : List (A × A)) (L : List MapEntry) : Prop := left.length = L.length ∧ ∀ (i : Nat) (a x : A), left[i]? = some (a, x) → ∃ e : MapEntry, L[i]? = some e ∧ Rel w E a e.key ∧ Rel w E x e.val
theorem LeftR.ext {w w' : World} {E E' : Env} {k k' : Nat → Tk} {left : List (A × A)} {L : List MapEntry} (h : LeftR w E left L) (e : Ext w E k w' E' k') : LeftR w' E' left L :=
  ⟨h.1, fun i a x hx => by obtain ⟨m, h1, h2, h3⟩ := h.2 i a x hx; exact ⟨m, h1, e.rel h2, e.rel h3⟩⟩
theorem LeftR.erase {w : World} {E : Env} {left : List (A × A)} {L : List MapEntry} (h : LeftR w E left L) (n : Nat) : LeftR w E (left.eraseIdx n) (L.eraseIdx n) := by
  refine ⟨by rw [List.length_eraseIdx, List.length_eraseIdx, h.1], fun i a x hx => ?_⟩
  rw [List.getElem?_eraseIdx] at hx ⊢
  split at hx
  · rename_i c; rw [if_pos c]; exact h.2 i a x hx
  · rename_i c; rw [if_neg c]; exact h.2 _ a x hx
theorem filter_erase {l : List MapEntry} (hn : (l.map (·.born)).Nodup) : ∀ {j : Nat} {e : MapEntry}, l[j]? = some e → l.filter (fun x => !(x.born == e.born)) = l.eraseIdx j := by
  induction l with
  | nil => intro j e h; cases h
  | cons x l ih =>
    intro j e h
    rw [List.map_cons, List.nodup_cons] at hn
    cases j with
    | zero =>
      simp at h
      subst h
      rw [List.filter_cons_of_neg (by simp), List.eraseIdx_zero, List.tail_cons, List.filter_eq_self]
      intro y hy
      have : y.born ≠ x.born := fun e => hn.1 (e ▸ List.mem_map.2 ⟨y, hy, rfl⟩)
      simpa using this
    | succ j =>
      simp at h
      have hm : e ∈ l := List.mem_of_getElem? h
      have : x.born ≠ e.born := fun e' => hn.1 (e' ▸ List.mem_map.2 ⟨e, hm, rfl⟩)
      rw [List.filter_cons_of_pos (by simpa using this), List.eraseIdx_cons_succ, ih hn.2 h]
theorem left_push {vs : Array MapEntry} {seen : Array Nat} (hn : (vs.toList.map (·.born)).Nodup) {j : Nat} {e : MapEntry} (h : (leftOf vs seen).toList[j]? = some e) : (leftOf vs (seen.push e.born)).toList = (leftOf vs seen).toList.eraseIdx j := by
  have hn' : ((leftOf vs seen).toList.map (·.born)).Nodup := by
    unfold leftOf
    rw [Array.toList_filter]
    exact hn.sublist (List.filter_sublist.map _)
  rw [← filter_erase hn' h]
  unfold leftOf
  rw [Array.toList_filter, Array.toList_filter, List.filter_filter]
  congr 1
  funext x
  rw [contains_push, Bool.not_or, Bool.and_comm]

/-! ### A block turns that nobody has -/
theorem InvS.other {w : World} {E : Env} {s : Nat → Option Blk} {k : Nat → Tk} (h : InvS w E s k) {r : Nat} {o : Obj} (hlt : r < w.heap.size) (hm : ¬ Mut E s k r) (hf : ∀ q, ¬ E.F r q) : InvS (setBlock w r o) E s k ∧ Ext w E k (setBlock w r o) E k := by
  have hoth : ∀ i, i ≠ r → (setBlock w r o).heap[i]? = w.heap[i]? := fun i hi => by
    simp only [setBlock]
    rw [Array.getElem?_setIfInBounds_ne (fun e => hi e.symm)]
  have hext : Ext w E k (setBlock w r o) E k := ⟨fun c q hc => ⟨hc, World.cell?_of_block (hoth c (fun e => by subst e; exact hf q hc))⟩, fun _ _ h => h, fun _ h => ⟨h, fun h => ⟨h, rfl⟩⟩⟩
  have hbox : ∀ id b, s id ≠ none → E.μ id = some b → b ≠ r := fun id b h1 h2 e => hm (.inl ⟨id, h1, e ▸ h2⟩)
  refine ⟨⟨fun id cs hs => ?_, fun id es hs => ?_, h.inj, fun g hg => ?_, h.rinj, fun b q hb => ?_, h.fin⟩, hext⟩
  · obtain ⟨b, cur, ty, h1, h2, h3, h4, h5, h6⟩ := h.cells id cs hs
    exact ⟨b, cur, ty, h1, (hoth b (hbox id b (by rw [hs]; simp) h1)).trans h2, h3, h4, fun j x hx => hext.relp (h5 j x hx), h6⟩
  · obtain ⟨b, vs, clock, h1, h2, h3, h4⟩ := h.maps id es hs
    refine ⟨b, vs, clock, h1, (hoth b (hbox id b (by rw [hs]; simp) h1)).trans h2, h3, fun i a x hx => ?_⟩
    obtain ⟨e, e1, e2, e3⟩ := h4 i a x hx
    exact ⟨e, e1, hext.rel e2, hext.rel e3⟩
  · obtain ⟨q, cur, h1, h2, h3⟩ := h.rows g hg
    exact ⟨q, cur, h1, (hoth q.b (fun e => hm (.inr ⟨g, q, hg, h1, e⟩))).trans h2, h3⟩
  · obtain ⟨v, hv⟩ := h.prot b q hb
    exact ⟨v, (hext.F b q hb).2.trans hv⟩
theorem Reach.turn {w0 w : World} {E0 E : Env} {s0 s : Nat → Option Blk} {k0 k : Nat → Tk} (h : Reach w0 E0 s0 k0 w E s k) {r : Nat} {o : Obj} (h0 : w0.heap.size ≤ r) (hlt : r < w.heap.size) (hm : ¬ Mut E s k r) (hf : ∀ q, ¬ E.F r q) : Reach w0 E0 s0 k0 (setBlock w r o) E s k := by
  obtain ⟨h1, h2⟩ := h.S.other (o := o) hlt hm hf
  refine ⟨h1, h.ext.trans h2, ⟨h.agree.os, h.agree.tape, h.agree.output, by simpa [setBlock] using h.agree.size, fun i hi hy => ?_⟩, h.base, h.prot⟩
  have hne : i ≠ r := by omega
  have : (setBlock w r o).heap[i]? = w.heap[i]? := by
    simp only [setBlock]
    rw [Array.getElem?_setIfInBounds_ne (fun e => hne e.symm)]
  exact this.trans (h.agree.block i hi hy)
/-- A new block that nobody has, under a name of its own. -/
theorem InvS.named {w : World} {E : Env} {s : Nat → Option Blk} {k : Nat → Tk} (h : InvS w E s k) (o : Obj) {id : Nat} (hμ : E.μ id = none) :
    Reach w E s k (w.alloc o) { E with μ := upd E.μ id (some w.heap.size) } s k ∧ ¬ Mut { E with μ := upd E.μ id (some w.heap.size) } s k w.heap.size := by
  have hsid : s id = none := by
    cases hs : s id with
    | none => rfl
    | some x =>
      obtain ⟨b, h2, _⟩ := h.dom (id := id) (by simp [hs])
      rw [hμ] at h2
      cases h2
  have hmu : ∀ i, s i ≠ none → (upd E.μ id (some w.heap.size)) i = E.μ i := fun i hi => upd_other _ _ _ _ (fun e => hi (e ▸ hsid))
  have hr := h.agree (Agree.alloc w o)
  have hext : Ext (w.alloc o) E k (w.alloc o) { E with μ := upd E.μ id (some w.heap.size) } k :=
    ⟨fun b q hb => ⟨hb, rfl⟩, fun i b hb => by
      by_cases e : i = id
      · subst e; rw [hμ] at hb; cases hb
      · simpa [upd, e] using hb, fun _ hg => ⟨hg, fun hl => ⟨hl, rfl⟩⟩⟩
  have hmut : ∀ b, Mut { E with μ := upd E.μ id (some w.heap.size) } s k b → Mut E s k b := by
    rintro b (⟨i, h1, h2⟩ | h2)
    · exact .inl ⟨i, h1, by rw [← hmu i h1]; exact h2⟩
    · exact .inr h2
  generalize w.alloc o = w1 at hr hext
  have hS := hr.S
  have hne : ∀ i x, s i = some x → s i ≠ none := fun i x h => by rw [h]; simp
  refine ⟨hr.trans ⟨⟨fun i cs hs => ?_, fun i es hs => ?_, fun i i' b h1 h2 h3 h4 => hS.inj i i' b h1 h2 ((hmu i h1).symm.trans h3) ((hmu i' h2).symm.trans h4), fun g hg => ?_, hS.rinj, hS.prot, ?_⟩, hext, Agree.refl _ _, fun b hb => .inl (hmut b hb), fun _ _ h => .inl h⟩, fun hm => absurd (h.mut_lt (hmut _ hm)) (Nat.lt_irrefl _)⟩
  · obtain ⟨b, cur, ty, h1, h2, h3, h4, h5, h6⟩ := hS.cells i cs hs
    exact ⟨b, cur, ty, (hmu i (hne _ _ hs)).trans h1, h2, h3, h4, fun j x hx => hext.relp (h5 j x hx), h6⟩
  · obtain ⟨b, vs, clock, h1, h2, h3, h4⟩ := hS.maps i es hs
    refine ⟨b, vs, clock, (hmu i (hne _ _ hs)).trans h1, h2, h3, fun q a x hx => ?_⟩
    obtain ⟨e, e1, e2, e3⟩ := h4 q a x hx
    exact ⟨e, e1, hext.rel e2, hext.rel e3⟩
  · obtain ⟨q, cur, h1, h2, h3, h4, h5, h6, h7⟩ := hS.rows g hg
    exact ⟨q, cur, h1, h2, h3, h4, h5, h6, fun i hi => by rw [show ({ E with μ := upd E.μ id (some w.heap.size) } : Env).μ i = E.μ i from hmu i hi]; exact h7 i hi⟩
  · obtain ⟨N, hN⟩ := hS.fin
    refine ⟨max N (id + 1), fun i hi => ⟨?_, (hN i (by omega)).2⟩⟩
    simp only [upd]
    rw [if_neg (by omega)]
    exact (hN i (by omega)).1
end Go.Pv
