/- What the operations on memory do to an abstract memory: a new box, a store, a new row, an append. -/
import Derived.Test.YtlcacobkiglmbaaPvA
import Derived.Laws.CopyRow
import Derived.Laws.Tables
namespace Go.Pv
open Go

theorem InvS.dom {w : World} {E : Env} {s : Nat → Option Blk} {k : Nat → Tk} (h : InvS w E s k) {id : Nat} (hs : s id ≠ none) : ∃ b, E.μ id = some b ∧ b < w.heap.size := by
  match hb : s id with
  | none => exact absurd hb hs
  | some (.cells cs) =>
    obtain ⟨b, cur, ty, h1, h2, _⟩ := h.cells id cs hb
    exact ⟨b, h1, (Array.getElem?_eq_some_iff.1 h2).1⟩
  | some (.map es) =>
    obtain ⟨b, cur, ty, h1, h2, _⟩ := h.maps id es hb
    exact ⟨b, h1, (Array.getElem?_eq_some_iff.1 h2).1⟩
theorem InvS.mut_lt {w : World} {E : Env} {s : Nat → Option Blk} {k : Nat → Tk} (h : InvS w E s k) {b : Nat} (hb : Mut E s k b) : b < w.heap.size := by
  rcases hb with ⟨id, h1, h2⟩ | ⟨g, r, h1, h2, rfl⟩
  · obtain ⟨b', h3, h4⟩ := h.dom h1
    rw [h2] at h3
    cases h3
    exact h4
  · obtain ⟨r', cur, h3, h4, _⟩ := h.rows g h1
    rw [h2] at h3
    cases h3
    exact (Array.getElem?_eq_some_iff.1 h4).1
theorem InvS.prot_lt {w : World} {E : Env} {s : Nat → Option Blk} {k : Nat → Tk} (h : InvS w E s k) {b o : Nat} (hb : E.F b o) : b < w.heap.size := by
  obtain ⟨v, hv⟩ := h.prot b o hb
  exact World.block_lt_of_cell? w ⟨b, o, none⟩ hv
/-- What is protected lies in no box. -/
theorem InvS.prot_box {w : World} {E : Env} {s : Nat → Option Blk} {k : Nat → Tk} (h : InvS w E s k) {b o id : Nat} (hb : E.F b o) (hs : s id ≠ none) : E.μ id ≠ some b := by
  intro hm
  match hx : s id with
  | none => exact hs hx
  | some (.cells cs) =>
    obtain ⟨b', cur, ty, h1, h2, _, _, _, h3⟩ := h.cells id cs hx
    rw [hm] at h1
    cases h1
    exact h3 o hb
  | some (.map es) =>
    obtain ⟨b', vs, clock, h1, h2, _⟩ := h.maps id es hx
    rw [hm] at h1
    cases h1
    obtain ⟨v, hv⟩ := h.prot b o hb
    simp [World.cell?, h2] at hv

/-! ### A new box -/
theorem InvS.box {w : World} {E : Env} {s : Nat → Option Blk} {k : Nat → Tk} (h : InvS w E s k) {id : Nat} (hμ : E.μ id = none) (cur : Array Value) (ty : TypeId) (cs : List A)
    (hsz : cur.size = cs.length) (h1 : ∀ j, j < cs.length → (cur.getD j Go.undef).oneCell' = true) (hr : ∀ j x, cs[j]? = some x → RelP w E k x (cur.getD j Go.undef)) :
    Reach w E s k (w.alloc (.cells cur ty)) { E with μ := upd E.μ id (some w.heap.size) } (upd s id (some (.cells cs))) k := by
  have hsid : s id = none := by
    cases hs : s id with
    | none => rfl
    | some x =>
      obtain ⟨b, h2, _⟩ := h.dom (id := id) (by simp [hs])
      rw [hμ] at h2
      cases h2
  have hold : ∀ (b : Nat) (o : Obj), w.heap[b]? = some o → (w.alloc (.cells cur ty)).heap[b]? = some o := fun b o hb =>
    (heap_alloc_old w _ b (Array.getElem?_eq_some_iff.1 hb).1).trans hb
  have hext : Ext w E k (w.alloc (.cells cur ty)) { E with μ := upd E.μ id (some w.heap.size) } k :=
    ⟨fun b o hb => ⟨hb, World.cell?_alloc_lt w _ ⟨b, o, none⟩ (h.prot_lt hb)⟩, fun i b hb => by
      by_cases e : i = id
      · subst e; rw [hμ] at hb; cases hb
      · simpa [upd, e] using hb, fun _ hg => ⟨hg, fun hl => ⟨hl, rfl⟩⟩⟩
  refine ⟨⟨?_, ?_, ?_, ?_, h.rinj, ?_, ?_⟩, hext, ⟨rfl, rfl, rfl, by simp, fun b hb _ => heap_alloc_old w _ b hb⟩, ?_, fun _ _ h => .inl h⟩
  · intro i cs' hi
    by_cases e : i = id
    · subst e
      simp only [upd_same, Option.some.injEq, Blk.cells.injEq] at hi
      subst hi
      exact ⟨w.heap.size, cur, ty, by simp [upd], heap_alloc_new w _, hsz, h1, fun j x hx => hext.relp (hr j x hx), fun o ho => absurd (h.prot_lt ho) (Nat.lt_irrefl _)⟩
    · rw [upd_other _ _ _ _ e] at hi
      obtain ⟨b, cur', ty', a1, a2, a3, a4, a5, a6⟩ := h.cells i cs' hi
      exact ⟨b, cur', ty', hext.μ i b a1, hold _ _ a2, a3, a4, fun j x hx => hext.relp (a5 j x hx), a6⟩
  · intro i es hi
    by_cases e : i = id
    · subst e
      simp [upd] at hi
    · rw [upd_other _ _ _ _ e] at hi
      obtain ⟨b, vs, clock, a1, a2, a3, a4⟩ := h.maps i es hi
      refine ⟨b, vs, clock, hext.μ i b a1, hold _ _ a2, a3, fun j a x hx => ?_⟩
      obtain ⟨e', b1, b2, b3⟩ := a4 j a x hx
      exact ⟨e', b1, hext.rel b2, hext.rel b3⟩
  · intro i i' b hi hi' hb hb'
    by_cases e : i = id <;> by_cases e' : i' = id
    · exact e.trans e'.symm
    · subst e
      simp only [upd_same, Option.some.injEq, upd_other _ _ _ _ e'] at hb hb' hi'
      obtain ⟨b', c1, c2⟩ := h.dom hi'
      rw [hb'] at c1
      cases c1
      omega
    · subst e'
      simp only [upd_same, Option.some.injEq, upd_other _ _ _ _ e] at hb hb' hi
      obtain ⟨b', c1, c2⟩ := h.dom hi
      rw [hb] at c1
      cases c1
      omega
    · simp only [upd_other _ _ _ _ e, upd_other _ _ _ _ e'] at hb hb' hi hi'
      exact h.inj i i' b hi hi' hb hb'
  · intro g hg
    obtain ⟨r, cur', a1, a2, a3, a4, a5, a6, a7⟩ := h.rows g hg
    refine ⟨r, cur', a1, hold _ _ a2, a3, a4, a5, a6, fun i hi hm => ?_⟩
    by_cases e : i = id
    · subst e
      simp only [upd_same, Option.some.injEq] at hm
      have := (Array.getElem?_eq_some_iff.1 a2).1
      omega
    · simp only [upd_other _ _ _ _ e] at hi hm
      exact a7 i hi hm
  · intro b o hb
    obtain ⟨v, hv⟩ := h.prot b o hb
    exact ⟨v, (hext.F b o hb).2.trans hv⟩
  · obtain ⟨N, hN⟩ := h.fin
    refine ⟨max N (id + 1), fun i hi => ⟨?_, (hN i (by omega)).2⟩⟩
    simp only [upd]
    rw [if_neg (by omega)]
    exact (hN i (by omega)).1
  · intro b hb
    rcases hb with ⟨i, c1, c2⟩ | hb
    · by_cases e : i = id
      · subst e
        simp only [upd_same, Option.some.injEq] at c2
        exact .inr (by omega)
      · simp only [upd_other _ _ _ _ e] at c1 c2
        exact .inl (.inl ⟨i, c1, c2⟩)
    · exact .inl (.inr hb)
theorem InvS.fresh {w : World} {E : Env} {s : Nat → Option Blk} {k : Nat → Tk} (h : InvS w E s k) : ∃ id, E.μ id = none ∧ s id = none ∧ k id = .unused := by
  obtain ⟨N, hN⟩ := h.fin
  refine ⟨N, (hN N (Nat.le_refl _)).1, ?_, (hN N (Nat.le_refl _)).2⟩
  cases hs : s N with
  | none => rfl
  | some x =>
    obtain ⟨b, h2, _⟩ := h.dom (id := N) (by simp [hs])
    rw [(hN N (Nat.le_refl _)).1] at h2
    cases h2

/-! ### A store into a box -/
def splice (cs : List A) (off : Nat) (ns : List A) : List A := cs.take off ++ ns ++ cs.drop (off + ns.length)
theorem getD_lists (cur : Array Value) (off : Nat) (ns : Array Value) (h : off + ns.size ≤ cur.size) (j : Nat) :
    (cur.toList.take off ++ ns.toList ++ cur.toList.drop (off + ns.size)).toArray.getD j Go.undef = if off ≤ j ∧ j < off + ns.size then ns.getD (j - off) Go.undef else cur.getD j Go.undef := by
  simp only [Array.getD_eq_getD_getElem?, List.getElem?_toArray]
  congr 1
  have hl : (cur.toList.take off).length = off := by simp; omega
  by_cases h1 : j < off
  · rw [if_neg (by omega), List.append_assoc, List.getElem?_append_left (by omega), List.getElem?_take, if_pos h1]
    simp
  · by_cases h2 : j < off + ns.size
    · rw [if_pos ⟨by omega, h2⟩, List.append_assoc, List.getElem?_append_right (by omega), hl, List.getElem?_append_left (by simp; omega)]
      simp
    · rw [if_neg (by omega), List.getElem?_append_right (by simp only [List.length_append, hl, Array.length_toList]; omega), List.getElem?_drop]
      simp only [List.length_append, hl, Array.length_toList, Array.getElem?_toList]
      rw [show off + ns.size + (j - (off + ns.size)) = j from by omega]
theorem splice_get (cs ns : List A) (off : Nat) (h : off + ns.length ≤ cs.length) (j : Nat) :
    (splice cs off ns)[j]? = if off ≤ j ∧ j < off + ns.length then ns[j - off]? else cs[j]? := by
  unfold splice
  have hl : (cs.take off).length = off := by simp; omega
  by_cases h1 : j < off
  · rw [if_neg (by omega), List.append_assoc, List.getElem?_append_left (by omega), List.getElem?_take, if_pos h1]
  · by_cases h2 : j < off + ns.length
    · rw [if_pos ⟨by omega, h2⟩, List.append_assoc, List.getElem?_append_right (by omega), hl, List.getElem?_append_left (by omega)]
    · rw [if_neg (by omega), List.getElem?_append_right (by simp only [List.length_append, hl]; omega), List.getElem?_drop]
      simp only [List.length_append, hl]
      congr 1
      omega
theorem splice_length (cs ns : List A) (off : Nat) (h : off + ns.length ≤ cs.length) : (splice cs off ns).length = cs.length := by
  unfold splice
  simp only [List.length_append, List.length_take, List.length_drop]
  omega
theorem InvS.store {w : World} {E : Env} {s : Nat → Option Blk} {k : Nat → Tk} (h : InvS w E s k) {P : Program} {id b : Nat} {cs : List A} (hs : s id = some (.cells cs)) (hb : E.μ id = some b) (off : Nat) (ns : List A) (vs : Array Value)
    (hsz : vs.size = ns.length) (hfit : off + ns.length ≤ cs.length) (h1 : ∀ j, j < ns.length → (vs.getD j Go.undef).oneCell' = true) (hr : ∀ j x, ns[j]? = some x → RelP w E k x (vs.getD j Go.undef)) :
    ∃ w', (storeCells ⟨b, off, none⟩ vs.toList).run P w = .ok () w' ∧ Reach w E s k w' E (upd s id (some (.cells (splice cs off ns)))) k := by
  obtain ⟨b', cur, ty, a1, a2, a3, a4, a5, a6⟩ := h.cells id cs hs
  rw [hb] at a1
  cases a1
  have hne : s id ≠ none := by simp [hs]
  have hone : ∀ v ∈ vs.toList, v.oneCell' = true := by
    intro v hv
    obtain ⟨j, hj, rfl⟩ := List.getElem_of_mem hv
    have := h1 j (by simp at hj; omega)
    rwa [Array.getD_eq_getD_getElem?, Array.getElem?_eq_getElem (by simpa using hj)] at this
  have hrun := run_storeCells_at P b off ty vs.toList 0 cur w a2 (by simp; omega) hone
  simp only [Nat.add_zero, Array.length_toList] at hrun
  refine ⟨_, hrun, ?_⟩
  generalize hN : (cur.toList.take off ++ vs.toList ++ cur.toList.drop (off + vs.size)).toArray = new at hrun ⊢
  have hnsz : new.size = cs.length := by
    rw [← hN]
    simp
    omega
  have hnew : ∀ j, new.getD j Go.undef = if off ≤ j ∧ j < off + ns.length then vs.getD (j - off) Go.undef else cur.getD j Go.undef := by
    intro j
    rw [← hN, getD_lists cur off vs (by omega) j, hsz]
  have hheap : (w.setRow b new).heap[b]? = some (.cells new ty (0, 0)) := setRow_heap w b cur new ty (0, 0) a2
  have hoth : ∀ i, i ≠ b → (w.setRow b new).heap[i]? = w.heap[i]? := fun i hi => setRow_other w b i new hi
  have hext : Ext w E k (w.setRow b new) E k := ⟨fun c o hc => ⟨hc, World.cell?_of_block (hoth c (fun e => by subst e; exact a6 o hc))⟩, fun _ _ h => h, fun _ h => ⟨h, fun h => ⟨h, rfl⟩⟩⟩
  refine ⟨⟨?_, ?_, ?_, ?_, h.rinj, ?_, h.fin⟩, hext, ⟨rfl, rfl, rfl, by simp, fun i hi hm => hoth i (fun e => hm (.inl ⟨id, hne, by rw [hb, e]⟩))⟩, ?_, fun _ _ h => .inl h⟩
  · intro i cs' hi
    by_cases e : i = id
    · subst e
      simp only [upd_same, Option.some.injEq, Blk.cells.injEq] at hi
      subst hi
      refine ⟨b, new, ty, hb, hheap, by rw [hnsz, splice_length _ _ _ hfit], fun j hj => ?_, fun j x hx => hext.relp ?_, a6⟩
      · rw [hnew]
        split
        · exact h1 _ (by omega)
        · exact a4 j (by rw [splice_length _ _ _ hfit] at hj; exact hj)
      · rw [splice_get _ _ _ hfit] at hx
        rw [hnew]
        split at hx
        · rename_i hj; rw [if_pos hj]; exact hr _ x hx
        · rename_i hj; rw [if_neg hj]; exact a5 j x hx
    · rw [upd_other _ _ _ _ e] at hi
      obtain ⟨b', cur', ty', c1, c2, c3, c4, c5, c6⟩ := h.cells i cs' hi
      refine ⟨b', cur', ty', c1, (hoth b' (fun e' => ?_)).trans c2, c3, c4, fun j x hx => hext.relp (c5 j x hx), c6⟩
      subst e'
      exact e (h.inj i id b' (by rw [hi]; exact fun h => by cases h) hne c1 hb)
  · intro i es hi
    by_cases e : i = id
    · subst e; simp [upd] at hi
    · rw [upd_other _ _ _ _ e] at hi
      obtain ⟨b', vs', clock, c1, c2, c3, c4⟩ := h.maps i es hi
      refine ⟨b', vs', clock, c1, (hoth b' (fun e' => ?_)).trans c2, c3, fun j a x hx => ?_⟩
      · subst e'
        exact e (h.inj i id b' (by rw [hi]; exact fun h => by cases h) hne c1 hb)
      · obtain ⟨e', d1, d2, d3⟩ := c4 j a x hx
        exact ⟨e', d1, hext.rel d2, hext.rel d3⟩
  · intro i i' c hi hi'
    refine h.inj i i' c (fun hx => hi ?_) (fun hx => hi' ?_)
    · by_cases e : i = id
      · subst e; rw [hs] at hx; cases hx
      · rw [upd_other _ _ _ _ e]; exact hx
    · by_cases e : i' = id
      · subst e; rw [hs] at hx; cases hx
      · rw [upd_other _ _ _ _ e]; exact hx
  · intro g hg
    obtain ⟨r, cur', c1, c2, c3, c4, c5, c6, c7⟩ := h.rows g hg
    refine ⟨r, cur', c1, (hoth r.b (fun e => ?_)).trans c2, c3, c4, c5, c6, fun i hi => ?_⟩
    · exact c7 id hne (by rw [hb, e])
    · by_cases e : i = id
      · subst e; exact c7 i hne
      · rw [upd_other _ _ _ _ e] at hi; exact c7 i hi
  · intro c o hc
    obtain ⟨v, hv⟩ := h.prot c o hc
    exact ⟨v, (hext.F c o hc).2.trans hv⟩
  · intro c hc
    rcases hc with ⟨i, c1, c2⟩ | hc
    · by_cases e : i = id
      · subst e; exact .inl (.inl ⟨i, hne, c2⟩)
      · rw [upd_other _ _ _ _ e] at c1; exact .inl (.inl ⟨i, c1, c2⟩)
    · exact .inl (.inr hc)

end Go.Pv
