/- Maps of the call's own. -/
import Derived.Test.YtlcacobkiglmbaaPvJ
set_option linter.unusedVariables false
set_option linter.unusedSimpArgs false
namespace Go.Pv
open Go

theorem InvS.newmap {w : World} {E : Env} {s : Nat → Option Blk} {k : Nat → Tk} (h : InvS w E s k) {id : Nat} (hμ : E.μ id = none) :
    Reach w E s k (w.alloc (.map #[] 0)) { E with μ := upd E.μ id (some w.heap.size) } (upd s id (some (.map []))) k := by
  have hsid : s id = none := by
    cases hs : s id with
    | none => rfl
    | some x =>
      obtain ⟨b, h2, _⟩ := h.dom (id := id) (by simp [hs])
      rw [hμ] at h2
      cases h2
  have hold : ∀ (b : Nat) (o : Obj), w.heap[b]? = some o → (w.alloc (.map #[] 0)).heap[b]? = some o := fun b o hb =>
    (heap_alloc_old w _ b (Array.getElem?_eq_some_iff.1 hb).1).trans hb
  have hext : Ext w E k (w.alloc (.map #[] 0)) { E with μ := upd E.μ id (some w.heap.size) } k :=
    ⟨fun b o hb => ⟨hb, World.cell?_alloc_lt w _ ⟨b, o, none⟩ (h.prot_lt hb)⟩, fun i b hb => by
      by_cases e : i = id
      · subst e; rw [hμ] at hb; cases hb
      · simpa [upd, e] using hb, fun _ hg => ⟨hg, fun hl => ⟨hl, rfl⟩⟩⟩
  refine ⟨⟨?_, ?_, ?_, ?_, h.rinj, ?_, ?_⟩, hext, ⟨rfl, rfl, rfl, by simp, fun b hb _ => heap_alloc_old w _ b hb⟩, ?_, fun _ _ h => .inl h⟩
  · intro i cs' hi
    by_cases e : i = id
    · subst e
      simp [upd] at hi
    · rw [upd_other _ _ _ _ e] at hi
      obtain ⟨b, cur', ty', a1, a2, a3, a4, a5, a6⟩ := h.cells i cs' hi
      exact ⟨b, cur', ty', hext.μ i b a1, hold _ _ a2, a3, a4, fun j x hx => hext.relp (a5 j x hx), a6⟩
  · intro i es hi
    by_cases e : i = id
    · subst e
      simp only [upd_same, Option.some.injEq, Blk.map.injEq] at hi
      subst hi
      exact ⟨w.heap.size, #[], 0, by simp [upd], heap_alloc_new w _, ⟨rfl, by simp [Born]⟩, by simp⟩
    · rw [upd_other _ _ _ _ e] at hi
      obtain ⟨b, vs, clock, a1, a2, a3, a4⟩ := h.maps i es hi
      refine ⟨b, vs, clock, hext.μ i b a1, hold _ _ a2, a3, fun j a x hx => ?_⟩
      obtain ⟨e', b1, b2, b3⟩ := a4 j a x hx
      exact ⟨e', b1, hext.rel b2, hext.rel b3⟩
  · intro i i' b hi hi' hb hb'
    by_cases e : i = id <;> by_cases e' : i' = id
    · exact e.trans e'.symm
    · subst e
      simp only [upd_same, Option.some.injEq, upd_other _ _ _ _ e'] at hb hb' hi'
      obtain ⟨b', c1, c2⟩ := h.dom hi'
      rw [hb'] at c1
      cases c1
      omega
    · subst e'
      simp only [upd_same, Option.some.injEq, upd_other _ _ _ _ e] at hb hb' hi
      obtain ⟨b', c1, c2⟩ := h.dom hi
      rw [hb] at c1
      cases c1
      omega
    · simp only [upd_other _ _ _ _ e, upd_other _ _ _ _ e'] at hb hb' hi hi'
      exact h.inj i i' b hi hi' hb hb'
  · intro g hg
    obtain ⟨r, cur', a1, a2, a3, a4, a5, a6, a7⟩ := h.rows g hg
    refine ⟨r, cur', a1, hold _ _ a2, a3, a4, a5, a6, fun i hi hm => ?_⟩
    by_cases e : i = id
    · subst e
      simp only [upd_same, Option.some.injEq] at hm
      have := (Array.getElem?_eq_some_iff.1 a2).1
      omega
    · simp only [upd_other _ _ _ _ e] at hi hm
      exact a7 i hi hm
  · intro b o hb
    obtain ⟨v, hv⟩ := h.prot b o hb
    exact ⟨v, (hext.F b o hb).2.trans hv⟩
  · obtain ⟨N, hN⟩ := h.fin
    refine ⟨max N (id + 1), fun i hi => ⟨?_, (hN i (by omega)).2⟩⟩
    simp only [upd]
    rw [if_neg (by omega)]
    exact (hN i (by omega)).1
  · intro b hb
    rcases hb with ⟨i, c1, c2⟩ | hb
    · by_cases e : i = id
      · subst e
        simp only [upd_same, Option.some.injEq] at c2
        exact .inr (by omega)
      · simp only [upd_other _ _ _ _ e] at c1 c2
        exact .inl (.inl ⟨i, c1, c2⟩)
    · exact .inl (.inr hb)

theorem born_push {vs : Array MapEntry} {clock : Nat} (h : Born vs clock) (x y : Value) : Born (vs.push { key := x, val := y, born := clock }) (clock + 1) := by
  obtain ⟨h1, h2⟩ := h
  refine ⟨fun e he => ?_, ?_⟩
  · simp only [Array.toList_push, List.mem_append, List.mem_singleton] at he
    rcases he with he | rfl
    · have := h1 e he; omega
    · exact Nat.lt_succ_self _
  · rw [Array.toList_push, List.map_append, List.nodup_append]
    refine ⟨h2, by simp, fun a ha b hb => ?_⟩
    obtain ⟨e, he, rfl⟩ := List.mem_map.1 ha
    have := h1 e he
    simp at hb
    omega
theorem born_modify {vs : Array MapEntry} {clock : Nat} (h : Born vs clock) (i : Nat) (x y : Value) : Born (vs.modify i fun e => { e with key := x, val := y }) clock := by
  have e : (vs.modify i fun e => { e with key := x, val := y }).toList.map (·.born) = vs.toList.map (·.born) := by
    apply List.ext_getElem?
    intro j
    simp only [List.getElem?_map, Array.getElem?_toList, Array.getElem?_modify]
    split
    · cases vs[j]? <;> rfl
    · rfl
  obtain ⟨h1, h2⟩ := h
  refine ⟨fun a ha => ?_, by rw [e]; exact h2⟩
  have : a.born ∈ vs.toList.map (·.born) := by rw [← e]; exact List.mem_map.2 ⟨a, ha, rfl⟩
  obtain ⟨b, hb, hab⟩ := List.mem_map.1 this
  rw [← hab]
  exact h1 b hb

/-- A map is written. -/
def setBlk (w : World) (b : Nat) (o : Obj) : World := { w with heap := w.heap.setIfInBounds b o }
theorem setBlk_same (w : World) (b : Nat) (o o' : Obj) (h : w.heap[b]? = some o') : (setBlk w b o).heap[b]? = some o := by
  have := (Array.getElem?_eq_some_iff.1 h).1
  simp [setBlk, this]
theorem setBlk_other (w : World) (b i : Nat) (o : Obj) (h : i ≠ b) : (setBlk w b o).heap[i]? = w.heap[i]? := by
  simp only [setBlk]
  rw [Array.getElem?_setIfInBounds_ne (fun e => h e.symm)]
theorem InvS.setmap {w : World} {E : Env} {s : Nat → Option Blk} {k : Nat → Tk} (h : InvS w E s k) {id b : Nat} {es es' : List (A × A)} (hs : s id = some (.map es)) (hb : E.μ id = some b) (vs' : Array MapEntry) (clock' : Nat)
    (hsz : vs'.size = es'.length ∧ Born vs' clock') (hr : ∀ (i : Nat) (a x : A), es'[i]? = some (a, x) → ∃ e : MapEntry, vs'[i]? = some e ∧ Rel w E a e.key ∧ Rel w E x e.val) :
    Reach w E s k (setBlk w b (.map vs' clock')) E (upd s id (some (.map es'))) k := by
  obtain ⟨b', vs, clock, a1, a2, a3, a4⟩ := h.maps id es hs
  rw [hb] at a1
  cases a1
  have hne : s id ≠ none := by simp [hs]
  have hheap := setBlk_same w b (.map vs' clock') _ a2
  have hoth : ∀ i, i ≠ b → (setBlk w b (.map vs' clock')).heap[i]? = w.heap[i]? := fun i hi => setBlk_other w b i _ hi
  have hF : ∀ c o, E.F c o → c ≠ b := fun c o hc e => h.prot_box hc hne (e ▸ hb)
  have hext : Ext w E k (setBlk w b (.map vs' clock')) E k := ⟨fun c o hc => ⟨hc, World.cell?_of_block (hoth c (hF c o hc))⟩, fun _ _ h => h, fun _ h => ⟨h, fun h => ⟨h, rfl⟩⟩⟩
  refine ⟨⟨?_, ?_, ?_, ?_, h.rinj, ?_, h.fin⟩, hext, ⟨rfl, rfl, rfl, by simp [setBlk], fun i hi hm => hoth i (fun e => hm (.inl ⟨id, hne, by rw [hb, e]⟩))⟩, ?_, fun _ _ h => .inl h⟩
  · intro i cs' hi
    by_cases e : i = id
    · subst e; simp [upd] at hi
    · rw [upd_other _ _ _ _ e] at hi
      obtain ⟨b', cur', ty', c1, c2, c3, c4, c5, c6⟩ := h.cells i cs' hi
      refine ⟨b', cur', ty', c1, (hoth b' (fun e' => ?_)).trans c2, c3, c4, fun j x hx => hext.relp (c5 j x hx), c6⟩
      subst e'
      exact e (h.inj i id b' (by simp [hi]) hne c1 hb)
  · intro i es1 hi
    by_cases e : i = id
    · subst e
      simp only [upd_same, Option.some.injEq, Blk.map.injEq] at hi
      subst hi
      refine ⟨b, vs', clock', hb, hheap, hsz, fun j a x hx => ?_⟩
      obtain ⟨e', d1, d2, d3⟩ := hr j a x hx
      exact ⟨e', d1, hext.rel d2, hext.rel d3⟩
    · rw [upd_other _ _ _ _ e] at hi
      obtain ⟨b', vs1, clock1, c1, c2, c3, c4⟩ := h.maps i es1 hi
      refine ⟨b', vs1, clock1, c1, (hoth b' (fun e' => ?_)).trans c2, c3, fun j a x hx => ?_⟩
      · subst e'
        exact e (h.inj i id b' (by simp [hi]) hne c1 hb)
      · obtain ⟨e', d1, d2, d3⟩ := c4 j a x hx
        exact ⟨e', d1, hext.rel d2, hext.rel d3⟩
  · intro i i' c hi hi'
    refine h.inj i i' c (fun hx => hi ?_) (fun hx => hi' ?_)
    · by_cases e : i = id
      · subst e; rw [hs] at hx; cases hx
      · rw [upd_other _ _ _ _ e]; exact hx
    · by_cases e : i' = id
      · subst e; rw [hs] at hx; cases hx
      · rw [upd_other _ _ _ _ e]; exact hx
  · intro g hg
    obtain ⟨r, cur', c1, c2, c3, c4, c5, c6, c7⟩ := h.rows g hg
    refine ⟨r, cur', c1, (hoth r.b (fun e => ?_)).trans c2, c3, c4, c5, c6, fun i hi => ?_⟩
    · exact c7 id hne (by rw [hb, e])
    · by_cases e : i = id
      · subst e; exact c7 i hne
      · rw [upd_other _ _ _ _ e] at hi; exact c7 i hi
  · intro c o hc
    obtain ⟨v, hv⟩ := h.prot c o hc
    exact ⟨v, (hext.F c o hc).2.trans hv⟩
  · intro c hc
    rcases hc with ⟨i, c1, c2⟩ | hc
    · by_cases e : i = id
      · subst e; exact .inl (.inl ⟨i, hne, c2⟩)
      · rw [upd_other _ _ _ _ e] at c1; exact .inl (.inl ⟨i, c1, c2⟩)
    · exact .inl (.inr hc)

/-! ### Keys -/
def basicKey (P : Program) (t : TypeId) : Bool :=
  match P.underlying t with
  | some .string => true
  | some (.int _) => true
  | _ => false
theorem run_checkKey {P : Program} {w : World} {t : TypeId} (h : basicKey P t = true) (e : Bool) (n : Nat) (v : Value) : (Instr.checkKey e (n + 1) t v).run P w = .ok () w := by
  unfold basicKey at h
  split at h
  · rename_i hu; simp [Instr.checkKey, run_underlying hu]
  · rename_i k hu; simp [Instr.checkKey, run_underlying hu]
  · cases h
/-- Which key a type takes. -/
def keyFits (P : Program) (t : TypeId) : A → Bool
  | .str _ => match P.underlying t with
    | some .string => true
    | _ => false
  | .int k _ => match P.underlying t with
    | some (.int k') => decide (k = k')
    | _ => false
  | _ => false
theorem findNow_find {P : Program} {w : World} {E : Env} {d : TypeDesc} {x : A} {u : Value} (hx : Rel w E x u) (hd : (∃ s, x = A.str s ∧ d = .string) ∨ (∃ k n k', x = A.int k n ∧ d = .int k')) : ∀ (es : List (A × A)) (vs : List MapEntry) (i0 : Nat),
    vs.length = es.length → (∀ (i : Nat) (a y : A), es[i]? = some (a, y) → ∃ e : MapEntry, vs[i]? = some e ∧ Rel w E a e.key ∧ Rel w E y e.val) →
    (∀ (i : Nat) (a y : A), es[i]? = some (a, y) → (∃ s, x = A.str s ∧ ∃ s', a = A.str s') ∨ (∃ k n n', x = A.int k n ∧ a = A.int k n')) →
    match findA x es with
    | some y => ∃ i v, Instr.findNow d u vs i0 = some (some (i0 + i, v)) ∧ Rel w E y v ∧ (∃ a, es[i]? = some (a, y) ∧ keyEq x a = true) ∧ ∀ (j : Nat) (a y : A), j < i → es[j]? = some (a, y) → keyEq x a = false
    | none => Instr.findNow d u vs i0 = some none ∧ ∀ (j : Nat) (a y : A), es[j]? = some (a, y) → keyEq x a = false
  | [], [], i0, _, _, _ => by simp [findA, Instr.findNow]
  | [], _ :: _, _, h, _, _ => by simp at h
  | _ :: _, [], _, h, _, _ => by simp at h
  | (a, y) :: es, e :: vs, i0, hl, hr, hk => by
    obtain ⟨e', he', hka, hva⟩ := hr 0 a y rfl
    simp at he'
    subst he'
    obtain ⟨ek, ev', eb⟩ := e
    have ih := findNow_find (P := P) hx hd es vs (i0 + 1) (by simpa using hl) (fun i b z h => hr (i + 1) b z (by simpa using h)) (fun i b z h => hk (i + 1) b z (by simpa using h))
    have hnow : Instr.sameNow d u ek = some (keyEq x a) := by
      rcases hk 0 a y rfl with ⟨s, rfl, s', rfl⟩ | ⟨k, n, n', rfl, rfl⟩
      · cases hx; cases hka
        rcases hd with ⟨_, h1, rfl⟩ | ⟨_, _, _, h1, _⟩
        · simp [Instr.sameNow, keyEq, beq_bytes]
        · cases h1
      · cases hx; cases hka
        rcases hd with ⟨_, h1, _⟩ | ⟨_, _, k', h1, rfl⟩
        · cases h1
        · simp [Instr.sameNow, keyEq, int_beq]
    simp only [findA, Instr.findNow, hnow]
    cases hq : keyEq x a with
    | true =>
      simp only [if_true]
      exact ⟨0, ev', rfl, hva, ⟨a, rfl, hq⟩, fun j b z h => by omega⟩
    | false =>
      simp only [Bool.false_eq_true, if_false]
      cases hf : findA x es with
      | some z =>
        simp only [hf] at ih ⊢
        obtain ⟨i, v, h1, h2, ⟨b, h3, h4⟩, h5⟩ := ih
        refine ⟨i + 1, v, by rw [h1]; congr 3; omega, h2, ⟨b, by simpa using h3, h4⟩, fun j b z hj hb => ?_⟩
        cases j with
        | zero => simp at hb; obtain ⟨rfl, rfl⟩ := hb; exact hq
        | succ j => exact h5 j b z (by omega) (by simpa using hb)
      | none =>
        simp only [hf] at ih ⊢
        refine ⟨ih.1, fun j b z hb => ?_⟩
        cases j with
        | zero => simp at hb; obtain ⟨rfl, rfl⟩ := hb; exact hq
        | succ j => exact ih.2 j b z (by simpa using hb)
theorem setA_none {x v : A} : ∀ {es : List (A × A)}, findA x es = none → setA x v es = es ++ [(x, v)]
  | [], _ => rfl
  | (y, u) :: es, h => by
    simp only [findA] at h
    split at h
    · cases h
    · rename_i hq
      simp only [setA, hq, if_false, List.cons_append, setA_none h]
      rfl
theorem setA_at {x v : A} : ∀ {es : List (A × A)} {i : Nat} {a y : A}, es[i]? = some (a, y) → keyEq x a = true → (∀ (j : Nat) (a y : A), j < i → es[j]? = some (a, y) → keyEq x a = false) → setA x v es = es.set i (x, v)
  | [], i, a, y, h, _, _ => by simp at h
  | (b, u) :: es, 0, a, y, h, hq, _ => by
    simp at h
    obtain ⟨rfl, rfl⟩ := h
    simp [setA, hq]
  | (b, u) :: es, i + 1, a, y, h, hq, hlt => by
    have h0 := hlt 0 b u (by omega) rfl
    simp only [setA, h0, Bool.false_eq_true, if_false, List.set_cons_succ]
    rw [setA_at (i := i) (by simpa using h) hq (fun j c z hj hc => hlt (j + 1) c z (by omega) (by simpa using hc))]

end Go.Pv
