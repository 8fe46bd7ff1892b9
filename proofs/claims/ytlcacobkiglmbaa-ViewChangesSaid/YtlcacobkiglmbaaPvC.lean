/- Rows of the call's own: a new one; one that is given up; an append. -/
import Derived.Test.YtlcacobkiglmbaaPvB
namespace Go.Pv
open Go

theorem InvS.kill {w : World} {E : Env} {s : Nat → Option Blk} {k : Nat → Tk} (h : InvS w E s k) (g : Nat) (hg : k g ≠ .unused) : Reach w E s k w E s (upd k g .dead) := by
  have hl : ∀ i, upd k g .dead i = .live → k i = .live := fun i hi => by
    by_cases e : i = g
    · subst e; simp [upd] at hi
    · rwa [upd_other _ _ _ _ e] at hi
  have hext : Ext w E k w E (upd k g .dead) := ⟨fun _ _ h => ⟨h, rfl⟩, fun _ _ h => h, fun i hi => ⟨by
    by_cases e : i = g
    · subst e; simp [upd]
    · rwa [upd_other _ _ _ _ e], fun hh => ⟨hl i hh, rfl⟩⟩⟩
  refine ⟨⟨?_, h.maps, h.inj, fun i hi => h.rows i (hl i hi), fun i j r r' hi hj => h.rinj i j r r' (hl i hi) (hl j hj), h.prot, ?_⟩, hext, Agree.refl _ w, fun b hb => .inl ?_, fun _ _ h => .inl h⟩
  · intro i cs hi
    obtain ⟨b, cur, ty, h1, h2, h3, h4, h5, h6⟩ := h.cells i cs hi
    exact ⟨b, cur, ty, h1, h2, h3, h4, fun j x hx => hext.relp (h5 j x hx), h6⟩
  · obtain ⟨N, hN⟩ := h.fin
    refine ⟨max N (g + 1), fun i hi => ⟨(hN i (by omega)).1, ?_⟩⟩
    rw [upd_other _ _ _ _ (by omega)]
    exact (hN i (by omega)).2
  · rcases hb with hb | ⟨i, r, h1, h2⟩
    · exact .inl hb
    · exact .inr ⟨i, r, hl i h1, h2⟩

/-- A new block whose first cells are never written again. -/
def Env.prot (E : Env) (b m : Nat) : Env := { E with F := fun c o => E.F c o ∨ (c = b ∧ o < m) }
theorem InvS.newrow {w : World} {E : Env} {s : Nat → Option Blk} {k : Nat → Tk} (h : InvS w E s k) (cur : Array Value) (e m : Nat) (hm : m ≤ cur.size) :
    Reach w E s k (w.alloc (.cells cur e)) (E.prot w.heap.size m) s k := by
  have hold : ∀ (b : Nat) (o : Obj), w.heap[b]? = some o → (w.alloc (.cells cur e)).heap[b]? = some o := fun b o hb =>
    (heap_alloc_old w _ b (Array.getElem?_eq_some_iff.1 hb).1).trans hb
  have hlt : ∀ (b : Nat) (o : Obj), w.heap[b]? = some o → b < w.heap.size := fun b o hb => (Array.getElem?_eq_some_iff.1 hb).1
  have hext : Ext w E k (w.alloc (.cells cur e)) (E.prot w.heap.size m) k :=
    ⟨fun b o hb => ⟨.inl hb, World.cell?_alloc_lt w _ ⟨b, o, none⟩ (h.prot_lt hb)⟩, fun _ _ h => h, fun _ hg => ⟨hg, fun hl => ⟨hl, rfl⟩⟩⟩
  refine ⟨⟨?_, ?_, h.inj, ?_, h.rinj, ?_, h.fin⟩, hext, ⟨rfl, rfl, rfl, by simp, fun b hb _ => heap_alloc_old w _ b hb⟩, fun b hb => .inl hb, fun b o hb => hb.elim .inl fun hb => .inr (.inr (by rw [hb.1]; exact Nat.le_refl _))⟩
  · intro i cs hi
    obtain ⟨b, cur', ty, a1, a2, a3, a4, a5, a6⟩ := h.cells i cs hi
    refine ⟨b, cur', ty, a1, hold _ _ a2, a3, a4, fun j x hx => hext.relp (a5 j x hx), fun o ho => ?_⟩
    rcases ho with ho | ⟨ho, _⟩
    · exact a6 o ho
    · have := hlt _ _ a2; omega
  · intro i es hi
    obtain ⟨b, vs, clock, a1, a2, a3, a4⟩ := h.maps i es hi
    refine ⟨b, vs, clock, a1, hold _ _ a2, a3, fun j a x hx => ?_⟩
    obtain ⟨e', b1, b2, b3⟩ := a4 j a x hx
    exact ⟨e', b1, hext.rel b2, hext.rel b3⟩
  · intro g hg
    obtain ⟨r, cur', a1, a2, a3, a4, a5, a6, a7⟩ := h.rows g hg
    refine ⟨r, cur', a1, hold _ _ a2, a3, a4, a5, fun o ho => ?_, a7⟩
    rcases ho with ho | ⟨ho, _⟩
    · exact a6 o ho
    · have := hlt _ _ a2; omega
  · intro b o hb
    rcases hb with hb | ⟨rfl, ho⟩
    · obtain ⟨v, hv⟩ := h.prot b o hb
      exact ⟨v, (hext.F b o hb).2.trans hv⟩
    · exact ⟨cur[o]'(by omega), by rw [World.cell?_alloc_new]; exact Array.getElem?_eq_getElem (by omega)⟩
def Env.tok (E : Env) (g : Nat) (r : Row) : Env := ⟨E.μ, E.F, upd E.ρ g (some r)⟩
def Env.more (E : Env) (b m g : Nat) (r : Row) : Env := ⟨E.μ, fun c o => E.F c o ∨ (c = b ∧ o < m), upd E.ρ g (some r)⟩
/-- A new row gets a token. -/
theorem InvS.token {w : World} {E : Env} {s : Nat → Option Blk} {k : Nat → Tk} (h : InvS w E s k) (g : Nat) (hg : k g = .unused) (r : Row) (cur : Array Value) (w0 : World) (hb0 : w0.heap.size ≤ r.b)
    (hh : w.heap[r.b]? = some (.cells cur r.e (0, 0))) (hsz : cur.size = r.c * r.esz) (hn : r.n ≤ r.c) (hc : r.c ≤ maxLen) (hF : ∀ o, E.F r.b o → o < r.n * r.esz) (hm : ¬ Mut E s k r.b) :
    InvS w (E.tok g r) s (upd k g .live) ∧ Ext w E k w (E.tok g r) (upd k g .live) ∧
      ∀ b, Mut (E.tok g r) s (upd k g .live) b → Mut E s k b ∨ w0.heap.size ≤ b := by
  have hrel : ∀ {a : A} {v : Value}, Rel w E a v → Rel w (E.tok g r) a v := fun hr => Rel.mono (E := E) (E' := E.tok g r) (fun _ _ h => ⟨h, rfl⟩) (fun _ _ h => h) hr
  have hext : Ext w E k w (E.tok g r) (upd k g .live) := ⟨fun _ _ h => ⟨h, rfl⟩, fun _ _ h => h, fun i hi => by
    have e : i ≠ g := fun e => hi (e ▸ hg)
    exact ⟨by rwa [upd_other _ _ _ _ e], fun hh => ⟨by rwa [upd_other _ _ _ _ e] at hh, upd_other _ _ _ _ e⟩⟩⟩
  have hother : ∀ i r', upd k g .live i = .live → (E.tok g r).ρ i = some r' → (i = g ∧ r' = r) ∨ (i ≠ g ∧ k i = .live ∧ E.ρ i = some r') := by
    intro i r' h1 h2
    simp only [Env.tok] at h2
    by_cases e : i = g
    · subst e; simp [upd] at h2; exact .inl ⟨rfl, h2.symm⟩
    · rw [upd_other _ _ _ _ e] at h1 h2; exact .inr ⟨e, h1, h2⟩
  refine ⟨⟨?_, ?_, h.inj, ?_, ?_, h.prot, ?_⟩, hext, ?_⟩
  · intro i cs hi
    obtain ⟨b, cur', ty, h1, h2, h3, h4, h5, h6⟩ := h.cells i cs hi
    exact ⟨b, cur', ty, h1, h2, h3, h4, fun j x hx => hext.relp (h5 j x hx), h6⟩
  · intro i es hi
    obtain ⟨b, vs, clock, a1, a2, a3, a4⟩ := h.maps i es hi
    refine ⟨b, vs, clock, a1, a2, a3, fun j a x hx => ?_⟩
    obtain ⟨e', b1, b2, b3⟩ := a4 j a x hx
    exact ⟨e', b1, hrel b2, hrel b3⟩
  · intro i hi
    by_cases e : i = g
    · subst e
      exact ⟨r, cur, upd_same _ _ _, hh, hsz, hn, hc, hF, fun id h1 h2 => hm (.inl ⟨id, h1, h2⟩)⟩
    · rw [upd_other _ _ _ _ e] at hi
      obtain ⟨r', cur', c1, c2⟩ := h.rows i hi
      exact ⟨r', cur', (upd_other _ _ _ _ e).trans c1, c2⟩
  · intro i j r1 r2 hi hj h1 h2 heq
    rcases hother i r1 hi h1 with ⟨rfl, rfl⟩ | ⟨e1, d1, d2⟩ <;> rcases hother j r2 hj h2 with ⟨rfl, rfl⟩ | ⟨e2, d3, d4⟩
    · rfl
    · exact absurd (.inr ⟨j, r2, d3, d4, heq.symm⟩) hm
    · exact absurd (.inr ⟨i, r1, d1, d2, heq⟩) hm
    · exact h.rinj i j r1 r2 d1 d3 d2 d4 heq
  · obtain ⟨N, hN⟩ := h.fin
    refine ⟨max N (g + 1), fun i hi => ⟨(hN i (by omega)).1, ?_⟩⟩
    rw [upd_other _ _ _ _ (by omega)]
    exact (hN i (by omega)).2
  · intro b hb
    rcases hb with hb | ⟨i, r', h1, h2, h3⟩
    · exact .inl (.inl hb)
    · rcases hother i r' h1 h2 with ⟨rfl, rfl⟩ | ⟨e1, d1, d2⟩
      · exact .inr (h3 ▸ hb0)
      · exact .inl (.inr ⟨i, r', d1, d2, h3⟩)
/-- More of a row is never written again: it is another row then. -/
theorem InvS.inplace {w : World} {E : Env} {s : Nat → Option Blk} {k : Nat → Tk} (h : InvS w E s k) (g g' : Nat) (hg : k g = .live) (hg' : k g' = .unused) (r : Row) (hr : E.ρ g = some r) (m : Nat)
    (cur new : Array Value) (hh : w.heap[r.b]? = some (.cells cur r.e (0, 0))) (hnew : new.size = cur.size) (hroom : r.n + m ≤ r.c) (hsame : ∀ o, o < r.n * r.esz → new[o]? = cur[o]?) :
    Reach w E s k (w.setRow r.b new) (E.more r.b ((r.n + m) * r.esz) g' { r with n := r.n + m }) s (upd (upd k g .dead) g' .live) := by
  obtain ⟨r1, cur1, a1, a2, a3, a4, a5, a6, a7⟩ := h.rows g hg
  rw [hr] at a1
  cases a1
  rw [hh] at a2
  cases a2
  have hgg : g ≠ g' := fun e => by subst e; rw [hg] at hg'; cases hg'
  have hheap : (w.setRow r.b new).heap[r.b]? = some (.cells new r.e (0, 0)) := setRow_heap w r.b cur new r.e (0, 0) hh
  have hoth : ∀ i, i ≠ r.b → (w.setRow r.b new).heap[i]? = w.heap[i]? := fun i hi => setRow_other w r.b i new hi
  have hlive : ∀ i, upd (upd k g .dead) g' .live i = .live → i ≠ g' → k i = .live ∧ i ≠ g := by
    intro i hi e
    rw [upd_other _ _ _ _ e] at hi
    by_cases e2 : i = g
    · subst e2; simp [upd] at hi
    · rw [upd_other _ _ _ _ e2] at hi; exact ⟨hi, e2⟩
  have hcell : ∀ b o, E.F b o → (w.setRow r.b new).cell? ⟨b, o, none⟩ = w.cell? ⟨b, o, none⟩ := by
    intro b o hb
    by_cases e : b = r.b
    · subst e
      rw [cell_setRow_same w r.b o cur new r.e (0, 0) hh, cell_of_row w r.b o cur r.e (0, 0) hh]
      exact hsame o (a6 o hb)
    · exact cell_setRow_other w r.b new ⟨b, o, none⟩ e
  have hext : Ext w E k (w.setRow r.b new) (E.more r.b ((r.n + m) * r.esz) g' { r with n := r.n + m }) (upd (upd k g .dead) g' .live) := by
    refine ⟨fun b o hb => ⟨.inl hb, hcell b o hb⟩, fun _ _ h => h, fun i hi => ?_⟩
    have e : i ≠ g' := fun e => hi (e ▸ hg')
    refine ⟨?_, fun hl => ⟨(hlive i hl e).1, upd_other _ _ _ _ e⟩⟩
    rw [upd_other _ _ _ _ e]
    by_cases e2 : i = g
    · subst e2; simp [upd]
    · rwa [upd_other _ _ _ _ e2]
  have hneb : ∀ i b o, s i ≠ none → E.μ i = some b → w.heap[b]? = some o → b ≠ r.b := fun i b o h1 h2 _ e => a7 i h1 (e ▸ h2)
  refine ⟨⟨?_, ?_, h.inj, ?_, ?_, ?_, ?_⟩, hext, ⟨rfl, rfl, rfl, by simp, fun i hi hm => hoth i (fun e => hm (.inr ⟨g, r, hg, hr, e.symm⟩))⟩, ?_, fun b o hb => hb.elim .inl fun hb => .inr (.inl (.inr ⟨g, r, hg, hr, hb.1.symm⟩))⟩
  · intro i cs hi
    obtain ⟨b, cur', ty, c1, c2, c3, c4, c5, c6⟩ := h.cells i cs hi
    have hne := hneb i b _ (by simp [hi]) c1 c2
    refine ⟨b, cur', ty, c1, (hoth b hne).trans c2, c3, c4, fun j x hx => hext.relp (c5 j x hx), fun o ho => ?_⟩
    rcases ho with ho | ⟨ho, _⟩
    · exact c6 o ho
    · exact hne ho
  · intro i es hi
    obtain ⟨b, vs, clock, c1, c2, c3, c4⟩ := h.maps i es hi
    have hne := hneb i b _ (by simp [hi]) c1 c2
    refine ⟨b, vs, clock, c1, (hoth b hne).trans c2, c3, fun j a x hx => ?_⟩
    obtain ⟨e', d1, d2, d3⟩ := c4 j a x hx
    exact ⟨e', d1, hext.rel d2, hext.rel d3⟩
  · intro i hi
    by_cases e : i = g'
    · subst e
      refine ⟨{ r with n := r.n + m }, new, upd_same _ _ _, hheap, hnew.trans a3, hroom, a5, fun o ho => ?_, a7⟩
      rcases ho with ho | ⟨_, ho⟩
      · have := a6 o ho
        have hle : r.n * r.esz ≤ (r.n + m) * r.esz := Nat.mul_le_mul_right _ (by omega)
        show o < (r.n + m) * r.esz
        omega
      · exact ho
    · obtain ⟨h1, h2⟩ := hlive i hi e
      obtain ⟨r', cur', c1, c2, c3, c4, c5, c6, c7⟩ := h.rows i h1
      have hne : r'.b ≠ r.b := fun e' => h2 (h.rinj i g r' r h1 hg c1 hr e')
      refine ⟨r', cur', (upd_other _ _ _ _ e).trans c1, (hoth _ hne).trans c2, c3, c4, c5, fun o ho => ?_, c7⟩
      rcases ho with ho | ⟨ho, _⟩
      · exact c6 o ho
      · exact absurd ho hne
  · intro i j r1 r2 hi hj h1 h2 heq
    simp only [Env.more] at h1 h2
    by_cases e1 : i = g' <;> by_cases e2 : j = g'
    · exact e1.trans e2.symm
    · subst e1
      obtain ⟨d1, d2⟩ := hlive j hj e2
      simp only [upd_same, Option.some.injEq] at h1
      rw [upd_other _ _ _ _ e2] at h2
      exact absurd (h.rinj j g r2 r d1 hg h2 hr (by rw [← heq, ← h1])) d2
    · subst e2
      obtain ⟨d1, d2⟩ := hlive i hi e1
      simp only [upd_same, Option.some.injEq] at h2
      rw [upd_other _ _ _ _ e1] at h1
      exact absurd (h.rinj i g r1 r d1 hg h1 hr (by rw [heq, ← h2])) d2
    · rw [upd_other _ _ _ _ e1] at h1
      rw [upd_other _ _ _ _ e2] at h2
      exact h.rinj i j r1 r2 (hlive i hi e1).1 (hlive j hj e2).1 h1 h2 heq
  · intro b o hb
    rcases hb with hb | ⟨rfl, ho⟩
    · obtain ⟨v, hv⟩ := h.prot b o hb
      exact ⟨v, (hcell b o hb).trans hv⟩
    · have hlt : o < new.size := by
        have hle : (r.n + m) * r.esz ≤ r.c * r.esz := Nat.mul_le_mul_right _ hroom
        rw [hnew, a3]
        exact Nat.lt_of_lt_of_le ho hle
      exact ⟨new[o], by rw [cell_setRow_same w r.b o cur new r.e (0, 0) hh]; exact Array.getElem?_eq_getElem hlt⟩
  · obtain ⟨N, hN⟩ := h.fin
    refine ⟨max N (max (g + 1) (g' + 1)), fun i hi => ⟨(hN i (by omega)).1, ?_⟩⟩
    rw [upd_other _ _ _ _ (by omega), upd_other _ _ _ _ (by omega)]
    exact (hN i (by omega)).2
  · intro b hb
    rcases hb with hb | ⟨i, r', h1, h2, h3⟩
    · exact .inl (.inl hb)
    · by_cases e : i = g'
      · subst e
        simp only [Env.more, upd_same, Option.some.injEq] at h2
        exact .inl (.inr ⟨g, r, hg, hr, by rw [← h3, ← h2]⟩)
      · simp only [Env.more] at h2
        rw [upd_other _ _ _ _ e] at h2
        exact .inl (.inr ⟨i, r', (hlive i h1 e).1, h2, h3⟩)

end Go.Pv
