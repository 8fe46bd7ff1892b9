/- Memory apart: what a part of a walk does not look at stays as it is. Regions that draw their order, where some boxes are written only. -/
import Derived.Test.YtlcacobkiglmbaaPvP
set_option linter.unusedVariables false
set_option linter.unusedSimpArgs false
namespace Go.Pv
open Go
variable {B : List Nat}

abbrev Hp := Nat → Option Blk
def mrg (s h : Hp) : Hp := fun id => match h id with
  | some b => some b
  | none => s id
def DJ (s h : Hp) : Prop := ∀ id, h id ≠ none → s id = none
theorem mrg_some {s h : Hp} {id : Nat} {b : Blk} (e : h id = some b) : mrg s h id = some b := by simp [mrg, e]
theorem mrg_none {s h : Hp} {id : Nat} (e : h id = none) : mrg s h id = s id := by simp [mrg, e]
theorem mrg_nil (s : Hp) : mrg s (fun _ => none) = s := rfl
theorem mrg_upd (s h : Hp) (id : Nat) (b : Blk) : mrg s (upd h id (some b)) = upd (mrg s h) id (some b) := by
  funext j
  by_cases e : j = id
  · subst e; simp [mrg, upd]
  · simp only [mrg, upd_other _ _ _ _ e]
theorem upd_upd {α : Type} (f : Nat → α) (i : Nat) (x y : α) : upd (upd f i x) i y = upd f i y := by
  funext j
  by_cases e : j = i <;> simp [upd, e]
theorem upd_comm {α : Type} (f : Nat → α) {i j : Nat} (h : i ≠ j) (x y : α) : upd (upd f i x) j y = upd (upd f j y) i x := by
  funext k
  by_cases e1 : k = i <;> by_cases e2 : k = j <;> simp_all [upd]
theorem DJ.ext {s h : Hp} (hd : DJ s h) {id : Nat} {b : Blk} (e : s id = some b) : mrg s h id = some b := by
  rw [mrg_none]
  · exact e
  · cases hh : h id with
    | none => rfl
    | some x => have := hd id (by rw [hh]; simp); rw [e] at this; cases this

theorem Reach.frame {w w' : World} {E E' : Env} {s s' h : Hp} {k k' : Nat → Tk} (hS : InvS w E (mrg s h) k) (hR : Reach w E s k w' E' s' k') (hd : DJ s h) (hd' : DJ s' h) : Reach w E (mrg s h) k w' E' (mrg s' h) k' := by
  have hmut : ∀ b, Mut E s k b → Mut E (mrg s h) k b := by
    intro b hb
    rcases hb with ⟨id, h1, h2⟩ | hb
    · refine .inl ⟨id, ?_, h2⟩
      cases hs : s id with
      | none => exact absurd hs h1
      | some x => rw [hd.ext hs]; simp
    · exact .inr hb
  have hold : ∀ id, h id ≠ none → ∃ b, E.μ id = some b ∧ b < w.heap.size ∧ ¬ Mut E s k b := by
    intro id hid
    have hne : mrg s h id ≠ none := by
      cases hh : h id with
      | none => exact absurd hh hid
      | some x => rw [mrg_some hh]; simp
    obtain ⟨b, h1, h2⟩ := hS.dom hne
    refine ⟨b, h1, h2, ?_⟩
    rintro (⟨id', g1, g2⟩ | ⟨g, r, g1, g2, g3⟩)
    · have hne' : mrg s h id' ≠ none := by
        cases hs : s id' with
        | none => exact absurd hs g1
        | some x => rw [hd.ext hs]; simp
      have := hS.inj id id' b hne hne' h1 g2
      subst this
      exact g1 (hd id hid)
    · obtain ⟨r', cur, q1, _, _, _, _, _, q7⟩ := hS.rows g g1
      rw [g2] at q1
      cases q1
      exact q7 id hne (g3 ▸ h1)
  have hblk : ∀ id b, h id ≠ none → E.μ id = some b → w'.heap[b]? = w.heap[b]? := by
    intro id b hid hb
    obtain ⟨b', h1, h2, h3⟩ := hold id hid
    rw [hb] at h1
    cases h1
    exact hR.agree.block b h2 h3
  have hnew : ∀ id b, h id ≠ none → E.μ id = some b → ¬ Mut E' s' k' b := by
    intro id b hid hb hm
    obtain ⟨b', h1, h2, h3⟩ := hold id hid
    rw [hb] at h1
    cases h1
    rcases hR.base b hm with h4 | h4
    · exact h3 h4
    · omega
  have hμ : ∀ id b, h id ≠ none → E'.μ id = some b → E.μ id = some b := by
    intro id b hid hb
    obtain ⟨b', h1, _⟩ := hold id hid
    have := hR.ext.μ id b' h1
    rw [this] at hb
    cases hb
    exact h1
  have hs' : ∀ id, h id = none → mrg s' h id = s' id := fun id hid => mrg_none hid
  refine ⟨⟨?_, ?_, ?_, ?_, hR.S.rinj, hR.S.prot, hR.S.fin⟩, hR.ext, ⟨hR.agree.os, hR.agree.tape, hR.agree.output, hR.agree.size, fun b hb hm => hR.agree.block b hb fun hx => hm (hmut b hx)⟩, ?_, ?_⟩
  · intro id cs hid
    cases hh : h id with
    | some x =>
      have hne : h id ≠ none := by rw [hh]; simp
      rw [mrg_some hh] at hid
      have hid0 : mrg s h id = some (.cells cs) := by rw [mrg_some hh]; exact hid
      obtain ⟨b, cur, ty, c1, c2, c3, c4, c5, c6⟩ := hS.cells id cs hid0
      refine ⟨b, cur, ty, hR.ext.μ id b c1, (hblk id b hne c1).trans c2, c3, c4, fun j x hx => hR.ext.relp (c5 j x hx), fun o ho => ?_⟩
      obtain ⟨b', h1, h2, h3⟩ := hold id hne
      rw [c1] at h1
      cases h1
      rcases hR.prot b o ho with q | q | q
      · exact c6 o q
      · exact h3 q
      · omega
    | none => rw [hs' id hh] at hid; exact hR.S.cells id cs hid
  · intro id es hid
    cases hh : h id with
    | some x =>
      have hne : h id ≠ none := by rw [hh]; simp
      rw [mrg_some hh] at hid
      have hid0 : mrg s h id = some (.map es) := by rw [mrg_some hh]; exact hid
      obtain ⟨b, vs, clock, c1, c2, c3, c4⟩ := hS.maps id es hid0
      refine ⟨b, vs, clock, hR.ext.μ id b c1, (hblk id b hne c1).trans c2, c3, fun i a x hx => ?_⟩
      obtain ⟨e, e1, e2, e3⟩ := c4 i a x hx
      exact ⟨e, e1, hR.ext.rel e2, hR.ext.rel e3⟩
    | none => rw [hs' id hh] at hid; exact hR.S.maps id es hid
  · intro id id' b h1 h2 h3 h4
    by_cases e1 : h id = none <;> by_cases e2 : h id' = none
    · rw [hs' id e1] at h1; rw [hs' id' e2] at h2
      exact hR.S.inj id id' b h1 h2 h3 h4
    · rw [hs' id e1] at h1
      exact absurd (.inl ⟨id, h1, h3⟩) (hnew id' b e2 (hμ id' b e2 h4))
    · rw [hs' id' e2] at h2
      exact absurd (.inl ⟨id', h2, h4⟩) (hnew id b e1 (hμ id b e1 h3))
    · have m1 : mrg s h id ≠ none := by
        cases hh : h id with
        | none => exact absurd hh e1
        | some x => rw [mrg_some hh]; simp
      have m2 : mrg s h id' ≠ none := by
        cases hh : h id' with
        | none => exact absurd hh e2
        | some x => rw [mrg_some hh]; simp
      exact hS.inj id id' b m1 m2 (hμ id b e1 h3) (hμ id' b e2 h4)
  · intro g hg
    obtain ⟨r, cur, c1, c2, c3, c4, c5, c6, c7⟩ := hR.S.rows g hg
    refine ⟨r, cur, c1, c2, c3, c4, c5, c6, fun id hid he => ?_⟩
    by_cases e : h id = none
    · rw [hs' id e] at hid; exact c7 id hid he
    · exact hnew id r.b e (hμ id r.b e he) (.inr ⟨g, r, hg, c1, rfl⟩)
  · intro b hb
    rcases hb with ⟨id, h1, h2⟩ | hb
    · by_cases e : h id = none
      · rw [hs' id e] at h1
        exact (hR.base b (.inl ⟨id, h1, h2⟩)).imp (hmut b) fun h => h
      · have : mrg s h id ≠ none := by
          cases hh : h id with
          | none => exact absurd hh e
          | some x => rw [mrg_some hh]; simp
        exact .inl (.inl ⟨id, this, hμ id b e h2⟩)
    · exact (hR.base b (.inr hb)).imp (hmut b) fun h => h
  · intro b o hb
    rcases hR.prot b o hb with q | q | q
    · exact .inl q
    · exact .inr (.inl (hmut b q))
    · exact .inr (.inr q)
theorem InvS.part {w : World} {E : Env} {s h : Hp} {k : Nat → Tk} (hS : InvS w E (mrg s h) k) (hd : DJ s h) : InvS w E s k :=
  (hS.less fun id => by
    by_cases e : h id = none
    · exact .inr (mrg_none e).symm
    · exact .inl (hd id e)).S
/-- A contract in a smaller memory. -/
theorem SpecR.frame {P : Program} {f : FuncId} {args : List A} {s h : Hp} {k : Nat → Tk} {R : A → Hp → (Nat → Tk) → Prop} (hp : SpecR P f args s k R) (hd : DJ s h) (hd' : ∀ r s' k', R r s' k' → DJ s' h) : SpecR P f args (mrg s h) k fun r s1 k' => ∃ s', R r s' k' ∧ s1 = mrg s' h := by
  intro w E vs hS hl hr
  refine (hp w E vs (hS.part hd) hl hr).mono fun v w' ⟨r, s', k', h1, E', h2, h3⟩ => ⟨r, mrg s' h, k', ⟨s', h1, rfl⟩, E', h2.frame hS hd (hd' _ _ _ h1), h3⟩
theorem Spec.frame {P : Program} {f : FuncId} {args : List A} {s h : Hp} {k : Nat → Tk} {r : A} (hp : Spec P f args s k r s k) (hd : DJ s h) : Spec P f args (mrg s h) k r (mrg s h) k := by
  intro w E vs hS hl hr
  exact (hp w E vs (hS.part hd) hl hr).mono fun v w' ⟨E', h2, h3⟩ => ⟨E', h2.frame hS hd hd, h3⟩

/-! ### Operations on the memory apart -/
def Ins.isR : Ins → Bool
  | .new _ | .store .. | .appB .. => true
  | _ => false
def stepR (i : Ins) (st : St) (h : Hp) (K : A → Hp → Prop) : Prop :=
  match i with
  | .new z => ∀ id, st.s id = none → h id = none → K (.ptr id 0) (upd h id (some (.cells z)))
  | .store n a x => match ev st a with
    | .ptr id off => match h id with
      | some (.cells cs) => ((ev st x).solid = true ∧ (ev st x).pcells.length = n ∧ off + n ≤ cs.length) ∧ K .undef (upd h id (some (.cells (splice cs off (ev st x).pcells))))
      | _ => False
    | _ => False
  | .appB esz e bytes s x => match ev st s, ev st x with
    | .sl e1 xs t, .sl e2 ys _ => ((e1 = esz ∨ (xs = [] ∧ t = .nil)) ∧ (e2 = esz ∨ ys = []) ∧ (t = .nil ∨ t = .full) ∧ (xs.length + ys.length) * bytes ≤ 140737488355328 ∧ 0 < bytes ∧ ys ≠ []) ∧ ∀ (c : { c : Nat // xs.length + ys.length ≤ c ∧ c ≤ maxLen }) (id : Nat), st.s id = none → h id = none →
          K (.sb id 0 esz (xs.length + ys.length) c.1) (upd h id (some (.cells (flatS (xs ++ ys) ++ List.replicate ((c.1 - (xs.length + ys.length)) * esz) .undef))))
    | _, _ => False
  | _ => False
def run1R (P : Program) (p : PI) (K : St → Hp → Prop) (st : St) (h : Hp) : Prop :=
  if p.i.isR then stepR p.i st h fun v h' => K (st.put p.dst v) h' else run1 P p (fun st' => K st' h) st
def runsR (P : Program) : List PI → (St → Hp → Prop) → St → Hp → Prop
  | [], K, st, h => K st h
  | p :: ps, K, st, h => run1R P p (runsR P ps K) st h
def mst (st : St) (h : Hp) : St := ⟨st.t, mrg st.s h, st.k⟩
theorem mst_put (st : St) (h : Hp) (d : Option Nat) (v : A) : mst (st.put d v) h = (mst st h).put d v := by cases d <;> rfl
theorem ev_mst (st : St) (h : Hp) (x : Opd) : ev (mst st h) x = ev st x := by cases x <;> rfl
def PI.okR (p : PI) : Bool := if p.i.isR then p.g.isNone else p.i.isF || p.i.isC || p.i.isT
theorem fresh_mrg {s h : Hp} {id : Nat} (e : mrg s h id = none) : s id = none ∧ h id = none := by
  cases hh : h id with
  | none => rw [mrg_none hh] at e; exact ⟨e, rfl⟩
  | some x => rw [mrg_some hh] at e; cases e
theorem DJ.upd {s h : Hp} (hd : DJ s h) {id : Nat} (e : s id = none) (b : Blk) : DJ s (upd h id (some b)) := by
  intro j hj
  by_cases ej : j = id
  · subst ej; exact e
  · rw [upd_other _ _ _ _ ej] at hj; exact hd j hj
theorem gs_ext {P : Program} {p : PI} (hf : p.i.isF = true) {t : Nat → A} {s s' : Hp} {k : Nat → Tk} (hs : ∀ id b, s id = some b → s' id = some b) {K : A → Prop} (h : gs P p t s k fun v _ _ => K v) : gs P p t s' k fun v _ _ => K v := by
  unfold gs at h ⊢
  cases hg : p.g with
  | none => rw [hg] at h; exact step_F hf (fun _ _ => rfl) hs h
  | some jb =>
    obtain ⟨j, want⟩ := jb
    rw [hg] at h
    dsimp only at h ⊢
    generalize t j = X at h ⊢
    cases X <;> first | exact h | skip
    rename_i b
    dsimp only at h ⊢
    by_cases e : b = want
    · rw [if_pos e] at h ⊢; exact step_F hf (fun _ _ => rfl) hs h
    · rw [if_neg e] at h ⊢; exact h
theorem gs_C_frame {P : Program} {p : PI} (hc : p.i.isC = true) {t : Nat → A} {s h : Hp} {k : Nat → Tk} (hd : DJ s h) {K : A → Hp → (Nat → Tk) → Prop} (hK : gs P p t s k fun v s' k' => s' = s → k' = k → K v (mrg s h) k) : gs P p t (mrg s h) k K := by
  have run : (step P p.i ⟨t, s, k⟩ fun v st' => st'.s = s → st'.k = k → K v (mrg s h) k) → step P p.i ⟨t, mrg s h, k⟩ fun v st' => K v st'.s st'.k := by
    intro hK
    obtain ⟨dst, g, i⟩ := p
    dsimp only at hK hc ⊢
    obtain ⟨f, args, rfl⟩ : ∃ f args, i = .call true f args := by
      exact match i, hc with
        | .call true f args, _ => ⟨f, args, rfl⟩
    simp only [step] at hK ⊢
    rw [← ev_congr (t := t) (t' := t) (s := s) (k := k) (x := f) fun _ _ => rfl]
    have e : (args.map fun x => (ev ⟨t, mrg s h, k⟩ x).strip) = args.map fun x => (ev ⟨t, s, k⟩ x).strip := (map_congr fun _ _ => rfl)
    rw [e]
    generalize ev ⟨t, s, k⟩ f = X at hK ⊢
    cases X <;> first | exact hK.elim | skip
    simp only [if_true] at hK ⊢
    obtain ⟨r, h1, h2⟩ := hK
    exact ⟨r, h1.frame hd, h2 trivial trivial⟩
  unfold gs at hK ⊢
  cases hg : p.g with
  | none => rw [hg] at hK; exact run hK
  | some jb =>
    obtain ⟨j, want⟩ := jb
    rw [hg] at hK
    dsimp only at hK ⊢
    generalize t j = X at hK ⊢
    cases X <;> first | exact hK | exact hK rfl rfl | skip
    rename_i b
    dsimp only at hK ⊢
    by_cases e : b = want
    · rw [if_pos e] at hK ⊢; exact run hK
    · rw [if_neg e] at hK ⊢; exact hK rfl rfl
/-- One operation in the whole memory. -/
theorem run1R_merge {P : Program} {p : PI} (hp : p.okR = true) {K : St → Hp → Prop} {st : St} {h : Hp} (hd : DJ st.s h) (hK : run1R P p K st h) : run1 P p (fun st' => ∃ st2 h2, st' = mst st2 h2 ∧ DJ st2.s h2 ∧ K st2 h2) (mst st h) := by
  obtain ⟨t, s, k⟩ := st
  unfold run1R at hK
  by_cases hr : p.i.isR = true
  · rw [if_pos hr] at hK
    unfold PI.okR at hp
    rw [if_pos hr] at hp
    unfold run1
    rw [Option.isNone_iff_eq_none.1 hp]
    obtain ⟨dst, g, i⟩ := p
    dsimp only at hK hr ⊢
    have fin : ∀ (v : A) (id : Nat) (b : Blk) (st' : St), s id = none → st' = ⟨t, upd (mrg s h) id (some b), k⟩ → K (St.put ⟨t, s, k⟩ dst v) (upd h id (some b)) → ∃ st2 h2, st'.put dst v = mst st2 h2 ∧ DJ st2.s h2 ∧ K st2 h2 := by
      intro v id b st' hid he hk
      refine ⟨St.put ⟨t, s, k⟩ dst v, upd h id (some b), ?_, ?_, hk⟩
      · rw [mst_put, he]; simp only [mst, mrg_upd]
      · have : (St.put ⟨t, s, k⟩ dst v).s = s := by cases dst <;> rfl
        rw [this]
        exact hd.upd hid b
    cases i <;> first | (cases hr; done) | skip
    · simp only [stepR] at hK
      simp only [step]
      intro id hid
      obtain ⟨h1, h2⟩ := fresh_mrg hid
      exact fin _ id _ _ h1 rfl (hK id h1 h2)
    · rename_i n a x
      simp only [stepR] at hK
      simp only [step]
      have ea := ev_mst ⟨t, s, k⟩ h a
      have ex := ev_mst ⟨t, s, k⟩ h x
      rw [ea, ex]
      split at hK
      · rename_i id off he
        split at hK
        · rename_i cs hcs
          have hm : (mst ⟨t, s, k⟩ h).s id = some (.cells cs) := mrg_some hcs
          simp only [he, hm]
          obtain ⟨⟨h1, h2, h3⟩, h4⟩ := hK
          exact ⟨h1, h2, h3, fin _ id _ _ (hd id (by rw [hcs]; simp)) rfl h4⟩
        · exact hK.elim
      · exact hK.elim
    · rename_i esz e bytes s0 x
      simp only [stepR] at hK
      simp only [step]
      have ea := ev_mst ⟨t, s, k⟩ h s0
      have ex := ev_mst ⟨t, s, k⟩ h x
      rw [ea, ex]
      split at hK
      · rename_i he1 he2
        simp only [he1, he2]
        obtain ⟨⟨h1, h2, h3, h4, h5, h6⟩, h7⟩ := hK
        refine ⟨h1, h2, h3, h4, fun hy => absurd hy h6, fun _ id c hid hc1 hc2 => ?_⟩
        obtain ⟨g1, g2⟩ := fresh_mrg hid
        exact fin _ id _ _ g1 rfl (h7 ⟨c, hc1, hc2⟩ id g1 g2)
      · exact hK.elim
  · rw [if_neg hr] at hK
    unfold PI.okR at hp
    rw [if_neg hr, Bool.or_eq_true, Bool.or_eq_true] at hp
    have pl : p.i.plain = true := by
      simp only [Ins.plain, Bool.or_eq_true]
      rcases hp with (h | h) | h <;> simp [h]
    rw [run1_gs pl] at hK
    show run1 P p _ ⟨t, mrg s h, k⟩
    rw [run1_gs pl]
    have fin : ∀ v k', K (St.put ⟨t, s, k'⟩ p.dst v) h → ∃ st2 h2, St.put ⟨t, mrg s h, k'⟩ p.dst v = mst st2 h2 ∧ DJ st2.s h2 ∧ K st2 h2 := by
      intro v k' hk
      refine ⟨St.put ⟨t, s, k'⟩ p.dst v, h, ?_, ?_, hk⟩
      · rw [mst_put]; rfl
      · have : (St.put ⟨t, s, k'⟩ p.dst v).s = s := by cases p.dst <;> rfl
        rw [this]
        exact hd
    rcases hp with (hf | hc) | ht
    · obtain ⟨v, h1, h2⟩ := (gs_F hf t).form _ _ _ hK
      have h3 := gs_ext (P := P) hf (s := s) (s' := mrg s h) (k := k) (fun id b e => hd.ext e) (h2 (fun u _ _ => u = v) rfl)
      obtain ⟨u, e, h4⟩ := (gs_F hf t).form _ _ _ h3
      exact h4 _ (e ▸ fin v k h1)
    · refine gs_C_frame hc hd ?_
      obtain ⟨v, h1, h2⟩ := (gs_V (P := P) (by simp [hc]) t).form _ _ _ hK
      exact h2 _ fun _ _ => fin v k h1
    · obtain ⟨Pre, Po, hf, _, _⟩ := (gs_T (P := P) ht t).form
      rw [hf] at hK ⊢
      exact ⟨hK.1, fun v k' hp => fin v k' (hK.2 v k' hp)⟩

/-! ### Trading places -/
abbrev GR := Hp → (Nat → Tk) → Hp → (A → Hp → (Nat → Tk) → Hp → Prop) → Prop
def gsR (p : PI) (t : Nat → A) : GR := fun s k h K => stepR p.i ⟨t, s, k⟩ h fun v h' => K v s k h'
structure IsR (G : GR) : Prop where
  form : ∃ (Pre : Hp → Prop) (Ro : Hp → Hp → A → Hp → Prop), (∀ s k h K, G s k h K ↔ Pre h ∧ ∀ u h', Ro s h u h' → K u s k h') ∧ (∀ s h, (∃ N, ∀ id, N ≤ id → s id = none ∧ h id = none) → Pre h → ∃ u h', Ro s h u h') ∧
    ∀ s h u h', (∃ N, ∀ id, N ≤ id → s id = none ∧ h id = none) → Ro s h u h' → ∃ N, ∀ id, N ≤ id → s id = none ∧ h' id = none
structure IsAl (G : GR) : Prop where
  form : ∃ (Pre : Prop) (ι : Type) (val : ι → Nat → A) (z : ι → Blk), (Pre → Nonempty ι) ∧ ∀ s k h K, G s k h K ↔ Pre ∧ ∀ (i : ι) (id : Nat), s id = none → h id = none → K (val i id) s k (upd h id (some (z i)))
theorem wfh_upd {s h : Hp} (hw : ∃ N, ∀ id, N ≤ id → s id = none ∧ h id = none) (id : Nat) (b : Option Blk) : ∃ N, ∀ i, N ≤ i → s i = none ∧ upd h id b i = none := by
  obtain ⟨N, hN⟩ := hw
  exact ⟨max N (id + 1), fun i hi => ⟨(hN i (by omega)).1, by rw [upd_other _ _ _ _ (by omega)]; exact (hN i (by omega)).2⟩⟩
theorem IsAl.toR {G : GR} (h : IsAl G) : IsR G := by
  obtain ⟨Pre, ι, val, z, hn, hf⟩ := h.form
  refine ⟨fun _ => Pre, fun s h u h' => ∃ (i : ι) (id : Nat), s id = none ∧ h id = none ∧ u = val i id ∧ h' = upd h id (some (z i)), fun s k h K => ?_, fun s h ⟨N, hN⟩ hp => ?_, fun s h u h' hw ⟨i, id, h1, h2, h3, h4⟩ => ?_⟩
  · rw [hf]
    constructor
    · rintro ⟨h1, h2⟩
      exact ⟨h1, fun u h' ⟨i, id, g1, g2, g3, g4⟩ => by rw [g3, g4]; exact h2 i id g1 g2⟩
    · rintro ⟨h1, h2⟩
      exact ⟨h1, fun i id g1 g2 => h2 _ _ ⟨i, id, g1, g2, rfl, rfl⟩⟩
  · obtain ⟨i⟩ := hn hp
    exact ⟨_, _, i, N, (hN N (Nat.le_refl _)).1, (hN N (Nat.le_refl _)).2, rfl, rfl⟩
  · rw [h4]; exact wfh_upd hw id _
def Ins.isAl : Ins → Bool
  | .new _ | .appB .. => true
  | _ => false
theorem gsR_Al {p : PI} (h : p.i.isAl = true) (t : Nat → A) : IsAl (gsR p t) := by
  obtain ⟨dst, g, i⟩ := p
  cases i <;> first | (cases h; done) | skip
  · rename_i z
    exact ⟨True, Unit, fun _ id => .ptr id 0, fun _ => .cells z, fun _ => ⟨()⟩, fun s k h K => ⟨fun hk => ⟨trivial, fun _ id h1 h2 => hk id h1 h2⟩, fun hk id h1 h2 => hk.2 () id h1 h2⟩⟩
  · rename_i esz e bytes s0 x
    have e1 : ∀ s k x, ev ⟨t, s, k⟩ x = ev ⟨t, fun _ => none, fun _ => .unused⟩ x := fun s k x => ev_congr fun _ _ => rfl
    unfold gsR
    simp only [stepR, e1]
    generalize ev ⟨t, fun _ => none, fun _ => .unused⟩ s0 = X
    generalize ev ⟨t, fun _ => none, fun _ => .unused⟩ x = Y
    have stuck : IsAl (fun s k h (K : A → Hp → (Nat → Tk) → Hp → Prop) => False) := ⟨False, Unit, fun _ _ => .undef, fun _ => .cells [], fun h => h.elim, fun s k h K => ⟨fun h => h.elim, fun h => h.1⟩⟩
    cases X <;> cases Y <;> first | exact stuck | skip
    rename_i e1 xs tk e2 ys tk2
    refine ⟨_, { c : Nat // xs.length + ys.length ≤ c ∧ c ≤ maxLen }, fun c id => .sb id 0 esz (xs.length + ys.length) c.1, fun c => .cells (flatS (xs ++ ys) ++ List.replicate ((c.1 - (xs.length + ys.length)) * esz) .undef), fun hp => ?_, fun s k h K => Iff.rfl⟩
    obtain ⟨_, _, _, h4, h5, _⟩ := hp
    refine ⟨⟨xs.length + ys.length, Nat.le_refl _, ?_⟩⟩
    have : xs.length + ys.length ≤ (xs.length + ys.length) * bytes := Nat.le_mul_of_pos_right _ h5
    simp only [maxLen]
    omega
theorem gsR_R {p : PI} (h : p.i.isR = true) (t : Nat → A) : IsR (gsR p t) := by
  by_cases ha : p.i.isAl = true
  · exact (gsR_Al ha t).toR
  · obtain ⟨dst, g, i⟩ := p
    cases i <;> first | (cases h; done) | (exact absurd rfl ha) | skip
    rename_i n a x
    have e1 : ∀ s k x, ev ⟨t, s, k⟩ x = ev ⟨t, fun _ => none, fun _ => .unused⟩ x := fun s k x => ev_congr fun _ _ => rfl
    unfold gsR
    simp only [stepR, e1]
    generalize ev ⟨t, fun _ => none, fun _ => .unused⟩ a = X
    generalize ev ⟨t, fun _ => none, fun _ => .unused⟩ x = Y
    have stuck : IsR (fun s k h (K : A → Hp → (Nat → Tk) → Hp → Prop) => False) :=
      ⟨fun _ => False, fun _ _ _ _ => False, fun s k h K => ⟨fun h => h.elim, fun h => h.1⟩, fun s h hw hp => hp.elim, fun s h u h' hw hr => hr.elim⟩
    cases X <;> first | exact stuck | skip
    rename_i id off
    dsimp only
    refine ⟨fun h => ∃ cs, h id = some (.cells cs) ∧ Y.solid = true ∧ Y.pcells.length = n ∧ off + n ≤ cs.length, fun s h u h' => ∃ cs, h id = some (.cells cs) ∧ u = .undef ∧ h' = upd h id (some (.cells (splice cs off Y.pcells))), fun s k h K => ?_, fun s h hw ⟨cs, h1, _⟩ => ⟨_, _, cs, h1, rfl, rfl⟩, fun s h u h' hw ⟨cs, h1, h2, h3⟩ => ?_⟩
    · constructor
      · intro hk
        split at hk
        · rename_i cs hcs
          exact ⟨⟨cs, hcs, hk.1⟩, fun u h' ⟨cs', g1, g2, g3⟩ => by rw [hcs] at g1; cases g1; rw [g2, g3]; exact hk.2⟩
        · exact hk.elim
      · rintro ⟨⟨cs, h1, h2⟩, h3⟩
        rw [h1]
        exact ⟨h2, h3 _ _ ⟨cs, h1, rfl, rfl⟩⟩
    · rw [h3]; exact wfh_upd hw id _
def WFR (s h : Hp) (k : Nat → Tk) : Prop := ∃ N, ∀ id, N ≤ id → s id = none ∧ h id = none ∧ k id = .unused
theorem WFR.wf {s h : Hp} {k : Nat → Tk} (hw : WFR s h k) : WF s k := by
  obtain ⟨N, hN⟩ := hw
  exact ⟨N, fun id hid => ⟨(hN id hid).1, (hN id hid).2.2⟩⟩
theorem WFR.sh {s h : Hp} {k : Nat → Tk} (hw : WFR s h k) : ∃ N, ∀ id, N ≤ id → s id = none ∧ h id = none := by
  obtain ⟨N, hN⟩ := hw
  exact ⟨N, fun id hid => ⟨(hN id hid).1, (hN id hid).2.1⟩⟩
theorem WFR.mk' {s h : Hp} {k : Nat → Tk} (h1 : ∃ N, ∀ id, N ≤ id → s id = none ∧ h id = none) (h2 : WF s k) : WFR s h k := by
  obtain ⟨N, hN⟩ := h1
  obtain ⟨M, hM⟩ := h2
  exact ⟨max N M, fun id hid => ⟨(hN id (by omega)).1, (hN id (by omega)).2, (hM id (by omega)).2⟩⟩
/-- First p, then q in the text; they may trade places. -/
def commR (p q : PI) : Bool :=
  p.apart q && q.apart p &&
  (if p.i.isR then p.i.isAl && q.i.isAl
   else if q.i.isR then p.i.isF || p.i.isC || p.i.isT
   else (p.i.isF || p.i.isC) && (q.i.isF || q.i.isC) || p.i.isF && q.i.isT || p.i.isT && q.i.isF)
theorem not_R {i : Ins} (h : (i.isF || i.isC || i.isT) = true) : i.isR = false := by cases i <;> first | rfl | cases h
theorem comm_of_R {p q : PI} (hp : p.i.isR = false) (hq : q.i.isR = false) (h : commR p q = true) : comm p q = true := by
  unfold commR at h
  simp only [hp, hq, Bool.false_eq_true, if_false] at h
  unfold comm
  simp only [Bool.and_eq_true, Bool.or_eq_true] at h ⊢
  obtain ⟨h1, h2⟩ := h
  exact ⟨h1, by rcases h2 with (h2 | h2) | h2 <;> simp [h2]⟩
theorem run1R_gs {P : Program} {p : PI} (h : p.i.isR = true) (K : St → Hp → Prop) (t : Nat → A) (s : Hp) (k : Nat → Tk) (hh : Hp) : run1R P p K ⟨t, s, k⟩ hh ↔ gsR p t s k hh fun v s' k' h' => K ⟨putT t p.dst v, s', k'⟩ h' := by
  unfold run1R gsR
  rw [if_pos h]
  have : (fun v h' => K (St.put ⟨t, s, k⟩ p.dst v) h') = fun v h' => K ⟨putT t p.dst v, s, k⟩ h' := by funext v h'; rw [put_putT]
  rw [this]
theorem run1N_gs {P : Program} {p : PI} (h : p.i.isR = false) (hp : p.i.plain = true) (K : St → Hp → Prop) (t : Nat → A) (s : Hp) (k : Nat → Tk) (hh : Hp) : run1R P p K ⟨t, s, k⟩ hh ↔ gs P p t s k fun v s' k' => K ⟨putT t p.dst v, s', k'⟩ hh := by
  unfold run1R
  rw [h]
  simp only [Bool.false_eq_true, if_false]
  rw [run1_gs hp]
  have : (fun v s' k' => K (St.put ⟨t, s', k'⟩ p.dst v) hh) = fun v s' k' => K ⟨putT t p.dst v, s', k'⟩ hh := by funext v s' k'; rw [put_putT]
  rw [this]
theorem gsR_congr {p : PI} (h : p.i.isR = true) {t t' : Nat → A} (ht : ∀ j ∈ p.touch, t j = t' j) {s : Hp} {k : Nat → Tk} {hh : Hp} {K : A → Hp → (Nat → Tk) → Hp → Prop} (hK : gsR p t s k hh K) : gsR p t' s k hh K := by
  have hi : ∀ j ∈ p.i.slots, t j = t' j := fun j hj => ht j (List.mem_append.2 (.inl hj))
  obtain ⟨dst, g, i⟩ := p
  unfold gsR at hK ⊢
  cases i <;> first | (cases h; done) | exact hK | skip
  all_goals
    simp only [Ins.slots, List.mem_append] at hi
    simp only [stepR] at hK ⊢
    rw [← ev_congr (t := t) (s := s) (k := k) fun j hj => hi j (.inl hj), ← ev_congr (t := t) (s := s) (k := k) fun j hj => hi j (.inr hj)]
    exact hK
theorem run1R_mono {P : Program} {p : PI} (hp : p.okR = true) {st : St} {h : Hp} (hw : WFR st.s h st.k) {K K' : St → Hp → Prop} (hi : ∀ st' h', WFR st'.s h' st'.k → K st' h' → K' st' h') (hK : run1R P p K st h) : run1R P p K' st h := by
  obtain ⟨t, s, k⟩ := st
  by_cases hr : p.i.isR = true
  · rw [run1R_gs hr] at hK ⊢
    obtain ⟨Pre, Ro, hf, _, hwf⟩ := (gsR_R hr t).form
    rw [hf] at hK ⊢
    exact ⟨hK.1, fun u h' hro => hi _ _ (WFR.mk' (hwf _ _ _ _ hw.sh hro) hw.wf) (hK.2 u h' hro)⟩
  · have hr' : p.i.isR = false := by simpa using hr
    unfold PI.okR at hp
    rw [if_neg hr, Bool.or_eq_true, Bool.or_eq_true] at hp
    have hfct : p.fct := by
      unfold PI.fct
      rcases hp with (h | h) | h <;> simp [h]
    have pl : p.i.plain = true := by
      simp only [Ins.plain, Bool.or_eq_true]
      rcases hp with (h | h) | h <;> simp [h]
    rw [run1N_gs hr' pl] at hK ⊢
    have key : ∀ (t : Nat → A), gs P p t s k (fun v s' k' => s' = s → WFR s h k' → K ⟨putT t p.dst v, s', k'⟩ h) → gs P p t s k (fun v s' k' => K' ⟨putT t p.dst v, s', k'⟩ h) := by
      intro t hg
      rcases hfct with h1 | h1
      · obtain ⟨v, g1, g2⟩ := (gs_V h1 t).form _ _ _ hg
        exact g2 _ (hi _ _ hw (g1 rfl hw))
      · obtain ⟨Pre, Po, hf, _, hwf⟩ := (gs_T (P := P) h1 t).form
        rw [hf] at hg ⊢
        refine ⟨hg.1, fun v k' hpo => ?_⟩
        have hw' : WFR s h k' := WFR.mk' hw.sh (hwf _ _ _ _ hw.wf hpo)
        exact hi _ _ hw' (hg.2 v k' hpo rfl hw')
    refine key t ?_
    rcases hfct with h1 | h1
    · obtain ⟨v, g1, g2⟩ := (gs_V h1 t).form _ _ _ hK
      exact g2 _ fun _ _ => g1
    · obtain ⟨Pre, Po, hf, _, _⟩ := (gs_T (P := P) h1 t).form
      rw [hf] at hK ⊢
      exact ⟨hK.1, fun v k' hpo _ _ => hK.2 v k' hpo⟩
theorem swapR {P : Program} {p q : PI} (hpo : p.okR = true) (hqo : q.okR = true) (h : commR p q = true) {t : Nat → A} {s : Hp} {k : Nat → Tk} {hh : Hp} (hw : WFR s hh k) {K : St → Hp → Prop} (hK : run1R P p (run1R P q K) ⟨t, s, k⟩ hh) : run1R P q (run1R P p K) ⟨t, s, k⟩ hh := by
  by_cases hq : q.i.isR = true
  · have hap : p.apart q = true ∧ q.apart p = true := by
      unfold commR at h
      simp only [Bool.and_eq_true] at h
      exact h.1
    obtain ⟨a1, a2⟩ := PI.apart_spec hap.1
    obtain ⟨b1, b2⟩ := PI.apart_spec hap.2
    by_cases hp : p.i.isR = true
    · -- two new boxes
      have hal : p.i.isAl = true ∧ q.i.isAl = true := by
        unfold commR at h
        simp only [hp, if_true, Bool.and_eq_true] at h
        exact h.2
      rw [run1R_gs hp] at hK
      rw [run1R_gs hq]
      obtain ⟨Pp, ιp, vp, zp, np, fp⟩ := (gsR_Al hal.1 t).form
      obtain ⟨Pq, ιq, vq, zq, nq, fq⟩ := (gsR_Al hal.2 t).form
      have hK2 : gsR p t s k hh fun v s' k' h' => gsR q t s' k' h' fun u s'' k'' h'' => K ⟨putT (putT t p.dst v) q.dst u, s'', k''⟩ h'' := by
        rw [fp] at hK ⊢
        refine ⟨hK.1, fun i id h1 h2 => ?_⟩
        have := hK.2 i id h1 h2
        rw [run1R_gs hq] at this
        exact gsR_congr hq (fun j hj => (a1 t _ j hj).symm) this
      have key : gsR q t s k hh fun u s' k' h' => gsR p t s' k' h' fun v s'' k'' h'' => K ⟨putT (putT t p.dst v) q.dst u, s'', k''⟩ h'' := by
        rw [fp] at hK2
        rw [fq]
        refine ⟨?_, fun j id2 g1 g2 => ?_⟩
        · obtain ⟨i⟩ := np hK2.1
          obtain ⟨N, hN⟩ := hw
          have := hK2.2 i N (hN N (Nat.le_refl _)).1 (hN N (Nat.le_refl _)).2.1
          rw [fq] at this
          exact this.1
        · rw [fp]
          refine ⟨hK2.1, fun i id g3 g4 => ?_⟩
          have hne : id ≠ id2 := fun e => by subst e; simp [upd] at g4
          rw [upd_other _ _ _ _ hne] at g4
          have := hK2.2 i id g3 g4
          rw [fq] at this
          have := this.2 j id2 g1 (by rw [upd_other _ _ _ _ (Ne.symm hne)]; exact g2)
          rwa [upd_comm _ hne] at this
      rw [fq] at key ⊢
      refine ⟨key.1, fun j id2 g1 g2 => ?_⟩
      rw [run1R_gs hp]
      refine gsR_congr hp (t := t) (fun i hi => b1 t _ i hi) ?_
      have := key.2 j id2 g1 g2
      simpa only [putT_comm t a2] using this
    · -- a value, then the memory apart
      have hp' : p.i.isR = false := by simpa using hp
      have hc : (p.i.isF || p.i.isC || p.i.isT) = true := by
        unfold commR at h
        simp only [hp', hq, Bool.false_eq_true, if_false, if_true, Bool.and_eq_true] at h
        exact h.2
      have hc' := hc
      rw [Bool.or_eq_true, Bool.or_eq_true] at hc
      have pl : p.i.plain = true := by
        simp only [Ins.plain, Bool.or_eq_true]
        rcases hc with (h | h) | h <;> simp [h]
      have pc : p.i.isF = true ∨ p.i.isC = true ∨ p.i.isT = true ∨ p.i.isN = true := by
        rcases hc with (h | h) | h
        · exact .inl h
        · exact .inr (.inl h)
        · exact .inr (.inr (.inl h))
      rw [run1N_gs hp' pl] at hK
      rw [run1R_gs hq]
      obtain ⟨Pq, Ro, fq, eq, _⟩ := (gsR_R hq t).form
      have conv : ∀ v s' k', run1R P q K ⟨putT t p.dst v, s', k'⟩ hh → gsR q t s' k' hh fun u s'' k'' h'' => K ⟨putT (putT t p.dst v) q.dst u, s'', k''⟩ h'' := by
        intro v s' k' hv
        rw [run1R_gs hq] at hv
        exact gsR_congr hq (fun j hj => (a1 t _ j hj).symm) hv
      have back : ∀ u h' s' k', gs P p t s' k' (fun v s'' k'' => K ⟨putT (putT t p.dst v) q.dst u, s'', k''⟩ h') → run1R P p K ⟨putT t q.dst u, s', k'⟩ h' := by
        intro u h' s' k' hv
        rw [run1N_gs hp' pl]
        refine gs_congr pc (t := t) (fun j hj => b1 t u j hj) ?_
        simpa only [putT_comm t a2] using hv
      rcases hc with hfc | ht
      · obtain ⟨v, h1, h2⟩ := (gs_V (P := P) (by simpa [Bool.or_eq_true] using hfc) t).form _ _ _ hK
        have h3 := conv v s k h1
        rw [fq] at h3 ⊢
        exact ⟨h3.1, fun u h' hro => back u h' s k (h2 _ (h3.2 u h' hro))⟩
      · obtain ⟨Pre, Po, hf, hex, _⟩ := (gs_T (P := P) ht t).form
        rw [hf] at hK
        rw [fq]
        obtain ⟨v0, k0, hp0⟩ := hex s k hw.wf hK.1
        have h3 := conv v0 s k0 (hK.2 v0 k0 hp0)
        rw [fq] at h3
        refine ⟨h3.1, fun u h' hro => back u h' s k ?_⟩
        rw [hf]
        refine ⟨hK.1, fun v k' hpo => ?_⟩
        have h4 := conv v s k' (hK.2 v k' hpo)
        rw [fq] at h4
        exact h4.2 u h' hro
  · have hq' : q.i.isR = false := by simpa using hq
    have hp' : p.i.isR = false := by
      by_cases hp : p.i.isR = true
      · unfold commR at h
        simp only [hp, if_true, Bool.and_eq_true] at h
        have := h.2.2
        cases hqi : q.i <;> rw [hqi] at this hq' <;> simp [Ins.isR, Ins.isAl] at this hq'
      · simpa using hp
    have hcm := comm_of_R hp' hq' h
    have e1 : ∀ (K : St → Hp → Prop) st, run1R P q K st hh = run1 P q (fun st' => K st' hh) st := by
      intro K st; unfold run1R; rw [hq']; rfl
    have e2 : ∀ (K : St → Hp → Prop) st, run1R P p K st hh = run1 P p (fun st' => K st' hh) st := by
      intro K st; unfold run1R; rw [hp']; rfl
    rw [e2] at hK
    rw [e1]
    simp only [e1] at hK
    simp only [e2]
    exact swap_run hcm hw.wf hK
theorem runsR_move {P : Program} {p : PI} (hp : p.okR = true) {K : St → Hp → Prop} (l2 : List PI) : ∀ (l1 : List PI), (∀ x ∈ l1, x.okR = true ∧ commR x p = true) → ∀ (st : St) (h : Hp), WFR st.s h st.k → runsR P (l1 ++ p :: l2) K st h → run1R P p (runsR P (l1 ++ l2) K) st h
  | [], _, st, h, _, hr => hr
  | x :: l1, hx, st, h, hw, hr => by
    obtain ⟨hxo, hc⟩ := hx x (by simp)
    have ih := runsR_move (P := P) hp (K := K) l2 l1 fun y hy => hx y (by simp [hy])
    have h' : run1R P x (run1R P p (runsR P (l1 ++ l2) K)) st h := run1R_mono hxo hw (fun st' h' hw' hk => ih st' h' hw' hk) hr
    obtain ⟨t, s, k⟩ := st
    exact swapR hxo hp hc hw h'

def drawOKR (ops : Array Oper) (ps : List PI) : Bool :=
  let ms := maskGo ops.toList []
  (ops.toList.zipIdx.all fun (o, i) => o.after.toList.all fun e => !Region.binds .any e || decide (e.on < i)) && (ps.all fun p => p.okR) &&
  (ps.zipIdx.all fun (p, i) => (ps.take i).zipIdx.all fun (q, j) => ((ms[i]?).getD 0).testBit j || commR q p)
theorem drawOKR_spec {ops : Array Oper} {ps : List PI} (h : drawOKR ops ps = true) :
    (∀ (i : Nat) (o : Oper) (e : Edge), ops[i]? = some o → e ∈ o.after.toList → Region.binds .any e = true → e.on < i) ∧ (∀ p ∈ ps, p.okR = true) ∧
    ∀ (i j : Nat) (p q : PI), ps[i]? = some p → ps[j]? = some q → j < i → (((maskGo ops.toList [])[i]?).getD 0).testBit j = true ∨ commR q p = true := by
  unfold drawOKR at h
  rw [Bool.and_eq_true, Bool.and_eq_true] at h
  obtain ⟨⟨h1, h3⟩, h2⟩ := h
  rw [List.all_eq_true] at h1 h2 h3
  refine ⟨fun i o e ho he hb => ?_, h3, fun i j p q hp hq hj => ?_⟩
  · have := h1 (o, i) (List.mk_mem_zipIdx_iff_getElem?.2 (by simpa using ho))
    rw [List.all_eq_true] at this
    have := this e he
    simpa [hb] using this
  · have := h2 (p, i) (List.mk_mem_zipIdx_iff_getElem?.2 hp)
    rw [List.all_eq_true] at this
    have := this (q, j) (List.mk_mem_zipIdx_iff_getElem?.2 (by rw [List.getElem?_take_of_lt hj]; exact hq))
    simpa [Bool.or_eq_true] using this
theorem Inv.wfr {n : Nat} {w0 : World} {E0 : Env} {s0 : Hp} {k0 : Nat → Tk} {st : St} {h : Hp} {a : Act} {w : World} {E : Env} (hI : Inv n w0 E0 s0 k0 (mst st h) a w E) : WFR st.s h st.k := by
  obtain ⟨N, hN⟩ := hI.wf
  refine ⟨N, fun id hid => ?_⟩
  obtain ⟨h1, h2⟩ := hN id hid
  obtain ⟨h3, h4⟩ := fresh_mrg h1
  exact ⟨h3, h4, h2⟩
theorem anyR_sound {P : Program} {ops : Array Oper} {n : Nat} {w0 : World} {E0 : Env} {s0 : Nat → Option Blk} {k0 : Nat → Tk} {Q : Exit → Act → World → Prop} {K : St → Hp → Prop}
    (hQ : ∀ st' h' a' w' E', K st' h' → Inv n w0 E0 s0 k0 (mst st' h') a' w' E' → Q .normal a' w') {ps : List PI} (h : ops.toList.mapM (trPI P B ops n true) = some ps) (hd : drawOKR ops ps = true) :
    ∀ (fuel : Nat) (listed : Array Bool), listed.size = ops.size → Closed ops listed → ((List.range ops.size).filter fun i => !listed.getD i true).length ≤ fuel → ∀ (st : St) (hh : Hp) (a : Act) (w : World) (E : Env), DJ st.s hh → Inv n w0 E0 s0 k0 (mst st hh) a w E →
      runsR P (rest ps listed (List.range ops.size)) K st hh → wpAny P .any ops Q fuel listed a w := by
  obtain ⟨hb, hok, hc⟩ := drawOKR_spec hd
  obtain ⟨hlen, hget⟩ := mapM_get h
  have hlen' : ps.length = ops.size := by rw [hlen]; simp
  have done : ∀ (listed : Array Bool), listed.size = ops.size → Region.ready .any ops listed = [] → (List.range ops.size).filter (fun i => !listed.getD i true) = [] := by
    intro listed hsz hr
    rcases hf : (List.range ops.size).filter (fun i => !listed.getD i true) with _ | ⟨x, r⟩
    · rfl
    · exfalso
      have hex : ∃ i, i < ops.size ∧ listed.getD i true = false := by
        have : x ∈ (List.range ops.size).filter (fun i => !listed.getD i true) := by rw [hf]; simp
        rw [List.mem_filter, List.mem_range] at this
        exact ⟨x, this.1, by simpa using this.2⟩
      obtain ⟨i, hi⟩ := hex
      have hmin : ∃ i, (i < ops.size ∧ listed.getD i true = false) ∧ ∀ j, j < i → listed.getD j false = true := by
        clear hf hr
        induction i using Nat.strongRecOn with
        | _ i ih =>
          by_cases hall : ∀ j, j < i → listed.getD j false = true
          · exact ⟨i, hi, hall⟩
          · simp only [Classical.not_forall] at hall
            obtain ⟨j, hj, hl⟩ := hall
            refine ih j hj ⟨by omega, ?_⟩
            have hlt : j < listed.size := by omega
            simp only [Array.getD_eq_getD_getElem?, Array.getElem?_eq_getElem hlt, Option.getD_some] at hl ⊢
            simpa using hl
      obtain ⟨i, ⟨hi, hl⟩, hall⟩ := hmin
      have : i ∈ Region.ready .any ops listed := by
        rw [mem_ready]
        exact ⟨hl, ops[i], Array.getElem?_eq_getElem hi, fun e he hbd => hall _ (hb i _ e (Array.getElem?_eq_getElem hi) (by simpa using he) hbd)⟩
      rw [hr] at this
      cases this
  intro fuel
  induction fuel with
  | zero =>
    intro listed hsz hcl hle st hh a w E hdj hI hr
    have hnil : (List.range ops.size).filter (fun i => !listed.getD i true) = [] := List.eq_nil_of_length_eq_zero (by omega)
    refine ⟨?_, ?_⟩
    · rcases hrd : Region.ready .any ops listed with _ | ⟨i, r⟩
      · rfl
      · exfalso
        have hi : i ∈ Region.ready .any ops listed := by rw [hrd]; simp
        rw [mem_ready] at hi
        obtain ⟨h1, o, h2, _⟩ := hi
        have : i ∈ (List.range ops.size).filter (fun i => !listed.getD i true) := by
          rw [List.mem_filter, List.mem_range]
          exact ⟨(Array.getElem?_eq_some_iff.1 h2).1, by rw [h1]; rfl⟩
        rw [hnil] at this
        cases this
    · unfold rest at hr
      rw [hnil] at hr
      exact hQ st hh a w E hr hI
  | succ fuel ih =>
    intro listed hsz hcl hle st hh a w E hdj hI hr
    refine ⟨fun hrd => ?_, fun i hi => ?_⟩
    · unfold rest at hr
      rw [done listed hsz hrd] at hr
      exact hQ st hh a w E hr hI
    · rw [mem_ready] at hi
      obtain ⟨hl, o, ho, hpre⟩ := hi
      have hilt : i < ops.size := (Array.getElem?_eq_some_iff.1 ho).1
      obtain ⟨p, hp, htr⟩ := hget i o (by simpa using ho)
      have hpok := hok p (List.mem_of_getElem? hp)
      obtain ⟨L, R, hLR⟩ := List.append_of_mem (List.mem_range.2 hilt)
      have hsorted := List.pairwise_lt_range (n := ops.size)
      rw [hLR, List.pairwise_append] at hsorted
      have hL : ∀ x ∈ L, x < i := fun x hx => hsorted.2.2 x hx i (by simp)
      have hR : ∀ x ∈ R, i < x := fun x hx => (List.pairwise_cons.1 hsorted.2.1).1 x hx
      have hset : ∀ x, x ≠ i → (listed.setIfInBounds i true).getD x true = listed.getD x true := fun x hx => getD_set_ne true (Ne.symm hx)
      have hseti : (listed.setIfInBounds i true).getD i true = true := by
        have : i < listed.size := by omega
        simp [this]
      have f1 : ∀ l : List Nat, (∀ x ∈ l, x ≠ i) → (l.filter fun i => !listed.getD i true) = l.filter fun x => !(listed.setIfInBounds i true).getD x true := by
        intro l hl
        refine List.filter_congr fun x hx => ?_
        rw [hset x (hl x hx)]
      have eL := f1 L fun x hx => Nat.ne_of_lt (hL x hx)
      have eR := f1 R fun x hx => (Nat.ne_of_lt (hR x hx)).symm
      have hl' : (!listed.getD i true) = true := by rw [hl]; rfl
      have hrest : rest ps listed (List.range ops.size) = rest ps (listed.setIfInBounds i true) L ++ p :: rest ps (listed.setIfInBounds i true) R := by
        unfold rest
        rw [hLR, List.filter_append, List.filter_cons_of_pos (p := fun i => !listed.getD i true) hl', List.filterMap_append, List.filterMap_cons_some hp, eL, eR]
      have hrest' : rest ps (listed.setIfInBounds i true) (List.range ops.size) = rest ps (listed.setIfInBounds i true) L ++ rest ps (listed.setIfInBounds i true) R := by
        unfold rest
        rw [hLR, List.filter_append, List.filter_cons_of_neg (by rw [hseti]; simp), List.filterMap_append]
      rw [hrest] at hr
      have hmv := runsR_move hpok _ _ ?_ st hh hI.wfr hr
      · have hmg := run1R_merge hpok hdj hmv
        have hnext : ∀ st' a' w' E', (∃ st2 h2, st' = mst st2 h2 ∧ DJ st2.s h2 ∧ runsR P (rest ps (listed.setIfInBounds i true) L ++ rest ps (listed.setIfInBounds i true) R) K st2 h2) → Inv n w0 E0 s0 k0 st' a' w' E' → wpAny P .any ops Q fuel (listed.setIfInBounds i true) a' w' := by
          rintro st' a' w' E' ⟨st2, h2, rfl, hdj2, hk⟩ hI'
          refine ih (listed.setIfInBounds i true) (by simpa using hsz) ?_ ?_ st2 h2 a' w' E' hdj2 hI' (by rw [hrest']; exact hk)
          · intro j o' e hj ho' he hbd
            by_cases hji : j = i
            · subst hji
              rw [ho] at ho'
              cases ho'
              exact getD_set_true (hpre e (by simpa using he) hbd)
            · rw [getD_set_ne false (Ne.symm hji)] at hj
              exact getD_set_true (hcl j o' e hj ho' he hbd)
          · rw [hLR, List.filter_append, List.filter_cons_of_neg (by rw [hseti]; simp), ← eL, ← eR]
            rw [hLR, List.filter_append, List.filter_cons_of_pos (p := fun i => !listed.getD i true) hl'] at hle
            simp only [List.length_append, List.length_cons] at hle ⊢
            omega
        have := run1_sound htr hI hmg (Q := Q) hnext
        unfold wpOp
        rw [ho]
        dsimp only
        split
        · rename_i hw
          rw [if_pos hw] at this
          exact .inl this
        · rename_i hw
          rw [if_neg hw] at this
          exact this
      · intro q hq
        unfold rest at hq
        rw [List.mem_filterMap] at hq
        obtain ⟨j, hj, hq⟩ := hq
        rw [List.mem_filter] at hj
        have hji := hL j hj.1
        rcases hc i j p q hp hq hji with hm | hm
        · exfalso
          have hj2 := hj.2
          rw [hset j (Nat.ne_of_lt hji)] at hj2
          have := closed_mask hcl i o j ho (fun e he hbd => hpre e (by simpa using he) hbd) hm
          have hlt : j < listed.size := by omega
          simp only [Array.getD_eq_getD_getElem?, Array.getElem?_eq_getElem hlt, Option.getD_some] at this hj2
          rw [this] at hj2
          cases hj2
        · exact ⟨hok q (List.mem_of_getElem? hq), hm⟩


theorem drawR_sound {P : Program} {ops : Array Oper} {n : Nat} {w0 : World} {E0 : Env} {s0 : Nat → Option Blk} {k0 : Nat → Tk} {Q : Exit → Act → World → Prop} {K : St → Hp → Prop} (hm : P.follows .mixedOrders = true)
    (hQ : ∀ st' h' a' w' E', K st' h' → Inv n w0 E0 s0 k0 (mst st' h') a' w' E' → Q .normal a' w') {ps : List PI} (h : ops.toList.mapM (trPI P B ops n true) = some ps) (hd : drawOKR ops ps = true) {st : St} {hh : Hp} {a : Act} {w : World} {E : Env} (hdj : DJ st.s hh) (hI : Inv n w0 E0 s0 k0 (mst st hh) a w E)
    (hr : runsR P ps K st hh) {id : Nat} : (Code.region id ops true).wp P Q a w := by
  refine wp_region_any hm ?_
  have hlen : ps.length = ops.size := by rw [(mapM_get h).1]; simp
  have hrep : ∀ i d, i < ops.size → (Array.replicate ops.size false).getD i d = false := by
    intro i d hi
    simp [hi]
  have hfil : (List.range ops.size).filter (fun i => !(Array.replicate ops.size false).getD i true) = List.range ops.size := by
    rw [List.filter_eq_self]
    intro i hi
    rw [hrep i true (List.mem_range.1 hi)]
    rfl
  refine anyR_sound hQ h hd ops.size (Array.replicate ops.size false) (by simp) ?_ ?_ st hh a { w with drawn := w.drawn + 1 } E hdj ?_ ?_
  · intro i o e hi ho
    rw [hrep i false (Array.getElem?_eq_some_iff.1 ho).1] at hi
    cases hi
  · rw [hfil]; simp
  · exact ⟨hI.reach.trans (hI.reach.S.agree (Agree.drew w)), fun j => (hI.reach.S.agree (Agree.drew w)).ext.relp (hI.tm j), hI.size, hI.df⟩
  · have : rest ps (Array.replicate ops.size false) (List.range ops.size) = ps := by
      unfold rest
      rw [hfil, ← hlen]
      exact range_get ps
    rw [this]
    exact hr

/-- Some boxes are laid apart. -/
def takeR : List Nat → (Nat → A) → Hp → Hp → (Hp → Hp → Prop) → Prop
  | [], _, s, h, K => K s h
  | b :: bs, t, s, h, K => match t b with
    | .ptr id _ => match s id with
      | some blk => takeR bs t (upd s id none) (upd h id (some blk)) K
      | none => False
    | _ => False
theorem takeR_spec : ∀ (bs : List Nat) (t : Nat → A) (s h : Hp) (K : Hp → Hp → Prop), DJ s h → takeR bs t s h K → ∃ s' h', mrg s' h' = mrg s h ∧ DJ s' h' ∧ K s' h'
  | [], t, s, h, K, hd, hk => ⟨s, h, rfl, hd, hk⟩
  | b :: bs, t, s, h, K, hd, hk => by
    simp only [takeR] at hk
    split at hk
    · rename_i id off he
      split at hk
      · rename_i blk hb
        have hh : h id = none := by
          cases hx : h id with
          | none => rfl
          | some x => have := hd id (by rw [hx]; simp); rw [hb] at this; cases this
        have hd' : DJ (upd s id none) (upd h id (some blk)) := by
          intro j hj
          by_cases e : j = id
          · subst e; simp [upd]
          · rw [upd_other _ _ _ _ e] at hj ⊢; exact hd j hj
        obtain ⟨s', h', h1, h2, h3⟩ := takeR_spec bs t _ _ K hd' hk
        refine ⟨s', h', h1.trans ?_, h2, h3⟩
        funext j
        by_cases e : j = id
        · subst e; simp [mrg, upd, hh, hb]
        · simp only [mrg, upd_other _ _ _ _ e]
      · exact hk.elim
    · exact hk.elim

end Go.Pv
