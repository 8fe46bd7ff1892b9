/- Each operation of the program that has a compact form does what that form says: comparisons, calls, slices, maps. -/
import Derived.Test.YtlcacobkiglmbaaPvX
import Derived.Laws.Slices
set_option linter.unusedVariables false
set_option linter.unusedSimpArgs false
namespace Go.Pv
open Go
section
variable {P : Program} {st : St} {K : A → St → Prop} {a : Act} {w : World} {E : Env} {N : Value → World → Prop}

theorem snd_conv {T t1 t2 : TypeId} {k : IntKind} {X : Operand} {x : Opd} (hx : opdA P T X = some x) (h1 : (P.underlying t1).isSome = true) (h2 : P.underlying t2 = some (.int k))
    (hs : step P (.conv k x) st K) (hS : InvS w E st.s st.k) (hT : Tm w E st a) (hA : After P st w E K N) : Good P w N (do pure (.value (← convert t1 t2 (a.eval X)))) := by
  obtain ⟨d, hd⟩ := Option.isSome_iff_exists.1 h1
  simp only [step] at hs
  split at hs
  · rename_i k' n he
    rw [rel_int (opdA_rel hx hT).rel he]
    refine good_v (v := .int k (k.wrap n)) (w' := w) ?_ (hA.same hS hs (relp_of (.int ..) (by simp)))
    simp [convert, run_underlying hd, run_underlying h2, Conv.intToInt]
  · exact hs.elim

theorem snd_idc {T t1 t2 : TypeId} {X : Operand} {x : Opd} (hx : opdA P T X = some x) (h1 : (P.underlying t1).isSome = true) (h2 : P.underlying t2 = some .string)
    (hs : step P (.idc x) st K) (hS : InvS w E st.s st.k) (hT : Tm w E st a) (hA : After P st w E K N) : Good P w N (do pure (.value (← convert t1 t2 (a.eval X)))) := by
  obtain ⟨d, hd⟩ := Option.isSome_iff_exists.1 h1
  simp only [step] at hs
  split at hs
  · rename_i s he
    rw [rel_str (opdA_rel hx hT).rel he]
    refine good_v (v := .string s) (w' := w) ?_ (hA.same hS hs (relp_of (.str _) (by simp)))
    simp [convert, run_underlying hd, run_underlying h2]
  · exact hs.elim

/-! ### Calls -/
theorem snd_call {F : Operand} {f : Opd} {Xs : Array Operand} {xs : List Opd} {ts : Array TypeId} {q : Bool} {ty : TypeId} (hf : opdA P 0 F = some f) (hxs : ((Xs.toList.zip ts.toList).mapM fun z => opdA P z.2 z.1) = some xs) (hl : Xs.size = ts.size)
    (hs : step P (.call q f xs) st K) (hS : InvS w E st.s st.k) (hT : Tm w E st a) (hA : After P st w E K N) :
    Good P w N (do let d ← resolve a.eval { callee := .value F, args := Xs, argTypes := ts } ty; invoke d.target d.args) := by
  have hargs : ∀ (l : List (Operand × TypeId)) (ys : List Opd), (l.mapM fun z => opdA P z.2 z.1) = some ys → l.length = ys.length ∧ ∀ (j : Nat) (x : A), (ys.map fun y => (ev st y).strip)[j]? = some x → ∃ z : Operand × TypeId, l[j]? = some z ∧ Rel w E x (a.eval z.1) := by
    intro l
    induction l with
    | nil => intro ys h; simp at h; subst h; exact ⟨rfl, by simp⟩
    | cons z l ih =>
      intro ys h
      simp only [List.mapM_cons, Option.bind_eq_bind, Option.bind_eq_some_iff, Option.pure_def, Option.some.injEq] at h
      obtain ⟨y, hy, ys', hys, rfl⟩ := h
      obtain ⟨g1, g2⟩ := ih ys' hys
      refine ⟨by simp [g1], fun j x hx => ?_⟩
      cases j with
      | zero => simp at hx; subst hx; exact ⟨z, rfl, (opdA_rel hy hT).rel.strip⟩
      | succ j => obtain ⟨z', h1, h2⟩ := g2 j x (by simpa using hx); exact ⟨z', by simpa using h1, h2⟩
  obtain ⟨hlen, harg⟩ := hargs _ _ hxs
  have hzl : (Xs.toList.zip ts.toList).length = Xs.size := by simp [hl]
  simp only [step] at hs
  split at hs
  · rename_i fid caps he
    have hrf := (opdA_rel hf hT).rel
    rw [he] at hrf
    have hres : ∃ vs, a.eval F = .func (.func fid) #[] vs ∧ vs.size = caps.length ∧ ∀ j x, caps[j]? = some x → Rel w E x (vs.getD j Go.undef) := by
      generalize a.eval F = F' at hrf
      cases hrf with
      | fn _ _ vs h1 h2 => exact ⟨vs, rfl, h1, h2⟩
    obtain ⟨vs, hF, hv1, hv2⟩ := hres
    have hrun : (do let d ← resolve a.eval { callee := .value F, args := Xs, argTypes := ts } ty; invoke d.target d.args : Sem Next).run P w = (callFunc fid (Xs.map a.eval ++ vs)).run P w := by
      simp [resolve, hF, Deferred.ofValue, invoke]
    have hall : ∀ j x, (xs.map (fun y => (ev st y).strip) ++ caps)[j]? = some x → Rel w E x ((Xs.map a.eval ++ vs).getD j Go.undef) := by
      intro j x hx
      by_cases hj : j < xs.length
      · rw [List.getElem?_append_left (by simpa using hj)] at hx
        obtain ⟨z, h1, h2⟩ := harg j x hx
        have hXj : Xs[j]? = some z.1 := by
          rw [List.getElem?_zip_eq_some] at h1
          simpa using h1.1
        rw [Array.getD_eq_getD_getElem?, Array.getElem?_append_left (by simp; omega), Array.getElem?_map, hXj]
        exact h2
      · rw [List.getElem?_append_right (by simp; omega)] at hx
        rw [Array.getD_eq_getD_getElem?, Array.getElem?_append_right (by simp; omega)]
        have := hv2 _ x hx
        rw [Array.getD_eq_getD_getElem?] at this
        simp only [List.length_map, Array.size_map] at this ⊢
        rw [show Xs.size = xs.length from by omega]
        exact this
    have hsz : (Xs.map a.eval ++ vs).size = (xs.map (fun y => (ev st y).strip) ++ caps).length := by simp; omega
    have fin : ∀ R, SpecR P fid (xs.map (fun y => (ev st y).strip) ++ caps) st.s st.k R → (∀ r s' k', R r s' k' → K r.strip ⟨st.t, s', k'⟩) →
        Good P w N (do let d ← resolve a.eval { callee := .value F, args := Xs, argTypes := ts } ty; invoke d.target d.args) := by
      intro R hsp hk
      have hc := hsp w E _ hS hsz hall
      unfold CallsV at hc
      cases hres : (callFunc fid (Xs.map a.eval ++ vs)).run P w with
      | halt x w' => rw [hres] at hc; exact hc.elim
      | ok n w' =>
        rw [hres] at hc
        cases n with
        | value v =>
          obtain ⟨r, s', k', h0, E', h1, h2⟩ := hc
          exact good_value (hrun.trans hres) (hA _ _ _ _ _ _ (hk _ _ _ h0) h1 (relp_strip h2))
        | enter g as =>
          exact good_enter (hrun.trans hres) (upon_calls (R := fun e w'' => ∃ v, e = .returned v ∧ N v w'') (fun v w'' ⟨r, s', k', h0, E', h1, h2⟩ => ⟨v, rfl, hA _ _ _ _ _ _ (hk _ _ _ h0) h1 (relp_strip h2)⟩) hc)
        | _ => exact hc.elim
    cases q with
    | true =>
      simp only [if_true] at hs
      obtain ⟨r, h1, h2⟩ := hs
      exact fin _ h1.toR fun r s' k' ⟨e1, e2, e3⟩ => by rw [e1, e2, e3]; exact h2
    | false =>
      simp only [Bool.false_eq_true, if_false] at hs
      obtain ⟨R, h1, h2⟩ := hs
      exact fin R h1 h2
  · exact hs.elim

/-! ### Slices -/
theorem snd_lens {T t e ty : TypeId} {X : Operand} {x : Opd} (hx : opdA P T X = some x) (hu : P.underlying t = some (.slice e))
    (hs : step P (.len false x) st K) (hS : InvS w E st.s st.k) (hT : Tm w E st a) (hA : After P st w E K N) : Good P w N (do pure (.value (← Builtin.len_ #[t] ty #[a.eval X]))) := by
  have hr := (opdA_rel hx hT).rel
  simp only [step] at hs
  split at hs
  · rename_i esz xs tk hq he
    rw [he] at hr
    generalize a.eval X = X' at hr
    cases hr with
    | sl _ _ _ ad c f h1 h2 h3 h4 h5 h6 h7 =>
      exact good_v (v := .int .i64 xs.length) (w' := w) (by simp [Builtin.len_, run_underlying hu, goInt]) (hA.same hS hs (relp_of (.int ..) (by simp)))
  · rename_i id off esz n c hq he
    rw [he] at hr
    generalize a.eval X = X' at hr
    cases hr with
    | sb _ _ _ _ _ b o hb hn hm ho =>
      exact good_v (v := .int .i64 n) (w' := w) (by simp [Builtin.len_, run_underlying hu, goInt]) (hA.same hS hs (relp_of (.int ..) (by simp)))
  · rename_i hq he; cases hq
  · exact hs.elim
theorem snd_nilc {T : TypeId} {F : String → Array Value → Array Value → Sem Next} {X : Operand} {x : Opd} (hx : opdA P T X = some x) (hs : step P (.nilc x) st K) (hS : InvS w E st.s st.k) (hT : Tm w E st a) (hA : After P st w E K N) :
    Good P w N (match a.eval X with
    | .pointer none | .nilIface | .nilFunc => runtimePanic .nilDeref
    | .func (.method name) first captured => F name first captured
    | x => pure (.value x)) := by
  have hr := (opdA_rel hx hT).rel
  simp only [step] at hs
  split at hs
  · rename_i id off he
    rw [he] at hr
    generalize a.eval X = X' at hr
    cases hr with
    | ptr _ _ b hb => exact good_value (v := .pointer (some ⟨b, off, none⟩)) (w' := w) rfl (hA.same hS hs (relp_of (.ptr id off b hb) (by simp)))
  · rename_i cs off he
    rw [he] at hr
    generalize a.eval X = X' at hr
    cases hr with
    | el _ _ b o f ha hr => exact good_value (v := .pointer (some ⟨b, o + off, none⟩)) (w' := w) rfl (hA.same hS hs (relp_of (.el cs off b o f ha hr) (by simp)))
  · exact hs.elim
theorem snd_cap {T t e ty : TypeId} {X : Operand} {x : Opd} (hx : opdA P T X = some x) (hu : P.underlying t = some (.slice e))
    (hs : step P (.capn x) st K) (hS : InvS w E st.s st.k) (hT : Tm w E st a) (hA : After P st w E K N) : Good P w N (do pure (.value (← Builtin.cap_ #[t] ty #[a.eval X]))) := by
  have hr := (opdA_rel hx hT).rel
  simp only [step] at hs
  split at hs
  · rename_i id off esz n c he
    rw [he] at hr
    generalize a.eval X = X' at hr
    cases hr with
    | sb _ _ _ _ _ b o hb hn hm ho =>
      exact good_v (v := .int .i64 c) (w' := w) (by simp [Builtin.cap_, run_underlying hu, goInt]) (hA.same hS hs (relp_of (.int ..) (by simp)))
  · rename_i esz xs he
    rw [he] at hr
    generalize a.eval X = X' at hr
    cases hr with
    | sl _ _ _ ad c f h1 h2 h3 h4 h5 h6 h7 =>
      exact good_v (v := .int .i64 xs.length) (w' := w) (by simp [Builtin.cap_, run_underlying hu, goInt, h4 rfl]) (hA.same hS hs (relp_of (.int ..) (by simp)))
  · rename_i esz xs he
    rw [he] at hr
    generalize a.eval X = X' at hr
    cases hr with
    | sl _ _ _ ad c f h1 h2 h3 h4 h5 h6 h7 =>
      obtain ⟨_, q⟩ := h3 rfl
      have : c = xs.length := by omega
      exact good_v (v := .int .i64 xs.length) (w' := w) (by simp [Builtin.cap_, run_underlying hu, goInt, this]) (hA.same hS hs (relp_of (.int ..) (by simp)))
  · exact hs.elim
theorem snd_lenb {T t ty : TypeId} {X : Operand} {x : Opd} (hx : opdA P T X = some x) (hu : P.underlying t = some .string)
    (hs : step P (.len true x) st K) (hS : InvS w E st.s st.k) (hT : Tm w E st a) (hA : After P st w E K N) : Good P w N (do pure (.value (← Builtin.len_ #[t] ty #[a.eval X]))) := by
  simp only [step] at hs
  split at hs
  · rename_i hq he; cases hq
  · rename_i hq he; cases hq
  · rename_i s hq he
    rw [rel_str (opdA_rel hx hT).rel he]
    exact good_v (v := .int .i64 s.size) (w' := w) (by simp [Builtin.len_, run_underlying hu, goInt]) (hA.same hS hs (relp_of (.int ..) (by simp)))
  · exact hs.elim
theorem snd_clen {t e ty : TypeId} {n : Nat} {v : Value} (hu : P.underlying t = some (.array n e))
    (hs : step P (.clen n) st K) (hS : InvS w E st.s st.k) (hA : After P st w E K N) : Good P w N (do pure (.value (← Builtin.len_ #[t] ty #[v]))) :=
  good_v (v := .int .i64 n) (w' := w) (by simp [Builtin.len_, run_underlying hu, goInt]) (hA.same hS hs (relp_of (.int ..) (by simp)))

theorem snd_app {t e ty : TypeId} {X Y : Operand} {x y : Opd} {esz bytes : Nat} {i : TypeInfo} {z : Value} (hx : opdA P t X = some x) (hy : opdA P t Y = some y) (hu : P.underlying t = some (.slice e)) (hi : P.info? e = some i) (hz : i.zero = some z)
    (hsize : i.size = esz) (hby : i.bytes = bytes) (hzs : z.cells.size = esz) (hpos : 0 < esz) (hb0 : 0 < bytes)
    (hs : step P (.app esz e bytes x y) st K) (hS : InvS w E st.s st.k) (hT : Tm w E st a) (hA : After P st w E K N) : Good P w N (do pure (.value (← Builtin.append_ #[t, t] ty #[a.eval X, a.eval Y]))) := by
  have hrx := opdA_rel hx hT
  have hry := (opdA_rel hy hT).rel
  simp only [step] at hs
  split at hs
  · rename_i e1 xs tk e2 ys tk2 he1 he2
    obtain ⟨c1, c2, hl, hlen, k1, k2⟩ := hs
    rw [he1] at hrx
    rw [he2] at hry
    have hrx' : RelP w E st.k (.sl esz xs tk) (a.eval X) := by
      rcases c1 with rfl | ⟨rfl, rfl⟩
      · exact hrx
      · exact relp_of hrx.rel.empty (by simp)
    have hry' : Rel w E (.sl esz ys tk2) (a.eval Y) := by
      rcases c2 with rfl | rfl
      · exact hry
      · exact hry.empty
    have h63 : xs.length + ys.length ≤ maxLen := by
      have : xs.length + ys.length ≤ (xs.length + ys.length) * bytes := Nat.le_mul_of_pos_right _ hb0
      simp only [maxLen]
      omega
    obtain ⟨v', w', hrun, g1, g2⟩ := hS.append (P := P) (ty := ty) hu hi hz hsize hby hzs hpos hrx' hry' hl hlen h63
    refine good_v hrun ?_
    by_cases hys : ys = []
    · obtain ⟨rfl, rfl⟩ := g1 hys
      exact hA.same hS (k1 hys) hrx'
    · obtain ⟨g, _, _, hgk⟩ := hS.fresh
      obtain ⟨E', h1, h2⟩ := g2 hys g hgk
      exact hA _ _ _ _ _ _ (k2 hys g hgk) h1 h2
  · exact hs.elim

theorem splice_nil (cs : List A) (off : Nat) : splice cs off [] = cs := by unfold splice; simp
theorem upd_self {α : Type} (f : Nat → α) (i : Nat) (x : α) (h : f i = x) : upd f i x = f := by
  funext j
  unfold upd
  split
  · rename_i e; subst e; exact h.symm
  · rfl
theorem good_appC {t e ty : TypeId} {esz bytes : Nat} {i : TypeInfo} {z : Value} {zA : List A} (hu : P.underlying t = some (.slice e)) (hi : P.info? e = some i) (hz : i.zero = some z)
    (hsize : i.size = esz) (hby : i.bytes = bytes) (hzs : z.cells.size = esz) (hb0 : 0 < bytes) (ok : okZero P zA z.cells.toList = true) {id off n c : Nat} {cs : List A} {y : A} {V Y : Value} (hv : Rel w E (.sb id off esz n c) V) (hy : Rel w E y Y) (hcs : st.s id = some (.cells cs))
    (hs : appC esz bytes id off n c cs y st K) (hS : InvS w E st.s st.k) (hA : After P st w E K N) : Good P w N (do pure (.value (← Builtin.append_ #[t, t] ty #[V, Y]))) := by
  obtain ⟨hcap, hnc, hsrc⟩ := hs
  have hv0 := hv
  cases hv with
  | sb _ _ _ _ _ b o hb hn hm ho =>
  obtain ⟨m, ds, us, ⟨hlen, hin, hout⟩, src⟩ := src_of (P := P) hS hy hsrc
  have hdl : ds.length = m * esz := by rw [← src.rel.len, src.size]
  subst hsize
  subst hby
  by_cases hroom : n + m ≤ c
  · have hr := src.read w (fun _ _ => rfl) m (Nat.le_refl _)
    rw [List.take_of_length_le (by rw [src.size]; exact Nat.le_refl _)] at hr
    have hle : n * i.size + m * i.size ≤ c * i.size := by rw [← Nat.add_mul]; exact Nat.mul_le_mul_right _ hroom
    by_cases hc0 : c = 0
    · have hm0 : m = 0 := by omega
      have hn0 : n = 0 := by omega
      subst hm0 hn0
      have hus : us = [] := List.eq_nil_of_length_eq_zero (by rw [src.size]; simp)
      have hds : ds = [] := List.eq_nil_of_length_eq_zero (by rw [hdl]; simp)
      subst hus hds
      have hk := hin hroom
      rw [splice_nil, upd_self _ _ _ hcs] at hk
      refine good_v (v := .slice (some ⟨b, o, none⟩) 0 c) (w' := w) ?_ (hA.same hS hk (relp_of (.sb id off i.size 0 c b o hb (by omega) hm ho) (by simp)))
      simp [Builtin.append_, run_underlying hu, sizeOf, typeInfo, hi, src.len, hr, storeCells]
    · have hoo := ho (by omega)
      subst hoo
      obtain ⟨w', h1, h2⟩ := store_box (P := P) hS hcs hb (off := o + n * i.size) src.rel (by rw [hdl]; omega)
      refine good_v (v := .slice (some ⟨b, o, none⟩) (n + m) c) (w' := w') ?_ (hA _ _ _ _ _ _ (hin hroom) h2 (relp_of (.sb id o i.size (n + m) c b o hb hroom hm (fun _ => rfl)) (by simp)))
      simp [Builtin.append_, run_underlying hu, sizeOf, typeInfo, hi, src.len, hroom, hr, add_lit0, h1]
  · have hlt : c < n + m := by omega
    have hnle : n * i.size ≤ c * i.size := Nat.mul_le_mul_right _ hnc
    obtain ⟨_, _, olds, ⟨rfl, rfl⟩, srcO⟩ := src_of (P := P) (Q := fun m' ds' => n = m' ∧ ((cs.drop off).take (n * i.size)).map A.strip = ds') hS hv0 (by
      show srcP st.s i.size (.sb id off i.size n c) _
      unfold srcP
      dsimp only
      rw [hcs]
      exact ⟨rfl, by omega, rfl, rfl⟩)
    have h63 : n + m ≤ maxLen := by
      have : n + m ≤ (n + m) * i.bytes := Nat.le_mul_of_pos_right _ hb0
      simp only [maxLen]
      omega
    have hf := src.read w.drew (fun _ _ => rfl) m (Nat.le_refl _)
    rw [List.take_of_length_le (by rw [src.size]; exact Nat.le_refl _)] at hf
    have hfo := srcO.read w.drew (fun _ _ => rfl) n (Nat.le_refl _)
    rw [List.take_of_length_le (by rw [srcO.size]; exact Nat.le_refl _)] at hfo
    have hn' : ¬ (n + m ≤ c) := hroom
    have h63' : ¬ (9223372036854775807 < ((n : Int) + (m : Int))) := by simp only [maxLen] at h63; omega
    have h48' : ¬ (281474976710656 < Builtin.nextslicecap (n + m) c * i.bytes) := by have := growslice_fits (bytes := i.bytes) hlt hlen; omega
    have hcm := grownCap_le_maxLen w (n + m) c e h63
    have hcg := grownCap_ge w (n + m) c e
    obtain ⟨id', hid, hids, _⟩ := hS.fresh
    have hdrew := hS.agree (Agree.drew w)
    obtain ⟨hz1, hz2, _⟩ := okZero_rel (P := P) (w := w) (E := E) (st := st) zA z.cells.toList ok
    have hzone : ∀ v ∈ z.cells.toList, v.oneCell' = true := by
      intro v hv
      obtain ⟨j, hj, rfl⟩ := List.getElem_of_mem hv
      have := hz2 j (by omega)
      rw [Array.getD_eq_getD_getElem?, List.getElem?_toArray, List.getElem?_eq_getElem hj] at this
      exact this
    generalize hgc : grownCap w (n + m) c e = cap at hcm hcg
    have hrc := ((srcO.rel.app src.rel).app (RelC.undefs (w := w) (E := E) (k := st.k) (zeroCells_one hzone (cap - (n + m))))).ext hdrew.ext
    have hzl : (Builtin.zeroCells z.cells (cap - (n + m))).toList.length = (cap - (n + m)) * i.size := by rw [Array.length_toList, size_zeroCells, hzs]
    rw [hzl] at hrc
    have hbox := new_box hdrew.S hid e hrc
    refine good_v (v := .slice (some ⟨w.heap.size, 0, none⟩) (n + m) cap) (w' := w.drew.alloc (.cells (olds ++ us ++ (Builtin.zeroCells z.cells (cap - (n + m))).toList).toArray e)) ?_
      (hA _ _ _ _ _ _ (hout hlt id' cap hids hcg hcm) (hdrew.trans hbox) (relp_of (.sb id' 0 i.size (n + m) cap w.heap.size 0 (by simp [upd]) hcg hcm (fun _ => rfl)) (by simp)))
    unfold grownCap at hgc
    simp [Builtin.append_, run_underlying hu, sizeOf, typeInfo, zeroValue, hi, hz, src.len, hn', h63', h48', Question.forced, hf, hfo, newRow, hgc]
    congr 2
    apply Array.ext'
    simp [List.append_assoc]
theorem good_appN {t u e ty : TypeId} {ik : IntKind} {esz bytes : Nat} {i : TypeInfo} {z : Value} {zA : List A} (hu : P.underlying t = some (.slice e)) (hu2 : P.underlying u = some (.int ik)) (hi : P.info? e = some i) (hz : i.zero = some z)
    (hsize : i.size = esz) (hby : i.bytes = bytes) (hzs : z.cells.size = esz) (hb0 : 0 < bytes) (ok : okZero P zA z.cells.toList = true) {ad : Option Addr} {n c : Nat} {olds : List A} {m : Int} {os : List Value} (hnc : n ≤ c) (hlt : (c : Int) < n + m) (hro : RelC w E st.k olds os)
    (hread : (Builtin.firstCells esz n (.slice ad n c)).run P w.drew = .ok os.toArray w.drew) (hm0 : m * esz ≠ 0)
    (hs : appN esz bytes zA n olds m st K) (hS : InvS w E st.s st.k) (hA : After P st w E K N) : Good P w N (do pure (.value (← Builtin.append_ #[t, u] ty #[.slice ad n c, .int .i64 m]))) := by
  obtain ⟨h0, hlen, hout⟩ := hs
  subst hsize
  subst hby
  obtain ⟨q, rfl⟩ : ∃ q : Nat, m = q := ⟨m.toNat, by omega⟩
  simp only [Int.toNat_natCast] at hlen hout
  have hq : q * i.size ≠ 0 := by
    intro h
    apply hm0
    have : ((q * i.size : Nat) : Int) = 0 := by rw [h]; rfl
    simpa using this
  have h63 : n + q ≤ maxLen := by
    have : n + q ≤ (n + q) * i.bytes := Nat.le_mul_of_pos_right _ hb0
    simp only [maxLen]
    omega
  have hqb : q * i.bytes ≤ (n + q) * i.bytes := Nat.mul_le_mul_right _ (by omega)
  have hqm : (q : Int) < 9223372036854775807 := by
    have : q ≤ q * i.bytes := Nat.le_mul_of_pos_right _ hb0
    omega
  have hwr : IntKind.i64.wrap (q : Int) = q := by
    exact wrap64 (by omega) (by omega)
  have hn' : ¬ (n + q ≤ c) := by omega
  have hl0 : ¬ ((q : Int) < 0) := by omega
  have hl48 : ¬ ((281474976710656 : Int) < (q : Int) * (i.bytes : Int)) := by
    have : ((q * i.bytes : Nat) : Int) ≤ 140737488355328 := by omega
    rw [Int.natCast_mul] at this
    omega
  have h63' : ¬ (9223372036854775807 < ((n : Int) + (q : Int))) := by simp only [maxLen] at h63; omega
  have h48' : ¬ (281474976710656 < Builtin.nextslicecap (n + q) c * i.bytes) := by have := growslice_fits (need := n + q) (old := c) (bytes := i.bytes) (by omega) hlen; omega
  have hcm := grownCap_le_maxLen w (n + q) c e h63
  have hcg := grownCap_ge w (n + q) c e
  obtain ⟨id', hid, hids, _⟩ := hS.fresh
  have hdrew := hS.agree (Agree.drew w)
  obtain ⟨hz1, hz2, hz3⟩ := okZero_rel (P := P) (w := w) (E := E) (st := st) zA z.cells.toList ok
  have hzone : ∀ v ∈ z.cells.toList, v.oneCell' = true := by
    intro v hv
    obtain ⟨j, hj, rfl⟩ := List.getElem_of_mem hv
    have := hz2 j (by omega)
    rw [Array.getD_eq_getD_getElem?, List.getElem?_toArray, List.getElem?_eq_getElem hj] at this
    exact this
  have hzr : RelC w E st.k zA z.cells.toList := ⟨hz1, fun j hj => by have := hz2 j hj; simpa [Array.getD_eq_getD_getElem?, List.getD_eq_getElem?_getD] using this, fun j x hx => by have := hz3 j x hx; simpa [Array.getD_eq_getD_getElem?, List.getD_eq_getElem?_getD] using this⟩
  generalize hgc : grownCap w (n + q) c e = cap at hcm hcg
  have hrc := ((hro.app (hzr.zeros q)).app (RelC.undefs (w := w) (E := E) (k := st.k) (zeroCells_one hzone (cap - (n + q))))).ext hdrew.ext
  have hzl : (Builtin.zeroCells z.cells (cap - (n + q))).toList.length = (cap - (n + q)) * i.size := by rw [Array.length_toList, size_zeroCells, hzs]
  rw [hzl] at hrc
  have hbox := new_box hdrew.S hid e hrc
  refine good_v (v := .slice (some ⟨w.heap.size, 0, none⟩) (n + q) cap) (w' := w.drew.alloc (.cells (os ++ (List.replicate q z.cells.toList).flatten ++ (Builtin.zeroCells z.cells (cap - (n + q))).toList).toArray e)) ?_
    (hA _ _ _ _ _ _ (hout id' cap hids hcg hcm) (hdrew.trans hbox) (relp_of (.sb id' 0 i.size (n + q) cap w.heap.size 0 (by simp [upd]) hcg hcm (fun _ => rfl)) (by simp)))
  unfold grownCap at hgc
  have hzc : Builtin.zeroCells z.cells q = ((List.replicate q z.cells.toList).flatten).toArray := by rw [← zeroCells_list, Array.toArray_toList]
  simp [Builtin.append_, run_underlying hu, run_underlying hu2, sizeOf, typeInfo, zeroValue, hi, hz, asInt, asIntOf, hwr, hl0, hl48, hn', h63', h48', Question.forced, hread, newRow, hgc, hq, hzc]
  congr 2
  apply Array.ext'
  simp [List.append_assoc]
theorem snd_appB {t e ty : TypeId} {X Y : Operand} {x y : Opd} {esz bytes : Nat} {i : TypeInfo} {z : Value} {zA : List A} (hx : opdA P t X = some x) (hy : opdA P t Y = some y) (hu : P.underlying t = some (.slice e)) (hi : P.info? e = some i) (hz : i.zero = some z)
    (hsize : i.size = esz) (hby : i.bytes = bytes) (hzs : z.cells.size = esz) (hpos : 0 < esz) (hb0 : 0 < bytes) (ok : okZero P zA z.cells.toList = true)
    (hs : step P (.appB esz e bytes x y) st K) (hS : InvS w E st.s st.k) (hT : Tm w E st a) (hA : After P st w E K N) : Good P w N (do pure (.value (← Builtin.append_ #[t, t] ty #[a.eval X, a.eval Y]))) := by
  have hrx := opdA_rel hx hT
  have hry := (opdA_rel hy hT).rel
  simp only [step] at hs
  split at hs
  · rename_i e1 xs tk e2 ys tk2 he1 he2
    obtain ⟨c1, c2, htk, hlen, k1, k2⟩ := hs
    rw [he1] at hrx
    rw [he2] at hry
    have hrx' : RelP w E st.k (.sl esz xs tk) (a.eval X) := by
      rcases c1 with rfl | ⟨rfl, rfl⟩
      · exact hrx
      · exact relp_of hrx.rel.empty (by simp)
    have hry' : Rel w E (.sl esz ys tk2) (a.eval Y) := by
      rcases c2 with rfl | rfl
      · exact hry
      · exact hry.empty
    have h63 : xs.length + ys.length ≤ maxLen := by
      have : xs.length + ys.length ≤ (xs.length + ys.length) * bytes := Nat.le_mul_of_pos_right _ hb0
      simp only [maxLen]
      omega
    subst hsize
    subst hby
    have h63i : ((xs.length + ys.length : Nat) : Int) ≤ 9223372036854775807 := by simp only [maxLen] at h63; omega
    have hvr0 := hrx'.rel
    generalize hVX : a.eval X = VX at hrx' hvr0
    generalize hVY : a.eval Y = VY at hry'
    cases hvr0 with
    | sl _ _ _ ad c fx hc hm hn hfull hlx hax hrx2 =>
    cases hry' with
    | sl _ _ _ ad' c' fy hc' hm' hn' hfull' hly hay hry2 =>
    by_cases hys : ys = []
    · subst hys
      exact good_v (run_append_zero w t ty e i hu hi ad xs.length c hc ad' c') (hA.same hS (k1 rfl) hrx')
    · have hm0 : 0 < ys.length := List.length_pos_iff.2 hys
      obtain ⟨b', o', hb', -⟩ := hay 0 0 hm0 hpos
      subst hb'
      obtain ⟨hcy, hoy⟩ := flat_cells hay
      have hcy := hcy _ rfl
      have hfl : (flat fy ys.length i.size).length = ys.length * i.size := flat_length ..
      have hlxy : ∀ cs ∈ xs ++ ys, cs.length = i.size := by
        intro cs hcs
        rcases List.mem_append.1 hcs with h | h
        · obtain ⟨j, hj, rfl⟩ := List.getElem_of_mem h; exact hlx j _ (List.getElem?_eq_getElem hj)
        · obtain ⟨j, hj, rfl⟩ := List.getElem_of_mem h; exact hly j _ (List.getElem?_eq_getElem hj)
      obtain ⟨hz1, hz2, _⟩ := okZero_rel (P := P) (w := w) (E := E) (st := st) zA z.cells.toList ok
      have grows : ∀ (arr : Array Value) (cap : Nat), arr = (flat fx xs.length i.size).toArray ++ (flat fy ys.length i.size).toArray ++ Builtin.zeroCells z.cells (cap - (xs.length + ys.length)) →
          xs.length + ys.length ≤ cap → cap ≤ maxLen → (Builtin.append_ #[t, t] ty #[.slice ad xs.length c, .slice (some ⟨b', o', none⟩) ys.length c']).run P w = .ok (.slice (some ⟨w.heap.size, 0, none⟩) (xs.length + ys.length) cap) (w.drew.alloc (.cells arr e)) →
          Good P w N (do pure (.value (← Builtin.append_ #[t, t] ty #[.slice ad xs.length c, .slice (some ⟨b', o', none⟩) ys.length c']))) := by
        rintro arr cap harr hcap hcm hrun
        have hsz : arr.size = cap * i.size := by
          rw [harr]
          simp only [Array.size_append, List.size_toArray, size_zeroCells, hzs, flat_length, ← Nat.add_mul]
          congr 1
          omega
        have hdrew := hS.agree (Agree.drew w)
        obtain ⟨id, hid, hids, _⟩ := hS.fresh
        have hcl : (flatS (xs ++ ys) ++ List.replicate ((cap - (xs.length + ys.length)) * i.size) A.undef).length = cap * i.size := by
          rw [List.length_append, flatS_length hlxy, List.length_append, List.length_replicate, ← Nat.add_mul]
          congr 1
          omega
        have hget : ∀ p, p < (xs.length + ys.length) * i.size → arr.getD p Go.undef = if p / i.size < xs.length then fx (p / i.size) (p % i.size) else fy (p / i.size - xs.length) (p % i.size) := by
          intro p hp
          obtain ⟨q1, q2⟩ := div_lt hp
          have e : p / i.size * i.size + p % i.size = p := by rw [Nat.mul_comm]; exact Nat.div_add_mod p i.size
          rw [Array.getD_eq_getD_getElem?, harr]
          by_cases hx : p / i.size < xs.length
          · rw [if_pos hx]
            have hlt := idx_lt (esz := i.size) hx q2
            rw [e] at hlt
            have hg := flat_get fx hx q2
            rw [e] at hg
            rw [Array.append_assoc, Array.getElem?_append_left (by simpa [flat_length] using hlt), List.getElem?_toArray, hg]
            rfl
          · rw [if_neg hx]
            have hq1 : xs.length * i.size ≤ p / i.size * i.size := Nat.mul_le_mul_right _ (by omega)
            have hge : xs.length * i.size ≤ p := Nat.le_trans hq1 (Nat.div_mul_le_self _ _)
            have hg := flat_get fy (n := ys.length) (i := p / i.size - xs.length) (by omega) q2
            have e2 : (p / i.size - xs.length) * i.size + p % i.size = p - xs.length * i.size := by 
              rw [Nat.sub_mul]
              generalize p / i.size * i.size = A1 at e hq1 ⊢
              generalize p % i.size = B1 at e ⊢
              omega
            rw [e2] at hg
            rw [Array.getElem?_append_left (by simp only [Array.size_append, List.size_toArray, flat_length, ← Nat.add_mul]; exact hp),
              Array.getElem?_append_right (by simp only [List.size_toArray, flat_length]; exact hge), List.getElem?_toArray]
            simp only [List.size_toArray, flat_length]
            rw [hg]
            rfl
        have hbox := hdrew.S.box hid arr e (flatS (xs ++ ys) ++ List.replicate ((cap - (xs.length + ys.length)) * i.size) A.undef) (by rw [hsz, hcl]) ?_ ?_
        · have hreach := hdrew.trans hbox
          refine good_v hrun (hA _ _ _ _ _ _ (k2 hys id cap hids hcap hcm) hreach (relp_of ?_ (by simp)))
          exact .sb id 0 i.size _ cap w.heap.size 0 (by simp [upd]) hcap hcm (fun _ => rfl)
        · intro j hj
          rw [hcl] at hj
          by_cases hjl : j < (xs.length + ys.length) * i.size
          · rw [hget j hjl]
            obtain ⟨q1, q2⟩ := div_lt hjl
            split
            · rename_i hx
              obtain ⟨_, _, _, _, _, h3⟩ := hax _ _ hx q2
              exact h3
            · obtain ⟨_, _, _, _, _, h3⟩ := hay (j / i.size - xs.length) _ (by omega) q2
              exact h3
          · rw [Array.getD_eq_getD_getElem?, harr, Array.getElem?_append_right (by simp only [Array.size_append, List.size_toArray, flat_length, ← Nat.add_mul]; omega)]
            simp only [Array.size_append, List.size_toArray, flat_length, ← Nat.add_mul]
            have hjz : j - (xs.length + ys.length) * i.size < (cap - (xs.length + ys.length)) * i.size := by rw [Nat.sub_mul]; omega
            obtain ⟨q1, q2⟩ := div_lt hjz
            have hmod : (j - (xs.length + ys.length) * i.size) % z.cells.size < z.cells.size := by rw [hzs]; exact q2
            have : (Builtin.zeroCells z.cells (cap - (xs.length + ys.length)))[j - (xs.length + ys.length) * i.size]? = some z.cells[(j - (xs.length + ys.length) * i.size) % z.cells.size] := by
              have hsz2 : j - (xs.length + ys.length) * i.size < (Builtin.zeroCells z.cells (cap - (xs.length + ys.length))).size := by rw [size_zeroCells, hzs]; exact hjz
              rw [Array.getElem?_eq_getElem hsz2]
              congr 1
              simp [Builtin.zeroCells, hmod]
            rw [this, Option.getD_some]
            have := hz2 ((j - (xs.length + ys.length) * i.size) % z.cells.size) (by rw [← hz1]; simpa using hmod)
            simpa [Array.getD_eq_getD_getElem?, hmod] using this
        · intro j x hx
          by_cases hjl : j < (flatS (xs ++ ys)).length
          · rw [List.getElem?_append_left hjl] at hx
            obtain ⟨cs, y, f1, f2, rfl, f3, f4⟩ := flatS_get hlxy hx
            rw [flatS_length hlxy, List.length_append] at hjl
            rw [hget j hjl]
            refine relp_strip ?_
            split
            · rename_i hlt
              rw [List.getElem?_append_left hlt] at f1
              exact hdrew.ext.rel (hrx2 _ _ _ _ f1 f2)
            · rename_i hlt
              rw [List.getElem?_append_right (by omega)] at f1
              exact hdrew.ext.rel (hry2 _ _ _ _ f1 f2)
          · rw [List.getElem?_append_right (by omega)] at hx
            have hxu : x = .undef := by
              have := List.mem_of_getElem? hx
              exact (List.mem_replicate.1 this).2
            subst hxu
            exact relp_of (.undef _) (by simp)
      rcases htk with rfl | rfl
      · obtain ⟨rfl, rfl⟩ := hn rfl
        have hx0 : xs.length = 0 := by omega
        have hrun := run_append_nil (P := P) w t ty e i z hu hi hz ⟨b', o', none⟩ ys.length c' (flat fy ys.length i.size) hfl hcy hm0 (by rw [hx0] at h63i; simpa using h63i) (by rw [hx0] at hlen; simp at hlen; omega)
        obtain rfl : xs = [] := List.eq_nil_of_length_eq_zero hx0
        exact grows _ (grownCap w ys.length 0 e) rfl (by simpa using grownCap_ge w ys.length 0 e) (grownCap_le_maxLen w ys.length 0 e (by simpa using h63)) (by simpa [flat] using hrun)
      · obtain rfl := hfull rfl
        cases ad with
        | none =>
          have hx0 : xs.length = 0 := by
            rcases Nat.eq_zero_or_pos xs.length with h0 | h0
            · exact h0
            · obtain ⟨_, _, q, _⟩ := hax 0 0 h0 hpos
              cases q
          obtain rfl : xs = [] := List.eq_nil_of_length_eq_zero hx0
          have hrun := run_append_nil (P := P) w t ty e i z hu hi hz ⟨b', o', none⟩ ys.length c' (flat fy ys.length i.size) hfl hcy hm0 (by simpa using h63i) (by simp at hlen; omega)
          exact grows _ (grownCap w ys.length 0 e) rfl (by simpa using grownCap_ge w ys.length 0 e) (grownCap_le_maxLen w ys.length 0 e (by simpa using h63)) (by simpa [flat] using hrun)
        | some a =>
          have hrun := run_append_grow (P := P) w t ty e i z hu hi hz a xs.length xs.length (flat fx xs.length i.size) (flat_length ..) ((flat_cells hax).1 a rfl) ⟨b', o', none⟩ ys.length c' (flat fy ys.length i.size) hfl hcy (by omega) h63i
            (growslice_fits (by omega) hlen)
          exact grows _ (grownCap w (xs.length + ys.length) xs.length e) rfl (grownCap_ge w _ _ e) (grownCap_le_maxLen w _ _ e h63) hrun
  · rename_i id off e1 n c he1
    split at hs
    · rename_i cs hcs
      obtain ⟨rfl, hs⟩ := hs
      rw [he1] at hrx
      exact good_appC hu hi hz hsize hby hzs hb0 ok hrx.rel hry hcs hs hS hA
    · exact hs.elim
  · exact hs.elim
theorem snd_appZ {t u e ty : TypeId} {ik : IntKind} {X Y : Operand} {x y : Opd} {esz bytes : Nat} {i : TypeInfo} {z : Value} {zA : List A} {T : TypeId} (hx : opdA P t X = some x) (hy : opdA P T Y = some y) (hu : P.underlying t = some (.slice e)) (hu2 : P.underlying u = some (.int ik)) (hi : P.info? e = some i) (hz : i.zero = some z)
    (hsize : i.size = esz) (hby : i.bytes = bytes) (hzs : z.cells.size = esz) (hpos : 0 < esz) (hb0 : 0 < bytes) (ok : okZero P zA z.cells.toList = true)
    (hs : step P (.appZ esz e bytes zA x y) st K) (hS : InvS w E st.s st.k) (hT : Tm w E st a) (hA : After P st w E K N) : Good P w N (do pure (.value (← Builtin.append_ #[t, u] ty #[a.eval X, a.eval Y]))) := by
  have hrx := (opdA_rel hx hT).rel
  have hry := (opdA_rel hy hT).rel
  simp only [step] at hs
  split at hs
  · rename_i e1 xs tk m he1 he2
    obtain ⟨rfl, rfl, hm, hs⟩ := hs
    rw [he1] at hrx
    rw [he2] at hry
    generalize a.eval X = X' at hrx
    generalize a.eval Y = Y' at hry
    cases hry
    cases hrx with
    | sl _ _ _ ad c f q1 q2 q3 q4 q5 q6 q7 =>
    obtain ⟨rfl, rfl⟩ := q3 rfl
    refine good_appN (os := []) hu hu2 hi hz hsize hby hzs hb0 ok (Nat.zero_le _) (by simpa using hm) (RelC.nil _) (by rw [run_firstCells_none]) ?_ hs hS hA
    exact Int.mul_ne_zero (by omega) (by omega)
  · rename_i id off e1 n c m he1 he2
    split at hs
    · rename_i cs hcs
      obtain ⟨rfl, hoff, hnc, hlt, hs⟩ := hs
      rw [he1] at hrx
      rw [he2] at hry
      generalize a.eval Y = Y' at hry
      cases hry
      obtain ⟨_, _, olds, ⟨rfl, rfl⟩, srcO⟩ := src_of (P := P) (Q := fun m' ds' => n = m' ∧ ((cs.drop off).take (n * e1)).map A.strip = ds') hS hrx (by
        show srcP st.s e1 (.sb id off e1 n c) _
        unfold srcP
        dsimp only
        rw [hcs]
        exact ⟨rfl, hoff, rfl, rfl⟩)
      have hfo := srcO.read w.drew (fun _ _ => rfl) n (Nat.le_refl _)
      rw [List.take_of_length_le (by rw [srcO.size]; exact Nat.le_refl _)] at hfo
      generalize a.eval X = X' at hrx hfo
      cases hrx with
      | sb _ _ _ _ _ b o hb hn hm ho =>
      refine good_appN hu hu2 hi hz hsize hby hzs hb0 ok hnc hlt srcO.rel hfo ?_ hs hS hA
      exact Int.mul_ne_zero (by omega) (by omega)
    · exact hs.elim
  · exact hs.elim
theorem snd_cpy {t t' e ty : TypeId} {X Y : Operand} {x y : Opd} {esz : Nat} (hx : opdA P t X = some x) (hy : opdA P t' Y = some y) (hu : P.underlying t = some (.slice e)) (hz : sizeT P e = some esz)
    (hs : step P (.cpy esz x y) st K) (hS : InvS w E st.s st.k) (hT : Tm w E st a) (hA : After P st w E K N) : Good P w N (do pure (.value (← Builtin.copy_ #[t, t'] ty #[a.eval X, a.eval Y]))) := by
  have hrx := (opdA_rel hx hT).rel
  have hry := (opdA_rel hy hT).rel
  simp only [step] at hs
  split at hs
  · rename_i id off e1 n c he1
    split at hs
    · rename_i cs hcs
      obtain ⟨rfl, hoff, hnc, hs⟩ := hs
      rw [he1] at hrx
      obtain ⟨m, ds, us, hk, src⟩ := src_of (P := P) hS hry hs
      generalize a.eval X = X' at hrx
      cases hrx with
      | sb _ _ _ _ _ b o hb hn hm ho =>
      have hq : Nat.min m n ≤ m := Nat.min_le_left _ _
      have hqn : Nat.min m n ≤ n := Nat.min_le_right _ _
      have hr := src.read w (fun _ _ => rfl) _ hq
      generalize hqd : Nat.min m n = q at hq hqn hr hk
      have hle : q * e1 ≤ n * e1 := Nat.mul_le_mul_right _ hqn
      have hle2 : q * e1 ≤ m * e1 := Nat.mul_le_mul_right _ hq
      have hdl : ds.length = m * e1 := by rw [← src.rel.len, src.size]
      by_cases h0 : c = 0
      · have hq0 : q = 0 := by omega
        subst hq0
        have hk' := hk
        simp only [Nat.zero_mul, List.take_zero, splice_nil, upd_self _ _ _ hcs] at hk'
        rw [Nat.zero_mul, List.take_zero] at hr
        refine good_v (v := .int .i64 ((0 : Nat) : Int)) (w' := w) ?_ (hA.same hS hk' (relp_of (.int ..) (by simp)))
        simp only [Builtin.copy_, Sem.run_bind, run_underlying hu, Result.andThen_ok, src.len, run_sizeOf hz, hqd, hr, storeCells, Sem.run_pure, goInt, List.getElem?_toArray, List.getElem?_cons_zero, List.getElem?_cons_succ]
      · have hoo := ho (by omega)
        subst hoo
        obtain ⟨w', h1, h2⟩ := store_box (P := P) hS hcs hb (off := o) (src.rel.take (q * e1)) (by rw [List.length_take, hdl]; omega)
        refine good_v (v := .int .i64 (q : Int)) (w' := w') ?_ (hA _ _ _ _ _ _ hk h2 (relp_of (.int ..) (by simp)))
        simp only [Builtin.copy_, Sem.run_bind, run_underlying hu, Result.andThen_ok, src.len, run_sizeOf hz, hqd, hr, h1, Sem.run_pure, goInt, List.getElem?_toArray, List.getElem?_cons_zero, List.getElem?_cons_succ]
    · exact hs.elim
  · exact hs.elim
theorem snd_clr {t e ty : TypeId} {X : Operand} {x : Opd} {esz : Nat} {i : TypeInfo} {z : Value} {zA : List A} (hx : opdA P t X = some x) (hu : P.underlying t = some (.slice e)) (hi : P.info? e = some i) (hz : i.zero = some z) (hzs : z.cells.size = esz) (ok : okZero P zA z.cells.toList = true)
    (hs : step P (.clr esz zA x) st K) (hS : InvS w E st.s st.k) (hT : Tm w E st a) (hA : After P st w E K N) : Good P w N (do pure (.value (← Builtin.clear_ #[t] ty #[a.eval X]))) := by
  have hrx := (opdA_rel hx hT).rel
  simp only [step] at hs
  split at hs
  · rename_i id off e1 n c he1
    split at hs
    · rename_i cs hcs
      obtain ⟨rfl, hoff, hnc, hk⟩ := hs
      rw [he1] at hrx
      obtain ⟨hz1, hz2, hz3⟩ := okZero_rel (P := P) (w := w) (E := E) (st := st) zA z.cells.toList ok
      have hzr : RelC w E st.k zA z.cells.toList := ⟨hz1, fun j hj => by have := hz2 j hj; simpa [Array.getD_eq_getD_getElem?, List.getD_eq_getElem?_getD] using this, fun j x hx => by have := hz3 j x hx; simpa [Array.getD_eq_getD_getElem?, List.getD_eq_getElem?_getD] using this⟩
      have hzl : zA.length = e1 := by rw [← hz1, Array.length_toList, hzs]
      generalize a.eval X = X' at hrx
      cases hrx with
      | sb _ _ _ _ _ b o hb hn hm ho =>
      by_cases h0 : n = 0
      · subst h0
        simp only [List.replicate_zero, List.flatten_nil, splice_nil, upd_self _ _ _ hcs] at hk
        refine good_v (v := .tuple #[]) (w' := w) ?_ (hA.same hS hk (relp_of (.tup [] #[] rfl (by simp)) (by simp)))
        simp [Builtin.clear_, run_underlying hu]
      · have hoo := ho (by omega)
        subst hoo
        obtain ⟨w', h1, h2⟩ := store_box (P := P) hS hcs hb (off := o) (hzr.zeros n) (by simp [hzl]; omega)
        refine good_v (v := .tuple #[]) (w' := w') ?_ (hA _ _ _ _ _ _ hk h2 (relp_of (.tup [] #[] rfl (by simp)) (by simp)))
        obtain ⟨q, rfl⟩ : ∃ q, n = q + 1 := ⟨n - 1, by omega⟩
        simp [Builtin.clear_, run_underlying hu, zeroValue, typeInfo, hi, hz, zeroCells_list, h1]
    · exact hs.elim
  · exact hs.elim
theorem snd_isn {t e : TypeId} {neg : Bool} {X Y : Operand} {x : Opd} {T1 T2 : TypeId} {e2 : Nat} (hx : opdA P T1 X = some x) (hy : opdA P T2 Y = some (.c (.sl e2 [] .nil))) (hu : P.underlying t = some (.slice e))
    (hs : step P (.isn neg x) st K) (hS : InvS w E st.s st.k) (hT : Tm w E st a) (hA : After P st w E K N) :
    Good P w N ((do eqGuard (if neg then .neq else .eql) t X Y (a.eval X) (a.eval Y); binOp (if neg then .neq else .eql) t (a.eval X) (a.eval Y) : Sem Value) >>= fun r => pure (.value r)) := by
  have hrx := (opdA_rel hx hT).rel
  have hry := (opdA_rel hy hT).rel
  have hY : a.eval Y = .slice none 0 0 := by
    generalize a.eval Y = V at hry
    simp only [ev] at hry
    cases hry with
    | sl _ _ _ ad c f q1 q2 q3 q4 q5 q6 q7 =>
      obtain ⟨rfl, rfl⟩ := q3 rfl
      rfl
  rw [hY]
  have run : ∀ (ad : Option Addr) (n c : Nat), (Op.equal t (.slice ad n c) (.slice none 0 0)).run P w = .ok ad.isNone w := by
    intro ad n c
    unfold Op.equal Op.maxDepth Op.equalIn
    cases ad <;> simp [run_underlying hu]
  have fin : ∀ (ad : Option Addr) (n c : Nat), a.eval X = .slice ad n c → K (.bool (if neg then !ad.isNone else ad.isNone)) st → Good P w N ((do eqGuard (if neg then .neq else .eql) t X Y (a.eval X) (.slice none 0 0); binOp (if neg then .neq else .eql) t (a.eval X) (.slice none 0 0) : Sem Value) >>= fun r => pure (.value r)) := by
    intro ad n c hX hk
    rw [hX]
    refine good_v (v := .bool (if neg then !ad.isNone else ad.isNone)) (w' := w) ?_ (hA.same hS hk (relp_of (.bool _) (by simp)))
    have e1 : binOp .eql t (.slice ad n c) (.slice none 0 0) = (do pure (.bool (← Op.equal t (.slice ad n c) (.slice none 0 0)))) := rfl
    have e2 : binOp .neq t (.slice ad n c) (.slice none 0 0) = (do pure (.bool (!(← Op.equal t (.slice ad n c) (.slice none 0 0))))) := rfl
    cases neg <;> simp [eqGuard, e1, e2, run]
  simp only [step] at hs
  split at hs
  · rename_i e1 xs tk he
    rw [he] at hrx
    generalize hX : a.eval X = V at hrx
    cases hrx with
    | sl _ _ _ ad c f q1 q2 q3 q4 q5 q6 q7 =>
      rw [← hX]
      refine fin ad xs.length c hX ?_
      obtain ⟨k1, k2, k3⟩ := hs
      by_cases hx0 : xs = []
      · by_cases ht : tk = .nil
        · obtain ⟨rfl, _⟩ := q3 ht
          have := k2 hx0 ht
          cases neg <;> exact this
        · obtain ⟨a1, a2⟩ := k3 hx0 ht
          cases ad <;> cases neg <;> first | exact a1 | exact a2
      · obtain ⟨hp, h1⟩ := k1 hx0
        have : ad ≠ none := by
          rintro rfl
          obtain ⟨_, _, h, _⟩ := q6 0 0 (List.length_pos_iff.2 hx0) hp
          cases h
        cases ad with
        | none => exact absurd rfl this
        | some a0 => cases neg <;> exact h1
  · rename_i id off e1 n c he
    obtain ⟨h0, hs⟩ := hs
    rw [he] at hrx
    generalize hX : a.eval X = V at hrx
    cases hrx with
    | sb _ _ _ _ _ b o hb hn hm ho =>
      rw [← hX]
      refine fin _ _ _ hX ?_
      simpa using hs
  · exact hs.elim
theorem snd_mm {T1 T2 ty : TypeId} {ts : Array TypeId} {big : Bool} {X Y : Operand} {x y : Opd} (hx : opdA P T1 X = some x) (hy : opdA P T2 Y = some y)
    (hs : step P (.mm big x y) st K) (hS : InvS w E st.s st.k) (hT : Tm w E st a) (hA : After P st w E K N) :
    Good P w N ((if big then Builtin.max_ ts ty #[a.eval X, a.eval Y] else Builtin.min_ ts ty #[a.eval X, a.eval Y]) >>= fun r => pure (.value r)) := by
  simp only [step] at hs
  split at hs
  · rename_i k p k' q he1 he2
    obtain ⟨rfl, hs⟩ := hs
    rw [rel_int (opdA_rel hx hT).rel he1, rel_int (opdA_rel hy hT).rel he2]
    refine good_v (v := .int k (if big then max p q else min p q)) (w' := w) ?_ (hA.same hS hs (relp_of (.int ..) (by simp)))
    cases big
    · simp [Builtin.min_, Builtin.min2]
      split <;> omega
    · simp [Builtin.max_, Builtin.max2]
      split <;> omega
  · exact hs.elim

theorem optI_run {o : Option Operand} {T : TypeId} {ox : Option Opd} {d : Int} {l : Int} (ho : (match o with | none => some none | some X => (opdA P T X).map some) = some ox) (hT : Tm w E st a) (h : optI st ox d = some l) :
    (o = none ∧ l = d) ∨ ∃ X k, o = some X ∧ a.eval X = .int k l := by
  cases o with
  | none => simp at ho; subst ho; simp [optI] at h; exact .inl ⟨rfl, h.symm⟩
  | some X =>
    simp only [Option.map_eq_some_iff] at ho
    obtain ⟨x, hx, rfl⟩ := ho
    simp only [optI] at h
    split at h
    · rename_i k n he
      cases h
      exact .inr ⟨X, k, rfl, rel_int (opdA_rel hx hT).rel he⟩
    · cases h
def optO (P : Program) (o : Option Operand) : Option (Option Opd) :=
  match o with
  | none => some none
  | some X => (opdA P 0 X).map some
theorem run_bound {y : Nat} {code : BoundsCode} {k : IntKind} {n : Int} (h0 : 0 ≤ n) (h1 : n ≤ y) : (Instr.sliceBound (.int k n) y code).run P w = .ok n.toNat w := run_sliceBound w k n y code h0 h1

theorem run_bounds2 {isSlice : Bool} {len cap : Nat} {lo hi : Option Operand} {xlo xhi : Option Opd} {l h : Int} (hlo : optO P lo = some xlo) (hhi : optO P hi = some xhi) (hT : Tm w E st a) (hl : optI st xlo 0 = some l) (hh : optI st xhi len = some h)
    (h0 : 0 ≤ l) (h1 : l ≤ h) (h2 : h ≤ cap) : (Instr.sliceBounds isSlice len cap (lo.map a.eval) (hi.map a.eval) none).run P w = .ok (l.toNat, h.toNat, cap) w := by
  have hcap : h ≤ (cap : Int) := h2
  have hln : l ≤ (h.toNat : Int) := by omega
  rcases optI_run (a := a) (w := w) (E := E) hlo hT hl with ⟨rfl, rfl⟩ | ⟨X, k, rfl, hX⟩ <;> rcases optI_run (a := a) (w := w) (E := E) hhi hT hh with ⟨rfl, rfl⟩ | ⟨Y, k', rfl, hY⟩
  · simp [Instr.sliceBounds]
  · have := run_bound (P := P) (w := w) (k := k') (code := if isSlice then .sliceAcap else .sliceAlen) (n := h) (y := cap) (by omega) hcap
    simp [Instr.sliceBounds, hY, this]
  · have := run_bound (P := P) (w := w) (k := k) (code := .sliceB) (n := l) (y := len) h0 (by omega)
    simp [Instr.sliceBounds, hX, this]
  · have e1 := run_bound (P := P) (w := w) (k := k') (code := if isSlice then .sliceAcap else .sliceAlen) (n := h) (y := cap) (by omega) hcap
    have e2 := run_bound (P := P) (w := w) (k := k) (code := .sliceB) (n := l) (y := h.toNat) h0 hln
    simp [Instr.sliceBounds, hX, hY, e1, e2]

theorem snd_cut {T t : TypeId} {X : Operand} {x : Opd} {lo hi : Option Operand} {xlo xhi : Option Opd} (hx : opdA P T X = some x) (hlo : optO P lo = some xlo) (hhi : optO P hi = some xhi) (hu : P.underlying t = some .string)
    (hs : step P (.cut x xlo xhi) st K) (hS : InvS w E st.s st.k) (hT : Tm w E st a) (hA : After P st w E K N) : Good P w N (do pure (.value (← Instr.sliceAt t (a.eval X) (lo.map a.eval) (hi.map a.eval) none))) := by
  simp only [step] at hs
  split at hs
  · rename_i s he
    split at hs
    · rename_i l h hl hh
      obtain ⟨h0, h1, h2, hs⟩ := hs
      rw [rel_str (opdA_rel hx hT).rel he]
      have hb := run_bounds2 (isSlice := false) (cap := s.size) hlo hhi hT hl hh h0 h1 h2
      exact good_v (v := .string (s.extract l.toNat h.toNat)) (w' := w) (by simp [Instr.sliceAt, Instr.slice, run_underlying hu, hb]) (hA.same hS hs (relp_of (.str _) (by simp)))
    · exact hs.elim
  · exact hs.elim

/-- A part of a slice. -/
theorem Rel.part {esz : Nat} {xs : List (List A)} {t t' : Tok} {ad : Option Addr} {c : Nat} (h : Rel w E (.sl esz xs t) (.slice ad xs.length c)) {l n m : Nat} (hn : l + n ≤ xs.length) (hm : l + n ≤ m) (hmc : m ≤ c) (ht : t' = .no ∨ (t' = .full ∧ m = l + n) ∨ (t' = .nil ∧ t = .nil)) :
    Rel w E (.sl esz ((xs.drop l).take n) t') (.slice (if m = l then ad else ad.map (·.add (l * esz))) n (m - l)) := by
  cases h with
  | sl _ _ _ _ _ f h1 h2 h3 h4 h5 h6 h7 =>
    have hlen : ((xs.drop l).take n).length = n := by simp; omega
    have key := Rel.sl (w := w) (E := E) esz ((xs.drop l).take n) t' (if m = l then ad else ad.map (·.add (l * esz))) (m - l) (fun i j => f (l + i) j) (by rw [hlen]; omega) (by omega)
      (fun e => by
        rcases ht with rfl | ⟨rfl, _⟩ | ⟨_, h0⟩
        · cases e
        · cases e
        · obtain ⟨q1, q2⟩ := h3 h0
          subst q1
          exact ⟨by split <;> rfl, by omega⟩) (fun e => by
        rcases ht with rfl | ⟨rfl, hh⟩ | ⟨rfl, _⟩
        · cases e
        · rw [hlen]; omega
        · cases e)
      (fun i cs hi => by
        rw [List.getElem?_take] at hi
        split at hi
        · rw [List.getElem?_drop] at hi; exact h5 _ cs hi
        · cases hi)
      (fun i j hi hj => by
        rw [hlen] at hi
        obtain ⟨b, o, e1, e2, e3, e4⟩ := h6 (l + i) j (by omega) hj
        refine ⟨b, o + l * esz, ?_, ?_, ?_, e4⟩
        · rw [if_neg (by omega), e1]
          simp [add_lit0]
        · rw [show o + l * esz + (i * esz + j) = o + ((l + i) * esz + j) from by rw [Nat.add_mul]; omega]; exact e2
        · rw [show o + l * esz + (i * esz + j) = o + ((l + i) * esz + j) from by rw [Nat.add_mul]; omega]; exact e3)
      (fun i cs j x hi hx => by
        rw [List.getElem?_take] at hi
        split at hi
        · rw [List.getElem?_drop] at hi; exact h7 _ cs j x hi hx
        · cases hi)
    rw [hlen] at key
    exact key

theorem snd_slc {T t e : TypeId} {X : Operand} {x : Opd} {esz : Nat} {lo hi mx : Option Operand} {xlo xhi xmx : Option Opd} (hx : opdA P T X = some x) (hlo : optO P lo = some xlo) (hhi : optO P hi = some xhi) (hmx : optO P mx = some xmx)
    (hu : P.underlying t = some (.slice e)) (hz : sizeT P e = some esz) (hmh : mx.isSome = true → hi.isSome = true)
    (hs : step P (.slc esz x xlo xhi xmx) st K) (hS : InvS w E st.s st.k) (hT : Tm w E st a) (hA : After P st w E K N) : Good P w N (do pure (.value (← Instr.sliceAt t (a.eval X) (lo.map a.eval) (hi.map a.eval) (mx.map a.eval)))) := by
  have hr := (opdA_rel hx hT).rel
  simp only [step] at hs
  split at hs
  · rename_i e1 xs tk he
    rw [he] at hr
    split at hs
    · rename_i l h hl hh
      obtain ⟨c1, h0, h1, h2, hs⟩ := hs
      have hmx0 : mx = none := by
        cases mx with
        | none => rfl
        | some M => simp [optO] at hmx
      subst hmx0
      have hr' : Rel w E (.sl esz xs tk) (a.eval X) := by
        rcases c1 with rfl | rfl
        · exact hr
        · exact hr.empty
      generalize a.eval X = X' at hr'
      have hr2 := hr'
      cases hr' with
      | sl _ _ _ ad c f q1 q2 q3 q4 q5 q6 q7 =>
        have hb := run_bounds2 (isSlice := true) (len := xs.length) (cap := c) hlo hhi hT hl hh h0 h1 (by omega)
        refine good_v (v := .slice (if c = l.toNat then ad else ad.map (·.add (l.toNat * esz))) (h.toNat - l.toNat) (c - l.toNat)) (w' := w) ?_ (hA.same hS hs (relp_of (hr2.part (by omega) (by omega) (Nat.le_refl _) (by cases tk <;> first | exact .inl rfl | exact .inr (.inr ⟨rfl, rfl⟩))) (by cases tk <;> simp [Tok.cut])))
        simp [Instr.sliceAt, Instr.slice, run_underlying hu, hb, run_sizeOf hz]
    · rename_i l h m hl hh
      split at hs
      · rename_i km c0 hm
        obtain ⟨c1, h0, h1, rfl, h2, hs⟩ := hs
        cases mx with
        | none => simp [optO] at hmx
        | some M =>
        simp only [optO, Option.map_eq_some_iff, Option.some.injEq] at hmx
        obtain ⟨xm, hxm, rfl⟩ := hmx
        have hM := rel_int (opdA_rel hxm hT).rel hm
        have hr' : Rel w E (.sl esz xs tk) (a.eval X) := by
          rcases c1 with rfl | rfl
          · exact hr
          · exact hr.empty
        generalize a.eval X = X' at hr'
        have hr2 := hr'
        cases hr' with
        | sl _ _ _ ad c f q1 q2 q3 q4 q5 q6 q7 =>
          have hb : (Instr.sliceBounds true xs.length c (lo.map a.eval) (hi.map a.eval) ((some M).map a.eval)).run P w = .ok (l.toNat, h.toNat, h.toNat) w := by
            have e0 := run_bound (P := P) (w := w) (k := km) (code := .slice3Acap) (n := h) (y := c) (by omega) (by omega)
            rcases optI_run (a := a) (w := w) (E := E) hhi hT hh with ⟨rfl, _⟩ | ⟨Y, k', rfl, hY⟩
            · simp at hmh
            · have e1 := run_bound (P := P) (w := w) (k := k') (code := .slice3B) (n := h) (y := h.toNat) (by omega) (by omega)
              rcases optI_run (a := a) (w := w) (E := E) hlo hT hl with ⟨rfl, rfl⟩ | ⟨Z, k2, rfl, hZ⟩
              · simp [Instr.sliceBounds, hM, e0, hY, e1]
              · have e2 := run_bound (P := P) (w := w) (k := k2) (code := .slice3C) (n := l) (y := h.toNat) h0 (by omega)
                simp [Instr.sliceBounds, hM, e0, hY, e1, hZ, e2]
          refine good_v (v := .slice (if h.toNat = l.toNat then ad else ad.map (·.add (l.toNat * esz))) (h.toNat - l.toNat) (h.toNat - l.toNat)) (w' := w) ?_ (hA.same hS hs (relp_of (hr2.part (by omega) (by omega) (by omega) (.inr (.inl ⟨rfl, by omega⟩))) (by simp)))
          simp only [Instr.sliceAt, Instr.slice, Sem.run_bind, run_underlying hu, Result.andThen_ok, hb, run_sizeOf hz, Sem.run_pure]
      · exact hs.elim
    · exact hs.elim
  · rename_i id off e1 n c he
    rw [he] at hr
    split at hs
    · rename_i l h hl hh
      obtain ⟨rfl, h0, h1, h2, hs⟩ := hs
      have hmx0 : mx = none := by
        cases mx with
        | none => rfl
        | some M => simp [optO] at hmx
      subst hmx0
      generalize a.eval X = X' at hr
      cases hr with
      | sb _ _ _ _ _ b o hb hn hm ho =>
        have hbd := run_bounds2 (isSlice := true) (len := n) (cap := c) hlo hhi hT hl hh h0 h1 (by omega)
        refine good_v (v := .slice (if c = l.toNat then some ⟨b, o, none⟩ else some (Addr.add ⟨b, o, none⟩ (l.toNat * e1))) (h.toNat - l.toNat) (c - l.toNat)) (w' := w) ?_ (hA.same hS hs (relp_of ?_ (by simp)))
        · simp [Instr.sliceAt, Instr.slice, run_underlying hu, hbd, run_sizeOf hz]
        · by_cases hc : c = l.toNat
          · rw [if_pos hc]
            exact .sb id _ e1 _ _ b o hb (by omega) (by omega) (fun h => by omega)
          · rw [if_neg hc, add_lit0]
            exact .sb id _ e1 _ _ b _ hb (by omega) (by omega) (fun h => by rw [ho (by omega)])
    · rename_i l h m hl hh
      split at hs
      · rename_i km q0 hm'
        obtain ⟨rfl, h0, h1, h2, h3, hs⟩ := hs
        cases mx with
        | none => simp [optO] at hmx
        | some M =>
        simp only [optO, Option.map_eq_some_iff, Option.some.injEq] at hmx
        obtain ⟨xm, hxm, rfl⟩ := hmx
        have hM := rel_int (opdA_rel hxm hT).rel hm'
        generalize a.eval X = X' at hr
        cases hr with
        | sb _ _ _ _ _ b o hb hn hm ho =>
          have hbd : (Instr.sliceBounds true n c (lo.map a.eval) (hi.map a.eval) ((some M).map a.eval)).run P w = .ok (l.toNat, h.toNat, q0.toNat) w := by
            have e0 := run_bound (P := P) (w := w) (k := km) (code := .slice3Acap) (n := q0) (y := c) (by omega) (by omega)
            rcases optI_run (a := a) (w := w) (E := E) hhi hT hh with ⟨rfl, _⟩ | ⟨Y, k', rfl, hY⟩
            · simp at hmh
            · have e1 := run_bound (P := P) (w := w) (k := k') (code := .slice3B) (n := h) (y := q0.toNat) (by omega) (by omega)
              rcases optI_run (a := a) (w := w) (E := E) hlo hT hl with ⟨rfl, rfl⟩ | ⟨Z, k2, rfl, hZ⟩
              · simp [Instr.sliceBounds, hM, e0, hY, e1]
              · have e2 := run_bound (P := P) (w := w) (k := k2) (code := .slice3C) (n := l) (y := h.toNat) h0 (by omega)
                simp [Instr.sliceBounds, hM, e0, hY, e1, hZ, e2]
          refine good_v (v := .slice (if q0.toNat = l.toNat then some ⟨b, o, none⟩ else some (Addr.add ⟨b, o, none⟩ (l.toNat * e1))) (h.toNat - l.toNat) (q0.toNat - l.toNat)) (w' := w) ?_ (hA.same hS hs (relp_of ?_ (by simp)))
          · simp only [Instr.sliceAt, Instr.slice, Sem.run_bind, run_underlying hu, Result.andThen_ok, hbd, run_sizeOf hz, Sem.run_pure]
            rfl
          · by_cases hc : q0.toNat = l.toNat
            · rw [if_pos hc]
              exact .sb id _ e1 _ _ b o hb (by omega) (by omega) (fun h => by omega)
            · rw [if_neg hc, add_lit0]
              exact .sb id _ e1 _ _ b _ hb (by omega) (by omega) (fun h => by rw [ho (by omega)])
      · exact hs.elim
    · exact hs.elim
  · exact hs.elim

theorem snd_ext {T : TypeId} {X : Operand} {x : Opd} {j : Nat} (hx : opdA P T X = some x)
    (hs : step P (.ext x j) st K) (hS : InvS w E st.s st.k) (hT : Tm w E st a) (hA : After P st w E K N) : Good P w N (do pure (.value (← Instr.extract (a.eval X) j))) := by
  have hr := (opdA_rel hx hT).rel
  simp only [step] at hs
  split at hs
  · rename_i cs he
    rw [he] at hr
    generalize a.eval X = X' at hr
    cases hr with
    | tup _ vs h1 h2 =>
      split at hs
      · rename_i v hv
        have hlt : j < vs.size := by rw [h1]; exact (List.getElem?_eq_some_iff.1 hv).1
        have hg : vs[j]? = some (vs.getD j Go.undef) := by rw [Array.getD_eq_getD_getElem?, Array.getElem?_eq_getElem hlt]; rfl
        exact good_v (v := vs.getD j Go.undef) (w' := w) (by simp only [Instr.extract, hg]; rfl) (hA.same hS hs (relp_strip (h2 j v hv)))
      · exact hs.elim
  · exact hs.elim

/-! ### Maps -/
theorem snd_mkmap {t : TypeId} (hs : step P .mkmap st K) (hS : InvS w E st.s st.k) (hA : After P st w E K N) : Good P w N (do pure (.value (← Instr.makeMap t none))) := by
  obtain ⟨id, h1, h2, _⟩ := hS.fresh
  exact good_v (v := .map (some w.heap.size)) (w' := w.alloc (.map #[] 0)) (by simp [Instr.makeMap]) (hA _ _ _ _ _ _ (hs id h2) (hS.newmap h1) (relp_of (.map id w.heap.size (by simp [upd])) (by simp)))

/-- The zero value of a map's elements. -/
def okZeroV (P : Program) (z : A) (v : Value) : Bool :=
  match z, v with
  | .agg cs, .agg vs => okZero P cs vs.toList
  | .agg _, _ => false
  | _, .agg _ => false
  | z, v => okZero P [z] [v]
theorem okZeroV_rel {z : A} {v : Value} (h : okZeroV P z v = true) : Rel w E z v ∧ ∀ esz xs g e, z ≠ .sl esz xs (.own g e) := by
  unfold okZeroV at h
  split at h
  · rename_i cs vs
    have := okZero_held (P := P) (w := w) (E := E) (z := cs) (v0 := .agg vs) h
    exact ⟨.agg cs vs this.size this.one (fun j x hx => (this.rel j x hx).1), by simp⟩
  · cases h
  · cases h
  · rename_i h1 h2
    have hv : v.cells = #[v] := by
      cases v <;> first | rfl | (cases z <;> simp_all [okZero])
    have := okZero_held (P := P) (w := w) (E := E) (z := [z]) (v0 := v) (by rw [hv]; exact h)
    have h3 := this.rel 0 z rfl
    rw [hv] at h3
    exact ⟨by simpa using h3.1, h3.2⟩

theorem run_findKey {kt : TypeId} {x : A} {u : Value} (hx : Rel w E x u) (hk : basicKey P kt = true) (hf : keyFits P kt x = true) {es : List (A × A)} {vs : Array MapEntry} (hl : vs.size = es.length)
    (hr : ∀ (i : Nat) (a y : A), es[i]? = some (a, y) → ∃ e : MapEntry, vs[i]? = some e ∧ Rel w E a e.key ∧ Rel w E y e.val) (hall : ∀ p ∈ es, kindEq x p.1 = true) :
    match findA x es with
    | some y => ∃ i v, (Instr.findKey kt u vs.toList).run P w = .ok (some (i, v)) w ∧ Rel w E y v ∧ (∃ a, es[i]? = some (a, y) ∧ keyEq x a = true) ∧ ∀ (j : Nat) (a y : A), j < i → es[j]? = some (a, y) → keyEq x a = false
    | none => (Instr.findKey kt u vs.toList).run P w = .ok none w := by
  have hd : ∃ d, P.underlying kt = some d ∧ ((∃ s, x = A.str s ∧ d = .string) ∨ (∃ k n k', x = A.int k n ∧ d = .int k')) := by
    cases x <;> simp only [keyFits, Bool.false_eq_true] at hf
    · rename_i k n
      split at hf
      · rename_i k' hu; exact ⟨_, hu, .inr ⟨k, n, k', rfl, rfl⟩⟩
      · cases hf
    · rename_i s
      split at hf
      · rename_i hu; exact ⟨_, hu, .inl ⟨s, rfl, rfl⟩⟩
      · cases hf
  obtain ⟨d, hu, hd⟩ := hd
  have hk' : ∀ (i : Nat) (a y : A), es[i]? = some (a, y) → (∃ s, x = A.str s ∧ ∃ s', a = A.str s') ∨ (∃ k n n', x = A.int k n ∧ a = A.int k n') := by
    intro i a y hi
    have := hall _ (List.mem_of_getElem? hi)
    cases x <;> cases a <;> simp [kindEq] at this
    · subst this; exact .inr ⟨_, _, _, rfl, rfl⟩
    · exact .inl ⟨_, rfl, _, rfl⟩
  have key := findNow_find (P := P) hx hd es vs.toList 0 (by simpa using hl) (fun i a y h => by simpa using hr i a y h) hk'
  cases hq : findA x es with
  | some y =>
    simp only [hq] at key ⊢
    obtain ⟨i, v, h1, h2⟩ := key
    exact ⟨i, v, by simp [Instr.findKey, run_underlying hu, h1], h2⟩
  | none =>
    simp only [hq] at key ⊢
    simp [Instr.findKey, run_underlying hu, key.1]

def keyBas (P : Program) (t : TypeId) : Option Basic :=
  match P.underlying t with
  | some .string => some .str
  | some (.int k) => some (.int k)
  | _ => none
theorem keyBas_fits {t : TypeId} {kb : Basic} (h : keyBas P t = some kb) {x : A} (hx : keyB kb x = true) : basicKey P t = true ∧ keyFits P t x = true := by
  unfold keyBas at h
  split at h <;> rename_i hu
  · cases h
    cases x <;> simp [keyB] at hx
    simp [basicKey, keyFits, hu]
  · cases h
    cases x <;> simp [keyB] at hx
    subst hx
    simp [basicKey, keyFits, hu]
  · cases h
theorem snd_look {T t kt et : TypeId} {M X : Operand} {m x : Opd} {kb : Basic} {ok : Bool} {z : A} {i : TypeInfo} {v0 : Value} (hm : opdA P T M = some m) (hx : opdA P kt X = some x) (hu : P.underlying t = some (.map kt et)) 
    (hi : P.info? et = some i) (hz : i.zero = some v0) (hok : okZeroV P z v0 = true)
    (hkb : keyBas P kt = some kb) (hs : step P (.look kb ok z m x) st K) (hS : InvS w E st.s st.k) (hT : Tm w E st a) (hA : After P st w E K N) : Good P w N (do pure (.value (← Instr.lookup t (a.eval M) (a.eval X) ok))) := by
  have hrm := (opdA_rel hm hT).rel
  have hrx := (opdA_rel hx hT).rel
  obtain ⟨hz1, hz2⟩ := okZeroV_rel (w := w) (E := E) hok
  have fin : ∀ (y : A) (v : Value) (b : Bool), (K (if ok then .tup [y, .bool b] else y) st) → Rel w E y v → (∀ esz xs g e, y ≠ .sl esz xs (.own g e)) → N (if ok then .tuple #[v, .bool b] else v) w := by
    intro y v b hk hr hn
    cases ok with
    | true =>
      simp only [if_true] at hk ⊢
      refine hA.same hS hk (relp_of (.tup _ _ rfl (fun j x hx => ?_)) (by simp))
      match j, hx with
      | 0, hx => simp at hx; subst hx; exact hr
      | 1, hx => simp at hx; subst hx; exact .bool b
      | j + 2, hx => simp at hx
    | false => exact hA.same hS hk (relp_of hr hn)
  simp only [step] at hs
  split at hs
  · rename_i id he
    rw [he] at hrm
    generalize a.eval M = M' at hrm
    cases hrm with
    | map _ b hb =>
      split at hs
      · rename_i es hes
        obtain ⟨q1, q2, hs⟩ := hs
        obtain ⟨b', vs, clock, c1, c2, c3, c4⟩ := hS.maps id es hes
        rw [hb] at c1
        cases c1
        obtain ⟨hk, hkf⟩ := keyBas_fits hkb q1
        have hck : ∀ (e : Bool) (v : Value), (Instr.checkKey e 10000 kt v).run P w = .ok () w := fun e v => run_checkKey hk e 9999 v
        have hf := run_findKey (P := P) hrx hk hkf c3.1 c4 q2
        have hget : (getObj b).run P w = .ok (.map vs clock) w := by simp [getObj, Sem.run, c2]
        split at hs
        · rename_i y hy
          simp only [hy] at hf
          obtain ⟨j, v, h1, h2, _⟩ := hf
          refine good_v (v := if ok then .tuple #[v, .bool true] else v) (w' := w) ?_ (fin y.strip v true hs h2.strip (strip_ne y))
          simp [Instr.lookup, run_underlying hu, hget, hck, h1]
        · rename_i hy
          simp only [hy] at hf
          refine good_v (v := if ok then .tuple #[v0, .bool false] else v0) (w' := w) ?_ (fin z v0 false hs hz1 hz2)
          simp [Instr.lookup, run_underlying hu, hget, hck, hf, zeroValue, typeInfo, hi, hz]
      · exact hs.elim
  · rename_i he
    rw [he] at hrm
    generalize a.eval M = M' at hrm
    cases hrm with
    | nilmap =>
      obtain ⟨hk, hkf⟩ := keyBas_fits hkb hs.1
      have hck : ∀ (e : Bool) (v : Value), (Instr.checkKey e 10000 kt v).run P w = .ok () w := fun e v => run_checkKey hk e 9999 v
      have hf := run_findKey (P := P) hrx hk hkf (es := []) (vs := #[]) rfl (by simp) (by simp)
      simp only [findA] at hf
      refine good_v (v := if ok then .tuple #[v0, .bool false] else v0) (w' := w) ?_ (fin z v0 false hs.2 hz1 hz2)
      have hf' : (Instr.findKey kt (a.eval X) []).run P w = .ok none w := hf
      simp [Instr.lookup, run_underlying hu, hck, hf', zeroValue, typeInfo, hi, hz]
  · exact hs.elim

theorem run_sameBits (x : A) {u v : Value} (hu : Rel w E x u) {y : A} (hv : Rel w E y v) (h : keyEq x y = true) : (Instr.keyThatStays v u).run P w = .ok u w := by
  cases x <;> cases y <;> simp [keyEq] at h
  · cases hu; cases hv
    obtain ⟨rfl, rfl⟩ := h
    simp [Instr.keyThatStays, Instr.sameBits]
  · cases hu; cases hv
    subst h
    simp [Instr.keyThatStays, Instr.sameBits, beq_bytes]
theorem snd_mset {t kt et : TypeId} {M X Y : Operand} {m x y : Opd} {kb : Basic} {T : TypeId} (hm : opdA P T M = some m) (hx : opdA P kt X = some x) (hy : opdA P et Y = some y) (hu : P.underlying t = some (.map kt et)) (hkb : keyBas P kt = some kb)
    (hs : step P (.mset kb m x y) st K) (hS : InvS w E st.s st.k) (hT : Tm w E st a) (hA : After P st w E K N) : Good P w N (do Instr.mapUpdate t (a.eval M) (a.eval X) (a.eval Y); pure .skip) := by
  have hrm := (opdA_rel hm hT).rel
  have hrx := (opdA_rel hx hT).rel
  have hry := (opdA_rel hy hT).rel
  simp only [step] at hs
  split at hs
  · rename_i id he
    rw [he] at hrm
    generalize a.eval M = M' at hrm
    cases hrm with
    | map _ b hb =>
      split at hs
      · rename_i es hes
        obtain ⟨q1, q2, q3, hs⟩ := hs
        obtain ⟨b', vs, clock, c1, c2, c3, c4⟩ := hS.maps id es hes
        rw [hb] at c1
        cases c1
        obtain ⟨hk, hkf⟩ := keyBas_fits hkb q1
        have hck : ∀ (e : Bool) (v : Value), (Instr.checkKey e 10000 kt v).run P w = .ok () w := fun e v => run_checkKey hk e 9999 v
        have hf := run_findKey (P := P) hrx hk hkf c3.1 c4 q2
        have hget : (getObj b).run P w = .ok (.map vs clock) w := by simp [getObj, Sem.run, c2]
        have hset : ∀ (o : Obj), (setObj b o).run P w = .ok () (setBlk w b o) := by
          intro o
          simp only [setObj, Sem.run, c2]
          rfl
        cases hq : findA (ev st x) es with
        | none =>
          simp only [hq] at hf
          have hreach := hS.setmap (es' := setA (ev st x) (ev st y).strip es) hes hb (vs.push { key := a.eval X, val := a.eval Y, born := clock }) (clock + 1)
            ⟨by rw [setA_none hq]; simp [c3.1], born_push c3.2 _ _⟩ (fun i a' z hi => by
              rw [setA_none hq] at hi
              by_cases hlt : i < es.length
              · rw [List.getElem?_append_left hlt] at hi
                obtain ⟨e, e1, e2⟩ := c4 i a' z hi
                have c31 := c3.1
                exact ⟨e, by rw [Array.getElem?_push_lt (by omega)] ; rw [← e1]; exact (Array.getElem?_eq_getElem (by omega)).symm, e2⟩
              · rw [List.getElem?_append_right (by omega)] at hi
                have hi0 : i - es.length = 0 := by
                  cases hz : i - es.length with
                  | zero => rfl
                  | succ n => rw [hz] at hi; simp at hi
                rw [hi0] at hi
                simp at hi
                obtain ⟨rfl, rfl⟩ := hi
                have hil : i = vs.size := by have := c3.1; omega
                exact ⟨{ key := a.eval X, val := a.eval Y, born := clock }, by rw [hil]; simp, hrx, hry.strip⟩)
          refine good_u (w' := _) ?_ (hA _ _ _ _ _ _ hs hreach (relp_of (.undef _) (by simp)))
          simp [Instr.mapUpdate, run_underlying hu, hget, hck, hf, hset]
        | some z =>
          simp only [hq] at hf
          obtain ⟨i, v, h1, h2, ⟨a0, h3, h4⟩, h5⟩ := hf
          have hilt : i < es.length := (List.getElem?_eq_some_iff.1 h3).1
          obtain ⟨e0, f1, f2, f3⟩ := c4 i a0 z h3
          have hkeep := run_sameBits (P := P) _ hrx f2 h4
          have hreach := hS.setmap (es' := setA (ev st x) (ev st y).strip es) hes hb (vs.modify i fun e => { e with key := a.eval X, val := a.eval Y }) clock
            ⟨by rw [setA_at h3 h4 h5]; simp [c3.1], born_modify c3.2 i _ _⟩ (fun j a' z' hj => by
              rw [setA_at h3 h4 h5] at hj
              by_cases hji : j = i
              · subst hji
                rw [List.getElem?_set_self hilt] at hj
                simp at hj
                obtain ⟨rfl, rfl⟩ := hj
                exact ⟨{ e0 with key := a.eval X, val := a.eval Y }, by rw [Array.getElem?_modify, if_pos rfl, f1]; rfl, hrx, hry.strip⟩
              · rw [List.getElem?_set_ne (fun e => hji e.symm)] at hj
                obtain ⟨e, e1, e2⟩ := c4 j a' z' hj
                exact ⟨e, by rw [Array.getElem?_modify, if_neg (fun e => hji e.symm)]; exact e1, e2⟩)
          refine good_u (w' := _) ?_ (hA _ _ _ _ _ _ hs hreach (relp_of (.undef _) (by simp)))
          have hkey : ((vs[i]?).map (·.key)).getD (a.eval X) = e0.key := by rw [f1]; rfl
          simp only [Instr.mapUpdate, Sem.run_bind, run_underlying hu, Result.andThen_ok, hget, hck, h1, hkey, hkeep, hset]
      · exact hs.elim
  · exact hs.elim
theorem snd_mlen {T t kt et ty : TypeId} {M : Operand} {m : Opd} (hm : opdA P T M = some m) (hu : P.underlying t = some (.map kt et))
    (hs : step P (.mlen m) st K) (hS : InvS w E st.s st.k) (hT : Tm w E st a) (hA : After P st w E K N) : Good P w N (do pure (.value (← Builtin.len_ #[t] ty #[a.eval M]))) := by
  have hrm := (opdA_rel hm hT).rel
  simp only [step] at hs
  split at hs
  · rename_i id he
    rw [he] at hrm
    generalize a.eval M = M' at hrm
    cases hrm with
    | map _ b hb =>
      split at hs
      · rename_i es hes
        obtain ⟨b', vs, clock, c1, c2, c3, c4⟩ := hS.maps id es hes
        rw [hb] at c1
        cases c1
        have hget : (getObj b).run P w = .ok (.map vs clock) w := by simp [getObj, Sem.run, c2]
        exact good_v (v := .int .i64 es.length) (w' := w) (by simp [Builtin.len_, run_underlying hu, hget, goInt, c3.1]) (hA.same hS hs (relp_of (.int ..) (by simp)))
      · exact hs.elim
  · rename_i he
    rw [he] at hrm
    generalize a.eval M = M' at hrm
    cases hrm with
    | nilmap => exact good_v (v := .int .i64 0) (w' := w) (by simp [Builtin.len_, run_underlying hu, goInt]) (hA.same hS hs (relp_of (.int ..) (by simp)))
  · exact hs.elim

end
end Go.Pv
