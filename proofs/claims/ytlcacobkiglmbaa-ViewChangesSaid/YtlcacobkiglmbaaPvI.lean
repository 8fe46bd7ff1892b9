/- Each operation of the program that has a compact form does what that form says: values with parts, slices, calls. -/
import Derived.Test.YtlcacobkiglmbaaPvH
import Derived.Great.BuildSlice
set_option linter.unusedVariables false
set_option linter.unusedSimpArgs false
namespace Go.Pv
open Go
section
variable {P : Program} {st : St} {K : A → St → Prop} {a : Act} {w : World} {E : Env} {N : Value → World → Prop}

/-- The parts that are laid into cells. -/
theorem foldl_fill (off : Nat) : ∀ (l : List Value) (k : Nat) (cs : Array Value), off + k + l.length ≤ cs.size →
    ((l.zipIdx k).foldl (fun cs (c, j) => cs.setIfInBounds (off + j) c) cs).size = cs.size ∧
    ∀ j, ((l.zipIdx k).foldl (fun cs (c, j) => cs.setIfInBounds (off + j) c) cs).getD j Go.undef = if off + k ≤ j ∧ j < off + k + l.length then l.getD (j - (off + k)) Go.undef else cs.getD j Go.undef
  | [], k, cs, h => by
    refine ⟨rfl, fun j => ?_⟩
    rw [if_neg (by simp)]
    rfl
  | v :: l, k, cs, h => by
    simp only [List.length_cons] at h
    obtain ⟨h1, h2⟩ := foldl_fill off l (k + 1) (cs.setIfInBounds (off + k) v) (by simp; omega)
    simp only [List.zipIdx_cons, List.foldl_cons]
    refine ⟨by rw [h1]; simp, fun j => ?_⟩
    rw [h2]
    simp only [List.length_cons]
    by_cases e : j = off + k
    · subst e
      rw [if_neg (by omega), if_pos (by omega)]
      simp [Array.getD_eq_getD_getElem?, show off + k < cs.size by omega]
    · by_cases hin : off + (k + 1) ≤ j ∧ j < off + (k + 1) + l.length
      · rw [if_pos hin, if_pos (by omega), show j - (off + k) = (j - (off + (k + 1))) + 1 from by omega]
        simp
      · rw [if_neg hin, if_neg (by omega)]
        simp only [Array.getD_eq_getD_getElem?]
        rw [Array.getElem?_setIfInBounds_ne (by omega)]
theorem fill_one (off : Nat) (v : Value) (cs : Array Value) (h : off + v.cells.size ≤ cs.size) :
    (v.cells.zipIdx.foldl (fun cs (c, j) => cs.setIfInBounds (off + j) c) cs).size = cs.size ∧
    ∀ j, (v.cells.zipIdx.foldl (fun cs (c, j) => cs.setIfInBounds (off + j) c) cs).getD j Go.undef = if off ≤ j ∧ j < off + v.cells.size then v.cells.getD (j - off) Go.undef else cs.getD j Go.undef := by
  have := foldl_fill off v.cells.toList 0 cs (by simpa using h)
  rw [← Array.foldl_toList, Array.toList_zipIdx]
  simp only [Nat.add_zero, Array.length_toList] at this
  refine ⟨this.1, fun j => ?_⟩
  rw [this.2 j]
  simp [Array.getD_eq_getD_getElem?, List.getD_eq_getElem?_getD]

/-- What a value with parts holds while it is built. -/
structure Held (w : World) (E : Env) (cs : List A) (vs : Array Value) : Prop where
  size : vs.size = cs.length
  one : ∀ j, j < cs.length → (vs.getD j Go.undef).oneCell' = true
  rel : ∀ j x, cs[j]? = some x → Rel w E x (vs.getD j Go.undef) ∧ ∀ esz xs g e, x ≠ .sl esz xs (.own g e)
theorem Held.fill {cs ns : List A} {vs : Array Value} (h : Held w E cs vs) {off : Nat} {v : Value} (h1 : v.cells.size = ns.length) (h2 : ∀ j, j < ns.length → (v.cells.getD j Go.undef).oneCell' = true)
    (h3 : ∀ j x, ns[j]? = some x → Rel w E x (v.cells.getD j Go.undef) ∧ ∀ esz xs g e, x ≠ .sl esz xs (.own g e)) (hf : off + ns.length ≤ cs.length) :
    Held w E (splice cs off ns) (v.cells.zipIdx.foldl (fun cs (c, j) => cs.setIfInBounds (off + j) c) vs) := by
  obtain ⟨g1, g2⟩ := fill_one off v vs (by rw [h1, h.size]; exact hf)
  refine ⟨by rw [g1, h.size, splice_length _ _ _ hf], fun j hj => ?_, fun j x hx => ?_⟩
  · rw [splice_length _ _ _ hf] at hj
    rw [g2]
    split
    · exact h2 _ (by omega)
    · exact h.one j hj
  · rw [splice_get _ _ _ hf] at hx
    rw [g2, h1]
    split at hx
    · rename_i hj; rw [if_pos hj]; exact h3 _ x hx
    · rename_i hj; rw [if_neg hj]; exact h.rel j x hx

theorem okZero_held {z : List A} {v0 : Value} (ok : okZero P z v0.cells.toList = true) : Held w E z v0.cells := by
  have hno : ∀ (cs : List A) (vs : List Value), okZero P cs vs = true → ∀ x ∈ cs, ∀ esz xs g e, x ≠ .sl esz xs (.own g e) := by
    intro cs
    induction cs with
    | nil => simp
    | cons c r ih =>
      intro vs h x hx esz xs g e he
      cases hx with
      | head =>
        subst he
        cases vs <;> simp [okZero] at h
      | tail _ hx =>
        cases vs with
        | nil => unfold okZero at h; split at h <;> simp_all
        | cons v vs =>
          have hr : okZero P r vs = true := by
            unfold okZero at h
            split at h <;> rename_i h1 h2 <;> first | (cases h1; done) | (cases h; done) | (injection h1 with h1 h1'; injection h2 with h2 h2'; subst h1' h2'; simp_all)
          exact ih vs hr x hx esz xs g e he
  obtain ⟨g1, g2, g3⟩ := okZero_rel (P := P) (w := w) (E := E) (st := ⟨fun _ => .undef, fun _ => none, fun _ => .unused⟩) z v0.cells.toList ok
  exact ⟨by simpa using g1, by simpa using g2, fun j x hx => ⟨by simpa using (g3 j x hx).rel, hno z _ ok x (List.mem_of_getElem? hx)⟩⟩

/-! ### A struct or an array out of its parts -/
theorem fillP_sound {T : TypeId} {place : Nat → Option (Nat × Nat)} (hT : Tm w E st a) : ∀ (Ps : List (Nat × Operand)) (ps : List (Nat × Nat × Opd)),
    (Ps.mapM fun (q : Nat × Operand) => do let (o, n) ← place q.1; let x ← opdA P T q.2; pure (o, n, x)) = some ps →
    ∀ (z : List A) (vs : Array Value) (K : List A → Prop), Held w E z vs → fillP st z ps K →
    ∃ vs' cs, Instr.fill place vs (Ps.map fun q => (q.1, a.eval q.2)) = some vs' ∧ Held w E cs vs' ∧ K cs
  | [], ps, h, z, vs, K, hh, hk => by
    simp at h; subst h
    exact ⟨vs, z, rfl, hh, hk⟩
  | (j, X) :: Ps, ps, h, z, vs, K, hh, hk => by
    simp only [List.mapM_cons, Option.bind_eq_bind, Option.bind_eq_some_iff, Option.pure_def, Option.some.injEq] at h
    obtain ⟨q, ⟨⟨o, n⟩, hp, x, hx, rfl⟩, qs, hqs, rfl⟩ := h
    obtain ⟨k1, k2, k3, k4⟩ := hk
    obtain ⟨g1, g2, g3⟩ := Rel.scells (opdA_rel hx hT).rel k1
    obtain ⟨vs', cs, f1, f2, f3⟩ := fillP_sound hT Ps qs hqs _ _ K (hh.fill g1 g2 g3 (by omega)) k4
    refine ⟨vs', cs, ?_, f2, f3⟩
    have hs := hh.size
    have c1 : ¬ ((decide ((a.eval X).cells.size ≠ n) || decide (o + (a.eval X).cells.size > vs.size)) = true) := by
      simp only [Bool.or_eq_true, decide_eq_true_eq, not_or]
      exact ⟨by omega, by omega⟩
    simp only [List.map_cons, Instr.fill, hp]
    rw [if_neg c1]
    exact f1

def placesOf (P : Program) (fs : Array Field) : Option (Array (Nat × Nat)) := fs.mapM fun f => do pure (f.offset, ← sizeT P f.type)
theorem run_places (fs : Array Field) (pl : Array (Nat × Nat)) (h : placesOf P fs = some pl) : (fs.mapM fun f => do pure (f.offset, ← sizeOf f.type) : Sem (Array (Nat × Nat))).run P w = .ok pl w := by
  have key : ∀ (l : List Field) (ps : List (Nat × Nat)), (l.mapM fun f => (do pure (f.offset, ← sizeT P f.type) : Option (Nat × Nat))) = some ps →
      (l.mapM fun f => (do pure (f.offset, ← sizeOf f.type) : Sem (Nat × Nat))).run P w = .ok ps w := by
    intro l
    induction l with
    | nil => intro ps h; simp at h; subst h; simp
    | cons f l ih =>
      intro ps h
      simp only [List.mapM_cons, Option.bind_eq_bind, Option.bind_eq_some_iff, Option.pure_def, Option.some.injEq] at h
      obtain ⟨q, ⟨n, hn, rfl⟩, qs, hqs, rfl⟩ := h
      simp only [List.mapM_cons, Sem.run_bind, run_sizeOf hn, Result.andThen_ok, Sem.run_pure, ih qs hqs]
  obtain ⟨l⟩ := fs
  unfold placesOf at h
  rw [List.mapM_toArray] at h ⊢
  simp only [Option.map_eq_map, Option.map_eq_some_iff] at h
  obtain ⟨ps, hps, rfl⟩ := h
  rw [Sem.run_map, key l ps hps]
  rfl

theorem snd_buildS {T t : TypeId} {fs : Array Field} {pl : Array (Nat × Nat)} {i : TypeInfo} {v0 : Value} {z : List A} {Ps : Array (Nat × Operand)} {ps : List (Nat × Nat × Opd)} (hu : P.underlying t = some (.struct fs)) (hpl : placesOf P fs = some pl)
    (hi : P.info? t = some i) (hz : i.zero = some v0) (ok : okZero P z v0.cells.toList = true) (hp : (Ps.toList.mapM fun (q : Nat × Operand) => do let (o, n) ← pl[q.1]?; let x ← opdA P T q.2; pure (o, n, x)) = some ps)
    (hs : step P (.build z ps) st K) (hS : InvS w E st.s st.k) (hT : Tm w E st a) (hA : After P st w E K N) : Good P w N (do pure (.value (← Instr.build t (Ps.map fun (i, x) => (i, a.eval x))))) := by
  obtain ⟨vs', cs, h1, h2, h3⟩ := fillP_sound (place := (pl[·]?)) hT Ps.toList ps hp z v0.cells _ (okZero_held ok) hs
  refine good_v (v := .agg vs') (w' := w) ?_ (hA.same hS h3 (relp_of (.agg cs vs' h2.size h2.one (fun j x hx => (h2.rel j x hx).1)) (by simp)))
  simp only [Instr.build, Sem.run_bind, zeroValue, typeInfo, run_program, Result.andThen_ok, hi, hz, Sem.run_pure, run_underlying hu, run_places fs pl hpl, Array.toList_map]
  have h1' : Instr.fill (fun x => pl[x]?) v0.cells (Ps.toList.map fun x => (x.1, a.eval x.2)) = some vs' := h1
  simp [h1']

theorem snd_buildA {T t e : TypeId} {len m : Nat} {i : TypeInfo} {v0 : Value} {z : List A} {Ps : Array (Nat × Operand)} {ps : List (Nat × Nat × Opd)} (hu : P.underlying t = some (.array len e)) (hm : sizeT P e = some m)
    (hi : P.info? t = some i) (hz : i.zero = some v0) (ok : okZero P z v0.cells.toList = true) (hp : (Ps.toList.mapM fun (q : Nat × Operand) => do let (o, n) ← some (q.1 * m, m); let x ← opdA P T q.2; pure (o, n, x)) = some ps)
    (hs : step P (.build z ps) st K) (hS : InvS w E st.s st.k) (hT : Tm w E st a) (hA : After P st w E K N) : Good P w N (do pure (.value (← Instr.build t (Ps.map fun (i, x) => (i, a.eval x))))) := by
  obtain ⟨vs', cs, h1, h2, h3⟩ := fillP_sound (place := fun i => some (i * m, m)) hT Ps.toList ps hp z v0.cells _ (okZero_held ok) hs
  refine good_v (v := .agg vs') (w' := w) ?_ (hA.same hS h3 (relp_of (.agg cs vs' h2.size h2.one (fun j x hx => (h2.rel j x hx).1)) (by simp)))
  simp only [Instr.build, Sem.run_bind, zeroValue, typeInfo, run_program, Result.andThen_ok, hi, hz, Sem.run_pure, run_underlying hu, run_sizeOf hm, Array.toList_map]
  have h1' : Instr.fill (fun i => some (i * m, m)) v0.cells (Ps.toList.map fun x => (x.1, a.eval x.2)) = some vs' := h1
  simp [h1']

/-! ### A literal slice -/
theorem flatten_replicate_get (z : List A) (n m : Nat) (hz : z.length = m) : ∀ (j : Nat), j < n * m → (List.replicate n z).flatten[j]? = z[j % m]? := by
  induction n with
  | zero => intro j hj; omega
  | succ n ih =>
    intro j hj
    rw [List.replicate_succ, List.flatten_cons]
    by_cases h : j < m
    · rw [List.getElem?_append_left (by omega), Nat.mod_eq_of_lt h]
    · rw [List.getElem?_append_right (by omega), hz, ih _ (by rw [Nat.add_mul] at hj; omega), Nat.mod_eq_sub_mod (a := j) (b := m) (by omega)]
theorem set_flatten (m : Nat) : ∀ (xs : List (List A)) (i : Nat) (ns : List A), (∀ cs ∈ xs, cs.length = m) → i < xs.length → ns.length = m → (xs.set i ns).flatten = splice xs.flatten (i * m) ns
  | [], i, ns, _, h, _ => by simp at h
  | c :: xs, 0, ns, hm, _, hn => by
    have hc : c.length = m := hm c (by simp)
    unfold splice
    simp only [Nat.zero_mul, List.take_zero, List.set_cons_zero, List.flatten_cons, List.nil_append, Nat.zero_add, hn, ← hc, List.drop_left]
  | c :: xs, i + 1, ns, hm, h, hn => by
    have hc : c.length = m := hm c (by simp)
    have ih := set_flatten m xs i ns (fun cs hcs => hm cs (by simp [hcs])) (by simpa using h) hn
    simp only [List.set_cons_succ, List.flatten_cons, ih]
    unfold splice
    have e1 : (i + 1) * m = c.length + i * m := by rw [Nat.add_mul, hc]; omega
    rw [e1, List.take_length_add_append, Nat.add_assoc, List.drop_length_add_append]
    simp [List.append_assoc]

theorem litP_sound {T : TypeId} {m : Nat} (hT : Tm w E st a) : ∀ (Ps : List (Nat × Operand)) (ps : List (Nat × Opd)),
    (Ps.mapM fun (q : Nat × Operand) => do let x ← opdA P T q.2; pure (q.1, x)) = some ps →
    ∀ (z : List (List A)) (vs : Array Value) (K : List (List A) → Prop), (∀ cs ∈ z, cs.length = m) → Held w E z.flatten vs → litP st m z ps K →
    ∃ vs' cs, Instr.fill (fun i => some (i * m, m)) vs (Ps.map fun q => (q.1, a.eval q.2)) = some vs' ∧ (∀ c ∈ cs, c.length = m) ∧ cs.length = z.length ∧ Held w E cs.flatten vs' ∧ K cs
  | [], ps, h, z, vs, K, hz, hh, hk => by
    simp at h; subst h
    exact ⟨vs, z, rfl, hz, rfl, hh, hk⟩
  | (j, X) :: Ps, ps, h, z, vs, K, hz, hh, hk => by
    simp only [List.mapM_cons, Option.bind_eq_bind, Option.bind_eq_some_iff, Option.pure_def, Option.some.injEq] at h
    obtain ⟨q, ⟨x, hx, rfl⟩, qs, hqs, rfl⟩ := h
    obtain ⟨k1, k2, k3, k4⟩ := hk
    obtain ⟨g1, g2, g3⟩ := Rel.scells (opdA_rel hx hT).rel k1
    have hzl : z.flatten.length = z.length * m := by
      rw [List.length_flatten]
      have : z.map List.length = List.replicate z.length m := by
        rw [List.eq_replicate_iff]
        exact ⟨by simp, fun b hb => by obtain ⟨c, hc, rfl⟩ := List.mem_map.1 hb; exact hz c hc⟩
      rw [this]
      simp
    have hfit : j * m + m ≤ z.flatten.length := by
      rw [hzl]
      have : (j + 1) * m ≤ z.length * m := Nat.mul_le_mul_right _ k3
      rw [Nat.add_mul] at this
      omega
    have hnew := hh.fill (off := j * m) g1 g2 g3 (by rw [k2]; exact hfit)
    rw [← set_flatten m z j _ hz k3 k2] at hnew
    obtain ⟨vs', cs, f1, f2, f3, f4, f5⟩ := litP_sound hT Ps qs hqs _ _ K (fun cs hcs => by
      rcases List.mem_or_eq_of_mem_set hcs with h | h
      · exact hz cs h
      · rw [h]; exact k2) hnew k4
    refine ⟨vs', cs, ?_, f2, by simpa using f3, f4, f5⟩
    have hs := hh.size
    have c1 : ¬ ((decide ((a.eval X).cells.size ≠ m) || decide (j * m + (a.eval X).cells.size > vs.size)) = true) := by
      simp only [Bool.or_eq_true, decide_eq_true_eq, not_or]
      exact ⟨by omega, by omega⟩
    simp only [List.map_cons, Instr.fill]
    rw [if_neg c1]
    exact f1

theorem flatten_get (m : Nat) : ∀ (cs : List (List A)) (i j : Nat) (c : List A), (∀ c ∈ cs, c.length = m) → cs[i]? = some c → j < m → cs.flatten[i * m + j]? = c[j]?
  | [], i, j, c, _, h, _ => by simp at h
  | d :: cs, 0, j, c, hm, h, hj => by
    simp at h; subst h
    have hd := hm d (by simp)
    simp only [Nat.zero_mul, Nat.zero_add, List.flatten_cons]
    rw [List.getElem?_append_left (by omega)]
  | d :: cs, i + 1, j, c, hm, h, hj => by
    have hd := hm d (by simp)
    simp only [List.flatten_cons]
    rw [List.getElem?_append_right (by rw [Nat.add_mul]; omega), hd, show (i + 1) * m + j - m = i * m + j from by rw [Nat.add_mul]; omega]
    exact flatten_get m cs i j c (fun c hc => hm c (by simp [hc])) (by simpa using h) hj

theorem snd_lit {T t e : TypeId} {len m : Nat} {i : TypeInfo} {v0 : Value} {z : List A} {Ps : Array (Nat × Operand)} {ps : List (Nat × Opd)} (hu : P.underlying t = some (.slice e)) (hi : P.info? e = some i) (hm : i.size = m) (hm0 : m ≠ 0)
    (hz : i.zero = some v0) (ok : okZero P z v0.cells.toList = true) (hzm : z.length = m) (hlen : len * m ≤ 16777216) (h00 : len = 0 → Ps = #[]) (hp : (Ps.toList.mapM fun (q : Nat × Operand) => do let x ← opdA P T q.2; pure (q.1, x)) = some ps)
    (hs : step P (.lit m e z len ps) st K) (hS : InvS w E st.s st.k) (hT : Tm w E st a) (hA : After P st w E K N) : Good P w N (do pure (.value (← Instr.buildSlice t len (Ps.map fun (i, x) => (i, a.eval x))))) := by
  have hz0 : Held w E z v0.cells := okZero_held ok
  have hvz : v0.cells.size = m := by rw [hz0.size, hzm]
  have hfl : (List.replicate len z).flatten.length = len * m := by simp [hzm]
  have hinit : Held w E (List.replicate len z).flatten ((Array.range (len * m)).map (v0.cells[· % v0.cells.size]!)) := by
    have hget : ∀ j, j < len * m → ((Array.range (len * m)).map (v0.cells[· % v0.cells.size]!)).getD j Go.undef = v0.cells.getD (j % m) Go.undef := by
      intro j hj
      have hjm : j % m < m := Nat.mod_lt _ (by omega)
      simp only [Array.getD_eq_getD_getElem?, Array.getElem?_map, Array.getElem?_range, hj, hvz]
      simp [hvz, hjm]
    refine ⟨by simp [hzm], fun j hj => ?_, fun j x hx => ?_⟩
    · rw [hfl] at hj
      rw [hget j hj]
      exact hz0.one _ (by rw [hzm]; exact Nat.mod_lt _ (by omega))
    · have hj : j < len * m := by rw [← hfl]; exact (List.getElem?_eq_some_iff.1 hx).1
      rw [flatten_replicate_get z len m hzm j hj] at hx
      rw [hget j hj]
      exact hz0.rel _ x hx
  obtain ⟨vs', cs, f1, f2, f3, f4, f5⟩ := litP_sound hT Ps.toList ps hp (List.replicate len z) _ _ (fun c hc => by rw [(List.mem_replicate.1 hc).2]; exact hzm) hinit hs
  have hcl : cs.length = len := by simpa using f3
  have hvs : vs'.size = len * m := by
    rw [f4.size, List.length_flatten]
    have : cs.map List.length = List.replicate cs.length m := by
      rw [List.eq_replicate_iff]
      exact ⟨by simp, fun b hb => by obtain ⟨c, hc, rfl⟩ := List.mem_map.1 hb; exact f2 c hc⟩
    rw [this]
    simp [hcl]
  subst hcl
  have hrow := hS.newrow vs' e (cs.length * m) (by omega)
  have hheap : (w.alloc (.cells vs' e)).heap[w.heap.size]? = some (.cells vs' e (0, 0)) := heap_alloc_new w _
  refine good_v (v := .slice (some ⟨w.heap.size, 0, none⟩) cs.length cs.length) (w' := w.alloc (.cells vs' e)) ?_ (hA _ _ _ _ _ _ f5 hrow (relp_of ?_ (by simp)))
  · have h1' : Instr.fill (fun i => some (i * m, m)) ((Array.range (cs.length * m)).map (v0.cells[· % v0.cells.size]!)) (Ps.map fun (i, x) => (i, a.eval x)).toList = some vs' := by rw [Array.toList_map]; exact f1
    by_cases h0 : cs.length = 0
    · obtain rfl := h00 h0
      have he : (Array.range (cs.length * m)).map (v0.cells[· % v0.cells.size]!) = #[] := by rw [h0, Nat.zero_mul, Array.range_zero', Array.map_empty]
      rw [he] at h1'
      simp [Instr.fill] at h1'
      subst h1'
      rw [h0]
      simp [Instr.buildSlice, run_underlying hu, sizeOf, typeInfo, hi, hm, newRow, Instr.fill, Array.range_zero']
    · subst hm
      exact run_buildSlice w t e cs.length _ vs' i v0 hu hi hz (by omega) (Nat.mul_ne_zero h0 hm0) h1'
  · refine .sl m cs .full (some ⟨w.heap.size, 0, none⟩) cs.length (fun i j => vs'.getD (i * m + j) Go.undef) (Nat.le_refl _) (by simp only [maxLen]; have : cs.length ≤ cs.length * m := Nat.le_mul_of_pos_right _ (by omega); omega) (by simp) (fun _ => rfl)
      (fun i c hc => f2 c (List.mem_of_getElem? hc)) ?_ ?_
    · intro i j hi hj
      have hlt : i * m + j < cs.length * m := idx_lt (by omega) hj
      refine ⟨w.heap.size, 0, rfl, .inr ⟨rfl, by omega⟩, ?_, ?_⟩
      · rw [Nat.zero_add, cell_of_row _ w.heap.size _ vs' e (0, 0) hheap, Array.getD_eq_getD_getElem?, Array.getElem?_eq_getElem (by omega)]
        rfl
      · exact f4.one _ (by rw [← f4.size, hvs]; exact hlt)
    · intro i c j x hc hx
      have hjm : j < m := by have := (List.getElem?_eq_some_iff.1 hx).1; rw [f2 c (List.mem_of_getElem? hc)] at this; exact this
      refine hrow.ext.rel (f4.rel (i * m + j) x ?_).1
      rw [flatten_get m cs i j c f2 hc hjm]
      exact hx

end
end Go.Pv
