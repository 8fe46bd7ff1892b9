/- Cells that are read, stored, appended: the memory behind slices over boxes. -/
import Derived.Test.YtlcacobkiglmbaaPvL
import Derived.Laws.Slices
set_option linter.unusedVariables false
set_option linter.unusedSimpArgs false
namespace Go.Pv
open Go
theorem wrap64 {n : Int} (h1 : -9223372036854775808 ≤ n) (h2 : n < 9223372036854775808) : IntKind.i64.wrap n = n := by
  simp only [IntKind.wrap, IntKind.signed, IntKind.bits]
  simp
  omega

section
variable {P : Program} {st : St} {K : A → St → Prop} {a : Act} {w : World} {E : Env} {N : Value → World → Prop}

/-- An empty slice has elements of whatever size. -/
theorem Rel.empty {esz esz' : Nat} {t : Tok} {v : Value} (h : Rel w E (.sl esz [] t) v) : Rel w E (.sl esz' [] t) v := by
  cases h with
  | sl _ _ _ ad c f h1 h2 h3 h4 h5 h6 h7 => exact .sl esz' [] t ad c f h1 h2 h3 h4 (by simp) (by simp) (by simp)

theorem flatS_length {m : Nat} {xs : List (List A)} (h : ∀ cs ∈ xs, cs.length = m) : (flatS xs).length = xs.length * m := by
  unfold flatS
  rw [List.length_flatten]
  have : (xs.map (List.map A.strip)).map List.length = List.replicate xs.length m := by
    rw [List.eq_replicate_iff]
    exact ⟨by simp, fun b hb => by
      simp only [List.map_map, List.mem_map, Function.comp] at hb
      obtain ⟨c, hc, rfl⟩ := hb
      simp [h c hc]⟩
  rw [this]
  simp
theorem flatS_get {m : Nat} {xs : List (List A)} (h : ∀ cs ∈ xs, cs.length = m) {p : Nat} {x : A} (hx : (flatS xs)[p]? = some x) : ∃ cs y, xs[p / m]? = some cs ∧ cs[p % m]? = some y ∧ x = y.strip ∧ p / m < xs.length ∧ p % m < m := by
  have hp : p < xs.length * m := by
    have := (List.getElem?_eq_some_iff.1 hx).1
    rwa [flatS_length h] at this
  obtain ⟨h1, h2⟩ := div_lt hp
  have e : p / m * m + p % m = p := by rw [Nat.mul_comm]; exact Nat.div_add_mod p m
  have hc : (xs.map (List.map A.strip))[p / m]? = some (xs[p / m].map A.strip) := by simp [h1]
  have hg := flatten_get m (xs.map (List.map A.strip)) (p / m) (p % m) _ (fun c hc => by
    obtain ⟨d, hd, rfl⟩ := List.mem_map.1 hc
    simp [h d hd]) hc h2
  rw [e] at hg
  unfold flatS at hx
  rw [hg, List.getElem?_map, Option.map_eq_some_iff] at hx
  obtain ⟨y, hy, rfl⟩ := hx
  exact ⟨xs[p / m], y, by simp [h1], hy, rfl, h1, h2⟩

/-- Cells, abstract and of the world. -/
structure RelC (w : World) (E : Env) (k : Nat → Tk) (ds : List A) (vs : List Value) : Prop where
  len : vs.length = ds.length
  one : ∀ j, j < ds.length → (vs.getD j Go.undef).oneCell' = true
  rel : ∀ j x, ds[j]? = some x → RelP w E k x (vs.getD j Go.undef)
theorem RelC.nil (k : Nat → Tk) : RelC w E k [] [] := ⟨rfl, by simp, by simp⟩
theorem RelC.app {k : Nat → Tk} {a b : List A} {u v : List Value} (h : RelC w E k a u) (h' : RelC w E k b v) : RelC w E k (a ++ b) (u ++ v) := by
  have l := h.len
  refine ⟨by simp [h.len, h'.len], fun j hj => ?_, fun j x hx => ?_⟩
  · rw [List.length_append] at hj
    rw [List.getD_eq_getElem?_getD]
    by_cases c : j < a.length
    · rw [List.getElem?_append_left (by omega), ← List.getD_eq_getElem?_getD]; exact h.one j c
    · rw [List.getElem?_append_right (by omega), ← List.getD_eq_getElem?_getD, l]; exact h'.one _ (by omega)
  · rw [List.getD_eq_getElem?_getD]
    by_cases c : j < a.length
    · rw [List.getElem?_append_left c] at hx
      rw [List.getElem?_append_left (by omega), ← List.getD_eq_getElem?_getD]; exact h.rel j x hx
    · rw [List.getElem?_append_right (by omega)] at hx
      rw [List.getElem?_append_right (by omega), ← List.getD_eq_getElem?_getD, l]; exact h'.rel _ x hx
theorem RelC.take {k : Nat → Tk} {a : List A} {u : List Value} (h : RelC w E k a u) (n : Nat) : RelC w E k (a.take n) (u.take n) := by
  refine ⟨by simp [h.len], fun j hj => ?_, fun j x hx => ?_⟩
  · simp only [List.length_take] at hj
    rw [List.getD_eq_getElem?_getD, List.getElem?_take, if_pos (by omega), ← List.getD_eq_getElem?_getD]
    exact h.one j (by omega)
  · rw [List.getElem?_take] at hx
    split at hx
    · rename_i c
      rw [List.getD_eq_getElem?_getD, List.getElem?_take, if_pos c, ← List.getD_eq_getElem?_getD]
      exact h.rel j x hx
    · cases hx
theorem RelC.strip {k : Nat → Tk} {a : List A} {u : List Value} (h : RelC w E k a u) : RelC w E k (a.map A.strip) u :=
  ⟨by simp [h.len], fun j hj => h.one j (by simpa using hj), fun j x hx => by
    rw [List.getElem?_map, Option.map_eq_some_iff] at hx
    obtain ⟨y, hy, rfl⟩ := hx
    exact relp_strip (h.rel j y hy).rel⟩
theorem RelC.ext {w' : World} {E' : Env} {k k' : Nat → Tk} {a : List A} {u : List Value} (h : RelC w E k a u) (e : Ext w E k w' E' k') : RelC w' E' k' a u := ⟨h.len, h.one, fun j x hx => e.relp (h.rel j x hx)⟩
theorem RelC.undefs {k : Nat → Tk} {u : List Value} (h : ∀ v ∈ u, v.oneCell' = true) : RelC w E k (List.replicate u.length .undef) u := by
  refine ⟨by simp, fun j hj => ?_, fun j x hx => ?_⟩
  · rw [List.length_replicate] at hj
    rw [List.getD_eq_getElem?_getD, List.getElem?_eq_getElem hj]
    exact h _ (List.getElem_mem hj)
  · have := List.mem_of_getElem? hx
    rw [(List.mem_replicate.1 this).2]
    exact relp_of (.undef _) (by simp)
theorem RelC.zeros {k : Nat → Tk} {z : List A} {u : List Value} (h : RelC w E k z u) : ∀ n : Nat, RelC w E k (List.replicate n z).flatten (List.replicate n u).flatten
  | 0 => .nil k
  | n + 1 => by rw [List.replicate_succ, List.replicate_succ, List.flatten_cons, List.flatten_cons]; exact h.app (h.zeros n)
/-- A part of a box. -/
theorem RelC.box {k : Nat → Tk} {cs : List A} {cur : Array Value} (hs : cur.size = cs.length) (h1 : ∀ j, j < cs.length → (cur.getD j Go.undef).oneCell' = true) (hr : ∀ j x, cs[j]? = some x → RelP w E k x (cur.getD j Go.undef)) (off n : Nat) :
    RelC w E k ((cs.drop off).take n) ((cur.toList.drop off).take n) := by
  have e : ∀ j, (cur.toList.drop off).getD j Go.undef = cur.getD (off + j) Go.undef := fun j => by
    rw [List.getD_eq_getElem?_getD, List.getElem?_drop, Array.getElem?_toList, Array.getD_eq_getD_getElem?]
  have : RelC w E k (cs.drop off) (cur.toList.drop off) := ⟨by simp [hs], fun j hj => by rw [e]; simp only [List.length_drop] at hj; exact h1 _ (by omega), fun j x hx => by rw [e]; rw [List.getElem?_drop] at hx; exact hr _ x hx⟩
  exact this.take n
theorem div_get {n esz p : Nat} (h : p < n * esz) : p / esz * esz + p % esz = p := by rw [Nat.mul_comm]; exact Nat.div_add_mod p esz
/-- The cells of a slice that is never written again. -/
theorem RelC.flat {k : Nat → Tk} {esz : Nat} {xs : List (List A)} {f : Nat → Nat → Value} (hl : ∀ (i : Nat) (cs : List A), xs[i]? = some cs → cs.length = esz) (h1 : ∀ i j, i < xs.length → j < esz → (f i j).oneCell' = true)
    (hr : ∀ (i : Nat) (cs : List A) (j : Nat) (x : A), xs[i]? = some cs → cs[j]? = some x → Rel w E x (f i j)) : RelC w E k (flatS xs) (flat f xs.length esz) := by
  have hm : ∀ cs ∈ xs, cs.length = esz := fun cs h => by
    obtain ⟨i, hi, rfl⟩ := List.getElem_of_mem h
    exact hl i _ (List.getElem?_eq_getElem hi)
  have hg : ∀ p, p < xs.length * esz → (Go.Pv.flat f xs.length esz).getD p Go.undef = f (p / esz) (p % esz) := fun p hp => by
    obtain ⟨a1, a2⟩ := div_lt hp
    have := flat_get f a1 a2
    rw [div_get hp] at this
    rw [List.getD_eq_getElem?_getD, this]
    rfl
  refine ⟨by rw [flat_length, flatS_length hm], fun j hj => ?_, fun j x hx => ?_⟩
  · rw [flatS_length hm] at hj
    rw [hg j hj]
    obtain ⟨a1, a2⟩ := div_lt hj
    exact h1 _ _ a1 a2
  · have hj : j < xs.length * esz := by
      have := (List.getElem?_eq_some_iff.1 hx).1
      rwa [flatS_length hm] at this
    obtain ⟨cs, y, e1, e2, rfl, _, _⟩ := flatS_get hm hx
    rw [hg j hj]
    exact relp_strip (hr _ _ _ _ e1 e2)
/-- A source: how many elements it has, what its cells are, and that they are read. -/
structure Src (P : Program) (w : World) (E : Env) (k : Nat → Tk) (esz : Nat) (v : Value) (m : Nat) (ds : List A) (us : List Value) : Prop where
  len : (Builtin.lenOf v).run P w = .ok m w
  rel : RelC w E k ds us
  size : us.length = m * esz
  read : ∀ (w' : World), (∀ b o, w'.cell? ⟨b, o, none⟩ = w.cell? ⟨b, o, none⟩) → ∀ n, n ≤ m → (Builtin.firstCells esz n v).run P w' = .ok (us.take (n * esz)).toArray w'
theorem src_of {k : Nat → Tk} {s : Nat → Option Blk} (hS : InvS w E s k) {esz : Nat} {y : A} {v : Value} (hr : Rel w E y v) {Q : Nat → List A → Prop} (h : srcP s esz y Q) : ∃ m ds us, Q m ds ∧ Src P w E k esz v m ds us := by
  unfold srcP at h
  split at h
  · rename_i e ys t
    obtain ⟨h1, hq⟩ := h
    have hr' : Rel w E (.sl esz ys t) v := by
      rcases h1 with rfl | rfl
      · exact hr
      · exact hr.empty
    cases hr' with
    | sl _ _ _ ad c f q1 q2 q3 q4 q5 q6 q7 =>
      refine ⟨_, _, flat f ys.length esz, hq, by simp [Builtin.lenOf], RelC.flat q5 (fun i j hi hj => by obtain ⟨_, _, _, _, _, h3⟩ := q6 i j hi hj; exact h3) q7, flat_length .., fun w' hw n hn => ?_⟩
      cases ad with
      | none =>
        have : ys.length * esz = 0 := by
          rcases Nat.eq_zero_or_pos (ys.length * esz) with h0 | h0
          · exact h0
          · obtain ⟨_, _, q, _⟩ := q6 0 0 (by rcases Nat.eq_zero_or_pos ys.length with h | h; · rw [h] at h0; simp at h0
                                              · exact h) (by rcases Nat.eq_zero_or_pos esz with h | h; · rw [h] at h0; simp at h0
                                                             · exact h)
            cases q
        have hz : flat f ys.length esz = [] := by apply List.eq_nil_of_length_eq_zero; rw [flat_length]; exact this
        rw [hz, run_firstCells_none]
        simp
      | some a =>
        have hnm : n * esz ≤ ys.length * esz := Nat.mul_le_mul_right _ hn
        refine run_firstCells_some w' esz n a _ _ ((flat f ys.length esz).take (n * esz)) (by rw [List.length_take, flat_length]; omega) fun j u hu => ?_
        rw [List.getElem?_take] at hu
        split at hu
        · obtain ⟨c1, c2⟩ := flat_some f hu
          obtain ⟨d1, d2⟩ := div_lt c1
          obtain ⟨b, o, e1, _, e3, _⟩ := q6 _ _ d1 d2
          cases e1
          rw [add_lit0, hw, c2]
          rw [div_get c1] at e3
          exact e3
        · cases hu
  · rename_i id off e n c
    split at h
    · rename_i cs hcs
      obtain ⟨rfl, hlen, hq⟩ := h
      cases hr with
      | sb _ _ _ _ _ b o hb hn hm ho =>
        obtain ⟨b', cur, ty, a1, a2, a3, a4, a5, a6⟩ := hS.cells id cs hcs
        rw [hb] at a1
        cases a1
        refine ⟨_, _, (cur.toList.drop off).take (n * e), hq, by simp [Builtin.lenOf], (RelC.box a3 a4 a5 off (n * e)).strip, by simp; omega, fun w' hw q hq => ?_⟩
        have hqn : q * e ≤ n * e := Nat.mul_le_mul_right _ hq
        refine run_firstCells_some w' e q ⟨b, o, none⟩ _ _ _ (by simp; omega) fun j u hu => ?_
        rw [List.getElem?_take] at hu
        split at hu
        · rename_i hj
          rw [List.getElem?_take] at hu
          split at hu
          · rename_i hjn
            have hc0 : 0 < c := by
              rcases Nat.eq_zero_or_pos c with h | h
              · subst h
                have : n = 0 := by omega
                subst this
                simp at hjn
              · exact h
            have := ho hc0
            subst this
            rw [List.getElem?_drop, Array.getElem?_toList] at hu
            rw [add_lit0, hw, cell_of_row w b (o + j) cur ty (0, 0) a2]
            exact hu
          · cases hu
        · cases hu
    · exact h.elim
  · exact h.elim
/-- A store of cells into a box. -/
theorem store_box {k : Nat → Tk} {s : Nat → Option Blk} (hS : InvS w E s k) {id b : Nat} {cs : List A} (hs : s id = some (.cells cs)) (hb : E.μ id = some b) {off : Nat} {ds : List A} {us : List Value} (hr : RelC w E k ds us) (hfit : off + ds.length ≤ cs.length) :
    ∃ w', (storeCells ⟨b, off, none⟩ us).run P w = .ok () w' ∧ Reach w E s k w' E (upd s id (some (.cells (splice cs off ds)))) k := by
  have e : ∀ j, us.toArray.getD j Go.undef = us.getD j Go.undef := fun j => by simp [Array.getD_eq_getD_getElem?, List.getD_eq_getElem?_getD]
  have := hS.store (P := P) hs hb off ds us.toArray (by simpa using hr.len) hfit (fun j hj => by rw [e]; exact hr.one j hj) (fun j x hx => by rw [e]; exact hr.rel j x hx)
  simpa using this
/-- A new box of cells. -/
theorem new_box {k : Nat → Tk} {s : Nat → Option Blk} (hS : InvS w E s k) {id : Nat} (hμ : E.μ id = none) (ty : TypeId) {ds : List A} {us : List Value} (hr : RelC w E k ds us) :
    Reach w E s k (w.alloc (.cells us.toArray ty)) { E with μ := upd E.μ id (some w.heap.size) } (upd s id (some (.cells ds))) k := by
  have e : ∀ j, us.toArray.getD j Go.undef = us.getD j Go.undef := fun j => by simp [Array.getD_eq_getD_getElem?, List.getD_eq_getElem?_getD]
  exact hS.box hμ us.toArray ty ds (by simpa using hr.len) (fun j hj => by rw [e]; exact hr.one j hj) (fun j x hx => by rw [e]; exact hr.rel j x hx)
theorem zeroCells_one {z : Value} (h : ∀ v ∈ z.cells.toList, v.oneCell' = true) (n : Nat) : ∀ v ∈ (Builtin.zeroCells z.cells n).toList, v.oneCell' = true := by
  intro v hv
  simp only [Builtin.zeroCells, Array.toList_map, List.mem_map] at hv
  obtain ⟨i, hi, rfl⟩ := hv
  have h0 : 0 < z.cells.size := by
    rcases Nat.eq_zero_or_pos z.cells.size with h0 | h0
    · rw [h0] at hi; simp at hi
    · exact h0
  have hlt := Nat.mod_lt i h0
  rw [getElem!_pos z.cells (i % z.cells.size) hlt]
  exact h _ (Array.getElem_mem_toList hlt)
theorem flatten_getG {α : Type} (m : Nat) : ∀ (cs : List (List α)) (i j : Nat) (c : List α), (∀ c ∈ cs, c.length = m) → cs[i]? = some c → j < m → cs.flatten[i * m + j]? = c[j]?
  | [], i, j, c, _, h, _ => by simp at h
  | d :: cs, 0, j, c, hm, h, hj => by
    simp at h; subst h
    have hd := hm d (by simp)
    simp only [Nat.zero_mul, Nat.zero_add, List.flatten_cons]
    rw [List.getElem?_append_left (by omega)]
  | d :: cs, i + 1, j, c, hm, h, hj => by
    have hd := hm d (by simp)
    simp only [List.flatten_cons]
    rw [List.getElem?_append_right (by rw [Nat.add_mul]; omega), hd, show (i + 1) * m + j - m = i * m + j from by rw [Nat.add_mul]; omega]
    exact flatten_getG m cs i j c (fun c hc => hm c (by simp [hc])) (by simpa using h) hj
theorem zeroCells_list (z : Array Value) : ∀ n : Nat, (Builtin.zeroCells z n).toList = (List.replicate n z.toList).flatten := by
  intro n
  apply List.ext_getElem?
  intro p
  have hm : ∀ c ∈ List.replicate n z.toList, c.length = z.size := fun c hc => by rw [(List.mem_replicate.1 hc).2]; simp
  by_cases hp : p < n * z.size
  · obtain ⟨a1, a2⟩ := div_lt hp
    have hg := flatten_getG z.size (List.replicate n z.toList) (p / z.size) (p % z.size) z.toList hm (by rw [List.getElem?_replicate, if_pos a1]) a2
    rw [div_get hp] at hg
    rw [hg, Array.getElem?_toList, Array.getElem?_toList]
    have hsz : p < (Builtin.zeroCells z n).size := by simpa [Builtin.zeroCells] using hp
    rw [Array.getElem?_eq_getElem hsz, Array.getElem?_eq_getElem a2]
    simp [Builtin.zeroCells, a2]
  · have h1 : (Builtin.zeroCells z n).toList.length = n * z.size := by simp [Builtin.zeroCells]
    have h2 : (List.replicate n z.toList).flatten.length = n * z.size := by simp
    rw [List.getElem?_eq_none (by omega), List.getElem?_eq_none (by omega)]
end
end Go.Pv
