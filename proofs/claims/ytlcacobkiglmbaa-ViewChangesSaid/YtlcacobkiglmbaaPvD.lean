/- append, and a literal slice. -/
import Derived.Test.YtlcacobkiglmbaaPvC
namespace Go.Pv
open Go

def flat (f : Nat → Nat → Value) (n esz : Nat) : List Value := (List.range (n * esz)).map fun p => f (p / esz) (p % esz)
theorem flat_length (f : Nat → Nat → Value) (n esz : Nat) : (flat f n esz).length = n * esz := by simp [flat]
theorem idx_lt {i j n esz : Nat} (hi : i < n) (hj : j < esz) : i * esz + j < n * esz := by
  have : (i + 1) * esz ≤ n * esz := Nat.mul_le_mul_right _ hi
  rw [Nat.add_mul] at this
  omega
theorem idx_div {i j esz : Nat} (hj : j < esz) : (i * esz + j) / esz = i := by
  rw [Nat.mul_comm, Nat.mul_add_div (by omega), Nat.div_eq_of_lt hj, Nat.add_zero]
theorem idx_mod {i j esz : Nat} (hj : j < esz) : (i * esz + j) % esz = j := by
  rw [Nat.mul_comm, Nat.mul_add_mod, Nat.mod_eq_of_lt hj]
theorem flat_get (f : Nat → Nat → Value) {n esz i j : Nat} (hi : i < n) (hj : j < esz) : (flat f n esz)[i * esz + j]? = some (f i j) := by
  have := idx_lt hi hj
  simp [flat, this, idx_div hj, idx_mod hj]
theorem flat_some (f : Nat → Nat → Value) {n esz p : Nat} {v : Value} (h : (flat f n esz)[p]? = some v) : p < n * esz ∧ v = f (p / esz) (p % esz) := by
  have hp : p < n * esz := by
    have := (List.getElem?_eq_some_iff.1 h).1
    rwa [flat_length] at this
  refine ⟨hp, ?_⟩
  simp [flat, hp] at h
  exact h.symm
theorem div_lt {p n esz : Nat} (h : p < n * esz) : p / esz < n ∧ p % esz < esz := by
  have he : 0 < esz := by
    rcases Nat.eq_zero_or_pos esz with e | e
    · subst e; simp at h
    · exact e
  exact ⟨(Nat.div_lt_iff_lt_mul he).2 h, Nat.mod_lt _ he⟩
theorem add_lit0 (b o n : Nat) : (⟨b, o, none⟩ : Addr).add n = ⟨b, o + n, none⟩ := by
  unfold Addr.add
  split
  · rename_i h; subst h; rfl
  · rfl

/-- A slice that is read: its cells in a row. -/
theorem flat_cells {w : World} {E : Env} {esz : Nat} {n : Nat} {ad : Option Addr} {f : Nat → Nat → Value}
    (ha : ∀ i j, i < n → j < esz → ∃ b o, ad = some ⟨b, o, none⟩ ∧ E.F b (o + (i * esz + j)) ∧ w.cell? ⟨b, o + (i * esz + j), none⟩ = some (f i j) ∧ (f i j).oneCell' = true) :
    (∀ (a : Addr), ad = some a → ∀ (p : Nat) (v : Value), (flat f n esz)[p]? = some v → w.cell? (a.add p) = some v) ∧ (∀ v ∈ flat f n esz, v.oneCell' = true) := by
  constructor
  · intro a hadd p v hv
    obtain ⟨hp, rfl⟩ := flat_some f hv
    obtain ⟨h1, h2⟩ := div_lt hp
    obtain ⟨b, o, e1, e2, e3, e4⟩ := ha _ _ h1 h2
    rw [hadd] at e1
    cases e1
    rw [add_lit0]
    have : p / esz * esz + p % esz = p := by rw [Nat.mul_comm]; exact Nat.div_add_mod p esz
    rwa [this] at e3
  · intro v hv
    obtain ⟨p, hp, rfl⟩ := List.getElem_of_mem hv
    obtain ⟨hp', e⟩ := flat_some f (List.getElem?_eq_getElem hp)
    obtain ⟨h1, h2⟩ := div_lt hp'
    obtain ⟨b, o, e1, e2, e3, e4⟩ := ha _ _ h1 h2
    rw [e]
    exact e4

/-- Whose row may grow. -/
def tokLive (k : Nat → Tk) (e : Nat) : Tok → Prop
  | .no => False
  | .nil | .full => True
  | .own g e' => e' = e ∧ k g = .live
def killT (k : Nat → Tk) : Tok → Nat → Tk
  | .own g _ => upd k g .dead
  | _ => k

theorem run_append_zero {P : Program} (w : World) (T ty e : TypeId) (i : TypeInfo) (ht : P.underlying T = some (.slice e)) (hi : P.info? e = some i) (ad : Option Addr) (n c : Nat) (hc : n ≤ c) (ad' : Option Addr) (c' : Nat) :
    (Builtin.append_ #[T, T] ty #[.slice ad n c, .slice ad' 0 c']).run P w = .ok (.slice ad n c) w := by
  cases ad <;> cases ad' <;> simp [Builtin.append_, run_underlying ht, sizeOf, typeInfo, hi, Builtin.lenOf, Builtin.firstCells, loadCells, loadCellsFrom, hc, storeCells]

/-- The new slice that an append makes. -/
theorem app_rel {w' : World} {E' : Env} {esz : Nat} {xs ys : List (List A)} {fx fy : Nat → Nat → Value} {b c : Nat} {arr : Array Value} {e : Nat} {g : Nat}
    (hl : ∀ (i : Nat) (cs : List A), (xs ++ ys)[i]? = some cs → cs.length = esz)
    (hh : w'.heap[b]? = some (.cells arr e (0, 0))) (hc : xs.length + ys.length ≤ c) (hm : c ≤ maxLen)
    (hF : ∀ o, o < (xs.length + ys.length) * esz → E'.F b o)
    (hx : ∀ i j, i < xs.length → j < esz → arr[i * esz + j]? = some (fx i j) ∧ (fx i j).oneCell' = true)
    (hy : ∀ i j, i < ys.length → j < esz → arr[(xs.length + i) * esz + j]? = some (fy i j) ∧ (fy i j).oneCell' = true)
    (hrx : ∀ (i : Nat) (cs : List A) (j : Nat) (x : A), xs[i]? = some cs → cs[j]? = some x → Rel w' E' x (fx i j))
    (hry : ∀ (i : Nat) (cs : List A) (j : Nat) (x : A), ys[i]? = some cs → cs[j]? = some x → Rel w' E' x (fy i j)) :
    Rel w' E' (.sl esz (xs ++ ys) (.own g e)) (.slice (some ⟨b, 0, none⟩) (xs.length + ys.length) c) := by
  have hlen : (xs ++ ys).length = xs.length + ys.length := List.length_append
  rw [← hlen]
  refine .sl esz (xs ++ ys) (.own g e) (some ⟨b, 0, none⟩) c (fun i j => if i < xs.length then fx i j else fy (i - xs.length) j) (by omega) hm (fun h => by cases h) (fun h => by cases h) hl ?_ ?_
  · intro i j hi hj
    refine ⟨b, 0, rfl, ?_, ?_⟩
    · rw [Nat.zero_add]
      exact hF _ (idx_lt (by omega) hj)
    · rw [Nat.zero_add, cell_of_row w' b _ arr e (0, 0) hh]
      by_cases h : i < xs.length
      · simp only [h, if_true]
        exact hx i j h hj
      · simp only [h, if_false]
        have := hy (i - xs.length) j (by omega) hj
        rwa [show xs.length + (i - xs.length) = i from by omega] at this
  · intro i cs j x h1 h2
    by_cases h : i < xs.length
    · simp only [h, if_true]
      rw [List.getElem?_append_left h] at h1
      exact hrx i cs j x h1 h2
    · simp only [h, if_false]
      rw [List.getElem?_append_right (by omega)] at h1
      exact hry _ cs j x h1 h2

theorem InvS.append {w : World} {E : Env} {s : Nat → Option Blk} {k : Nat → Tk} (h : InvS w E s k) {P : Program} {T ty e esz bytes : Nat} {i : TypeInfo} {z : Value}
    (ht : P.underlying T = some (.slice e)) (hi : P.info? e = some i) (hz : i.zero = some z) (hsize : i.size = esz) (hby : i.bytes = bytes) (hzs : z.cells.size = esz) (hpos : 0 < esz)
    {xs ys : List (List A)} {t t2 : Tok} {v x : Value} (hv : RelP w E k (.sl esz xs t) v) (hx : Rel w E (.sl esz ys t2) x) (hlive : tokLive k e t)
    (hlen : (xs.length + ys.length) * bytes ≤ 140737488355328) (h63 : xs.length + ys.length ≤ maxLen) :
    ∃ v' w', (Builtin.append_ #[T, T] ty #[v, x]).run P w = .ok v' w' ∧ (ys = [] → v' = v ∧ w' = w) ∧
      (ys ≠ [] → ∀ g', k g' = .unused → ∃ E', Reach w E s k w' E' s (upd (killT k t) g' .live) ∧ RelP w' E' (upd (killT k t) g' .live) (.sl esz (xs ++ ys) (.own g' e)) v') := by
  subst hsize
  subst hby
  obtain ⟨hvr, hvt⟩ := hv
  have hvr0 := hvr
  cases hvr with
  | sl _ _ _ ad c fx hc hm hn hfull hlx hax hrx =>
  cases hx with
  | sl _ _ _ ad' c' fy hc' hm' hn' hfull' hly hay hry =>
  by_cases hys : ys = []
  · subst hys
    refine ⟨_, w, run_append_zero w T ty e i ht hi ad xs.length c hc ad' c', fun _ => ⟨rfl, rfl⟩, fun h => absurd rfl h⟩
  · have hm0 : 0 < ys.length := List.length_pos_iff.2 hys
    obtain ⟨b', o', hb', -⟩ := hay 0 0 hm0 hpos
    subst hb'
    obtain ⟨hcy, hoy⟩ := flat_cells hay
    have hcy := hcy _ rfl
    have hfl : (flat fy ys.length i.size).length = ys.length * i.size := flat_length ..
    have hlxy : ∀ (j : Nat) (cs : List A), (xs ++ ys)[j]? = some cs → cs.length = i.size := by
      intro j cs hj
      by_cases hjx : j < xs.length
      · rw [List.getElem?_append_left hjx] at hj; exact hlx j cs hj
      · rw [List.getElem?_append_right (by omega)] at hj; exact hly _ cs hj
    have hone' : ∀ a j, a < xs.length → j < i.size → (fx a j).oneCell' = true := fun a j h1 h2 => by obtain ⟨_, _, _, _, _, h3⟩ := hax a j h1 h2; exact h3
    have honey : ∀ a j, a < ys.length → j < i.size → (fy a j).oneCell' = true := fun a j h1 h2 => by obtain ⟨_, _, _, _, _, h3⟩ := hay a j h1 h2; exact h3
    have h63i : ((xs.length + ys.length : Nat) : Int) ≤ 9223372036854775807 := by simp only [maxLen] at h63; omega
    -- the arm that grows: a new block, whatever was there
    have grows : ∀ (w1 : World) (arr : Array Value) (cap : Nat), w1 = w.drew.alloc (.cells arr e) → arr = (flat fx xs.length i.size).toArray ++ (flat fy ys.length i.size).toArray ++ Builtin.zeroCells z.cells (cap - (xs.length + ys.length)) →
        xs.length + ys.length ≤ cap → cap ≤ maxLen → ∀ (k0 : Nat → Tk), Reach w E s k w E s k0 → ∀ g', k0 g' = .unused →
        ∃ E', Reach w E s k w1 E' s (upd k0 g' .live) ∧ RelP w1 E' (upd k0 g' .live) (.sl i.size (xs ++ ys) (.own g' e)) (.slice (some ⟨w.heap.size, 0, none⟩) (xs.length + ys.length) cap) := by
      rintro w1 arr cap rfl harr hcap hcm k0 hk0 g' hg'
      have hsz : arr.size = cap * i.size := by
        rw [harr]
        simp only [Array.size_append, List.size_toArray, size_zeroCells, hzs, flat_length, ← Nat.add_mul]
        congr 1
        omega
      have hdrew := hk0.S.agree (Agree.drew w)
      have hrow := hdrew.S.newrow arr e ((xs.length + ys.length) * i.size) (by rw [hsz]; exact Nat.mul_le_mul_right _ hcap)
      have hheap : (w.drew.alloc (.cells arr e)).heap[w.heap.size]? = some (.cells arr e (0, 0)) := heap_alloc_new w.drew _
      have htok := hrow.S.token g' hg' ⟨w.heap.size, xs.length + ys.length, cap, i.size, e⟩ arr w (Nat.le_refl _) hheap hsz hcap hcm
        (fun o ho => by
          rcases ho with ho | ⟨_, ho⟩
          · exact absurd (hk0.S.prot_lt ho) (Nat.lt_irrefl _)
          · exact ho)
        (fun hmut => absurd (hk0.S.mut_lt (b := w.heap.size) hmut) (Nat.lt_irrefl _))
      have r3 := (hk0.trans hdrew).trans hrow
      refine ⟨_, ⟨htok.1, r3.ext.trans htok.2.1, r3.agree, fun b hb => (htok.2.2 b hb).elim (r3.base b) .inr, r3.prot⟩, ?_, ?_⟩
      · have hext := r3.ext.trans htok.2.1
        refine app_rel hlxy hheap hcap hcm (fun o ho => .inr ⟨rfl, ho⟩) (fun a j h1 h2 => ⟨?_, hone' a j h1 h2⟩) (fun a j h1 h2 => ⟨?_, honey a j h1 h2⟩)
          (fun a cs j x h1 h2 => hext.rel (hrx a cs j x h1 h2)) (fun a cs j x h1 h2 => hext.rel (hry a cs j x h1 h2))
        · have hlt := idx_lt h1 h2
          rw [harr, Array.append_assoc, Array.getElem?_append_left (by simpa [flat_length] using hlt), List.getElem?_toArray]
          exact flat_get fx h1 h2
        · have hlt := idx_lt h1 h2
          rw [harr, Array.getElem?_append_left (by simp only [Array.size_append, List.size_toArray, flat_length, Nat.add_mul]; omega),
            Array.getElem?_append_right (by simp only [List.size_toArray, flat_length, Nat.add_mul]; omega), List.getElem?_toArray]
          simp only [List.size_toArray, flat_length]
          rw [show (xs.length + a) * i.size + j - xs.length * i.size = a * i.size + j from by rw [Nat.add_mul]; omega]
          exact flat_get fy h1 h2
      · intro esz' xs' g1 e1 heq
        injection heq with q1 q2 q3
        injection q3 with q4 q5
        subst q1 q2 q4 q5
        refine ⟨by simp [upd], fun _ => ⟨⟨w.heap.size, xs.length + ys.length, cap, i.size, e⟩, by simp [Env.tok, upd], by simp, rfl, rfl, by simp⟩⟩
    match t, hlive, hn, hfull, hvt with
    | .no, hlive, _, _, _ => exact hlive.elim
    | .nil, _, hn, _, _ =>
      obtain ⟨rfl, rfl⟩ := hn rfl
      have hx0 : xs.length = 0 := by omega
      have hrun := run_append_nil (P := P) w T ty e i z ht hi hz ⟨b', o', none⟩ ys.length c' (flat fy ys.length i.size) hfl hcy hm0 (by rw [hx0] at h63i; simpa using h63i) (by rw [hx0] at hlen; simp at hlen; omega)
      obtain rfl : xs = [] := List.eq_nil_of_length_eq_zero hx0
      refine ⟨_, _, hrun, fun h => absurd h hys, fun _ g' hg' => ?_⟩
      have := grows _ _ (grownCap w ys.length 0 e) rfl rfl (by simpa using grownCap_ge w ys.length 0 e) (grownCap_le_maxLen w ys.length 0 e (by simpa using h63)) k (Reach.refl h) g' hg'
      simpa [flat, killT] using this
    | .full, _, _, hfull, _ =>
      obtain rfl := hfull rfl
      cases ad with
      | none =>
        have hx0 : xs.length = 0 := by
          rcases Nat.eq_zero_or_pos xs.length with h0 | h0
          · exact h0
          · obtain ⟨_, _, q, _⟩ := hax 0 0 h0 hpos
            cases q
        obtain rfl : xs = [] := List.eq_nil_of_length_eq_zero hx0
        have hrun := run_append_nil (P := P) w T ty e i z ht hi hz ⟨b', o', none⟩ ys.length c' (flat fy ys.length i.size) hfl hcy hm0 (by simpa using h63i) (by simp at hlen; omega)
        refine ⟨_, _, hrun, fun h => absurd h hys, fun _ g' hg' => ?_⟩
        have := grows _ _ (grownCap w ys.length 0 e) rfl rfl (by simpa using grownCap_ge w ys.length 0 e) (grownCap_le_maxLen w ys.length 0 e (by simpa using h63)) k (Reach.refl h) g' hg'
        simpa [flat, killT] using this
      | some a =>
        have hrun := run_append_grow (P := P) w T ty e i z ht hi hz a xs.length xs.length (flat fx xs.length i.size) (flat_length ..) ((flat_cells hax).1 a rfl) ⟨b', o', none⟩ ys.length c' (flat fy ys.length i.size) hfl hcy (by omega) h63i
          (growslice_fits (by omega) hlen)
        refine ⟨_, _, hrun, fun h => absurd h hys, fun _ g' hg' => ?_⟩
        exact grows _ _ (grownCap w (xs.length + ys.length) xs.length e) rfl rfl (grownCap_ge w _ _ e) (grownCap_le_maxLen w _ _ e h63) k (Reach.refl h) g' hg'
    | .own g e', hlive, _, _, hvt =>
      obtain ⟨rfl, hg⟩ := hlive
      obtain ⟨hgu, hgl⟩ := hvt _ _ _ _ rfl
      obtain ⟨r, hr1, hr2, hr3, hr4, hr5⟩ := hgl hg
      injection hr5 with q1 _ q2
      subst q1 q2
      obtain ⟨r', cur, c1, c2, c3, c4, c5, c6, c7⟩ := h.rows g hg
      rw [hr1] at c1
      cases c1
      rw [hr4] at c2
      by_cases hroom : xs.length + ys.length ≤ r.c
      · have hfit : xs.length * i.size + (flat fy ys.length i.size).length ≤ cur.size := by
          rw [hfl, ← Nat.add_mul, c3, hr3]
          exact Nat.mul_le_mul_right _ hroom
        have hrun := run_append_room (P := P) w T ty e' i ht hi r.b xs.length r.c cur c2 ⟨b', o', none⟩ ys.length c' (flat fy ys.length i.size) hfl hcy hoy hroom hfit
        refine ⟨_, _, hrun, fun h => absurd h hys, fun _ g' hg' => ?_⟩
        generalize hnew : (cur.toList.take (xs.length * i.size) ++ flat fy ys.length i.size ++ cur.toList.drop (xs.length * i.size + (flat fy ys.length i.size).length)).toArray = new
        have hnsz : new.size = cur.size := by rw [← hnew]; simp; omega
        have hnget : ∀ o, o < xs.length * i.size → new[o]? = cur[o]? := fun o ho => by
          rw [← hnew, List.getElem?_toArray, List.append_assoc, List.getElem?_append_left (by simp; omega), List.getElem?_take, if_pos ho, Array.getElem?_toList]
        have hnget2 : ∀ o, o < ys.length * i.size → new[xs.length * i.size + o]? = (flat fy ys.length i.size)[o]? := fun o ho => by
          have htl : (cur.toList.take (xs.length * i.size)).length = xs.length * i.size := by simp; omega
          rw [← hnew, List.getElem?_toArray, List.append_assoc, List.getElem?_append_right (by omega), htl, List.getElem?_append_left (by rw [hfl]; omega)]
          congr 1
          omega
        have hreach := h.inplace g g' hg hg' r hr1 ys.length cur new (by rw [hr4]; exact c2) hnsz (by rw [hr2]; exact hroom) (by rw [hr2, hr3]; exact hnget)
        have hheap : (w.setRow r.b new).heap[r.b]? = some (.cells new e' (0, 0)) := setRow_heap w r.b cur new e' (0, 0) c2
        refine ⟨_, hreach, ?_, ?_⟩
        · refine app_rel hlxy hheap hroom hm (fun o ho => .inr ⟨rfl, by rw [hr2, hr3]; exact ho⟩) (fun a j h1 h2 => ⟨?_, hone' a j h1 h2⟩) (fun a j h1 h2 => ⟨?_, honey a j h1 h2⟩)
            (fun a cs j x h1 h2 => hreach.ext.rel (hrx a cs j x h1 h2)) (fun a cs j x h1 h2 => hreach.ext.rel (hry a cs j x h1 h2))
          · rw [hnget _ (idx_lt h1 h2)]
            obtain ⟨b1, o1, d1, d2, d3, d4⟩ := hax a j h1 h2
            cases d1
            rw [Nat.zero_add, cell_of_row w r.b _ cur e' (0, 0) c2] at d3
            exact d3
          · rw [show (xs.length + a) * i.size + j = xs.length * i.size + (a * i.size + j) from by rw [Nat.add_mul]; omega, hnget2 _ (idx_lt h1 h2)]
            exact flat_get fy h1 h2
        · intro esz' xs' g1 e1 heq
          injection heq with q1 q2 q3
          injection q3 with q4 q5
          subst q1 q2 q4 q5
          exact ⟨by simp [upd], fun _ => ⟨{ r with n := r.n + ys.length }, by simp [Env.more, upd], by simp [hr2], hr3, hr4, by simp⟩⟩
      · have hrun := run_append_grow (P := P) w T ty e' i z ht hi hz ⟨r.b, 0, none⟩ xs.length r.c (flat fx xs.length i.size) (flat_length ..) ((flat_cells hax).1 _ rfl) ⟨b', o', none⟩ ys.length c' (flat fy ys.length i.size) hfl hcy (by omega) h63i
          (growslice_fits (by omega) hlen)
        refine ⟨_, _, hrun, fun h => absurd h hys, fun _ g' hg' => ?_⟩
        have hgg : g' ≠ g := fun e => by subst e; rw [hg] at hg'; cases hg'
        exact grows _ _ (grownCap w (xs.length + ys.length) r.c e') rfl rfl (grownCap_ge w _ _ e') (grownCap_le_maxLen w _ _ e' h63) _ (h.kill g hgu) g' (by rw [upd_other _ _ _ _ hgg]; exact hg')

end Go.Pv
