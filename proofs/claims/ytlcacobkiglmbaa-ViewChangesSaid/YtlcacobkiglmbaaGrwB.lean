/- Boxes that grow by append; a range over a map. -/
import Derived.Test.YtlcacobkiglmbaaSrtB
set_option linter.unusedVariables false
set_option linter.unusedSimpArgs false
set_option maxRecDepth 4000
set_option maxHeartbeats 2000000
namespace Go.Pv
open Go

/-- A slice that the call grows: nothing yet, or a box of its own. -/
def GrowB (base : Hp) (esz : Nat) (hp : Hp) (v : A) (xs : List (List A)) : Prop := SExt base hp ∧ (∀ x ∈ xs, x.length = esz) ∧ ((xs = [] ∧ v = .sl esz [] .nil) ∨
  ∃ id c cs, v = .sb id 0 esz xs.length c ∧ base id = none ∧ hp id = some (.cells cs) ∧ 0 < xs.length ∧ xs.length ≤ c ∧ c ≤ maxLen ∧ cs.length = c * esz ∧ cs.take (xs.length * esz) = flatS xs)
theorem GrowB.strip {base hp : Hp} {esz : Nat} {v : A} {xs : List (List A)} (h : GrowB base esz hp v xs) : v.strip = v := by
  rcases h.2.2 with ⟨_, rfl⟩ | ⟨id, c, cs, rfl, _⟩ <;> rfl
theorem flatS_app (xs ys : List (List A)) : flatS (xs ++ ys) = flatS xs ++ flatS ys := by simp [flatS]
theorem strip2 (x : A) : x.strip.strip = x.strip := by
  cases x with
  | sl e xs t => cases t <;> rfl
  | _ => rfl
theorem flatS_fix {xs : List (List A)} {cs : List A} {n : Nat} (h : cs.take n = flatS xs) : (cs.take n).map A.strip = flatS xs := by
  rw [h]
  unfold flatS
  rw [List.map_flatten, List.map_map]
  congr 1
  apply List.map_congr_left
  intro x _
  simp only [Function.comp, List.map_map]
  apply List.map_congr_left
  intro a _
  exact strip2 a
theorem grow_in {base : Hp} {esz e bytes : Nat} {v : A} {xs ys : List (List A)} {t2 : Tok} {st : St} {K : A → St → Prop} (hG : GrowB base esz st.s v xs) (hne : ys ≠ []) (hy : ∀ y ∈ ys, y.length = esz) (hlen : (xs.length + ys.length) * bytes ≤ 140737488355328)
    (h : ∀ hp' v', GrowB base esz hp' v' (xs ++ ys) → K v' ⟨st.t, hp', st.k⟩) : appBS esz e bytes v (.sl esz ys t2) st K := by
  obtain ⟨t, s, k⟩ := st
  obtain ⟨hs, hx, hG⟩ := hG
  dsimp only at hs hG h
  have hxy : ∀ x ∈ xs ++ ys, x.length = esz := fun x hm => (List.mem_append.1 hm).elim (hx x) (hy x)
  have hpos : 0 < ys.length := List.length_pos_iff.2 hne
  have hfy : (flatS ys).length = ys.length * esz := flatS_length hy
  have hfx : (flatS xs).length = xs.length * esz := flatS_length hx
  rcases hG with ⟨rfl, rfl⟩ | ⟨id, c, cs, rfl, hb, hc, h0, hn, hm, hl, ht⟩
  · refine ⟨.inl rfl, .inl rfl, .inl rfl, hlen, fun hy0 => absurd hy0 hne, fun _ id c hid hc hcm => h _ _ ⟨SExt.old hs (SExt.none hs hid) _, hxy, .inr ⟨id, c, _, by rw [List.length_append], SExt.none hs hid, upd_same _ _ _, by simpa using hpos, by simpa using hc, hcm, ?_, ?_⟩⟩⟩
    · simp only [List.nil_append, List.length_append, List.length_replicate, hfy, List.length_nil, Nat.zero_add]
      simp only [List.length_nil, Nat.zero_add] at hc
      rw [← Nat.add_mul]
      congr 1
      omega
    · simp only [List.nil_append]
      rw [← hfy, List.take_left']
      rfl
  · have h1 : (c * esz : Nat) = cs.length := hl.symm
    have hce : xs.length * esz ≤ c * esz := Nat.mul_le_mul_right _ hn
    show (match s id with
      | some (.cells cs) => esz = esz ∧ appC esz bytes id 0 xs.length c cs (.sl esz ys t2) ⟨t, s, k⟩ K
      | _ => False)
    rw [hc]
    refine ⟨rfl, by omega, hn, .inl rfl, hlen, fun hle => h _ _ ⟨SExt.old hs hb _, hxy, .inr ⟨id, c, _, ?_, hb, upd_same _ _ _, by simp; omega, by simpa using hle, hm, ?_, ?_⟩⟩, fun hgt id' c' hid' hc' hcm => h _ _ ⟨SExt.old hs (SExt.none hs hid') _, hxy, .inr ⟨id', c', _, ?_, SExt.none hs hid', upd_same _ _ _, by simp; omega, by simpa using hc', hcm, ?_, ?_⟩⟩⟩
    · rw [List.length_append]
    · have : xs.length * esz + ys.length * esz ≤ c * esz := by rw [← Nat.add_mul]; exact Nat.mul_le_mul_right _ hle
      rw [splice_length _ _ _ (by rw [hfy]; omega), hl]
    · have : xs.length * esz + ys.length * esz ≤ c * esz := by rw [← Nat.add_mul]; exact Nat.mul_le_mul_right _ hle
      unfold splice
      rw [Nat.zero_add, ht, flatS_app, List.length_append, Nat.add_mul]
      rw [show xs.length * esz + ys.length * esz = (flatS xs ++ flatS ys).length by rw [List.length_append, hfx, hfy]]
      exact List.take_left' rfl
    · rw [List.length_append]
    · simp only [List.drop_zero, List.length_append, List.length_map, List.length_take, hfy, List.length_replicate]
      rw [Nat.min_eq_left (by omega)]
      rw [← Nat.add_mul, ← Nat.add_mul]
      congr 1
      omega
    · rw [List.drop_zero, flatS_fix ht, flatS_app, List.length_append, Nat.add_mul]
      rw [show xs.length * esz + ys.length * esz = (flatS xs ++ flatS ys).length by rw [List.length_append, hfx, hfy]]
      exact List.take_left' rfl

theorem less2 {s st : Hp} (h : SExt s st) (id : Nat) : s id = none ∨ s id = st id := by
  by_cases e : s id = none
  · exact .inl e
  · exact .inr (h id e).symm
theorem OutR.of2 {s s' st : Hp} {k : Nat → Tk} {R : A → Hp → (Nat → Tk) → Prop} {r : A} {t : Nat → A} (h : R r s' k) (hs : ∀ id, s' id = none ∨ s' id = st id) : OutR s k R r ⟨t, st, k⟩ := ⟨r, s', k, h, .le (A.le_refl _), hs, .inl rfl⟩
theorem updS {s : Hp} {i : Nat} {x : Option Blk} (h : s i = x) : upd s i x = s := by
  funext j
  rw [upd_apply]
  split
  · rename_i e; subst e; exact h.symm
  · rfl

/-! ### A range over a map -/
def rngK (P : Program) (r : Rng) (b : PC) (Q : PX → St → Prop) : St → Prop := fun st1 => ∃ mid es, st1.t r.ml = .map mid ∧ st1.s mid = some (.map es) ∧ ∀ iid, st1.s iid = none → ∃ I : List (A × A) → St → Prop,
      (∃ st2, St.le ⟨upd (clobT r.d st1.t) r.it (.ptr iid 0), upd st1.s mid none, st1.k⟩ st2 ∧ I es st2) ∧ ∀ left st2, I left st2 → st2.t r.it = .ptr iid 0 ∧ (left = [] → Q .normal ⟨clobT r.d st2.t, st2.s, st2.k⟩) ∧
        ∀ (m : Nat) (a x : A), left[m]? = some (a, x) → pwp P b (fun e st' => match e with
          | .normal => ∃ st3, St.le st' st3 ∧ I (left.eraseIdx m) st3
          | .exit q => if q = r.j then ∃ st3, St.le st' st3 ∧ I (left.eraseIdx m) st3 else if q = r.i then Q .normal st' else Q (.exit q) st'
          | .ret => Q .ret st') ⟨upd (clobT r.d st2.t) r.ks a.strip, st2.s, st2.k⟩
theorem rng_in {P : Program} {r : Rng} {b : PC} {Q : PX → St → Prop} {st : St} (h : runs P r.pre (rngK P r b Q) st) : pwp P (.rng r b) Q st := h
/-- What a round must come to. -/
def rngN (r : Rng) (Q : PX → St → Prop) (I : List (A × A) → St → Prop) (left : List (A × A)) (m : Nat) : PX → St → Prop := fun e st' => match e with
  | .normal => ∃ st3, St.le st' st3 ∧ I (left.eraseIdx m) st3
  | .exit q => if q = r.j then ∃ st3, St.le st' st3 ∧ I (left.eraseIdx m) st3 else if q = r.i then Q .normal st' else Q (.exit q) st'
  | .ret => Q .ret st'
section
variable {α : Type}
def RI (L : α → List (Nat × A)) (S : α → Hp) (K : α → Nat → Tk) (F : List (A × A) → α → Prop) : List (A × A) → St → Prop := fun left st => ∃ a, st = ⟨tab (L a), S a, K a⟩ ∧ F left a
theorem clob_tab {d : List Nat} : ∀ {l : List (Nat × A)}, (l.all fun p => !d.contains p.1) = true → clobT d (tab l) = tab l := by
  intro l h
  funext q
  simp only [clobT]
  split
  · rename_i hq
    induction l with
    | nil => rfl
    | cons p l ih =>
      simp only [List.all_cons, Bool.and_eq_true] at h
      obtain ⟨i, x⟩ := p
      rw [tab_cons, if_neg]
      · exact ih h.2
      · rintro rfl
        rw [hq] at h
        exact absurd h.1 (by simp)
  · rfl
theorem rngK_in {P : Program} {r : Rng} {b : PC} {Q : PX → St → Prop} {t : Nat → A} {s : Hp} {k : Nat → Tk} (mid : Nat) (es : List (A × A)) (h1 : t r.ml = .map mid) (h2 : s mid = some (.map es))
    (h : ∀ iid, s iid = none → ∃ (L : α → List (Nat × A)) (S : α → Hp) (K : α → Nat → Tk) (F : List (A × A) → α → Prop) (a0 : α), SExt (S a0) (upd s mid none) ∧ K a0 = k ∧ TabLe (upd (clobT r.d t) r.it (.ptr iid 0)) (L a0) ∧ F es a0 ∧
      ∀ left a, F left a → ((L a).all fun p => !r.d.contains p.1) = true ∧ tab (L a) r.it = .ptr iid 0 ∧ (left = [] → Q .normal ⟨tab (L a), S a, K a⟩) ∧
        ∀ (m : Nat) (x y : A), left[m]? = some (x, y) → pwp P b (rngN r Q (RI L S K F) left m) ⟨upd (tab (L a)) r.ks x.strip, S a, K a⟩) : rngK P r b Q ⟨t, s, k⟩ := by
  refine ⟨mid, es, h1, h2, fun iid hi => ?_⟩
  obtain ⟨L, S, K, F, a0, g1, g2, g3, g4, g5⟩ := h iid hi
  refine ⟨RI L S K F, ⟨_, ?_, a0, rfl, g4⟩, ?_⟩
  · rw [g2]
    exact St.le_tab _ g1 g3
  · rintro left _ ⟨a, rfl, hf⟩
    obtain ⟨q1, q2, q3, q4⟩ := g5 left a hf
    dsimp only
    rw [clob_tab q1]
    exact ⟨q2, q3, fun m x y hm => q4 m x y hm⟩
theorem next_R {L : α → List (Nat × A)} {S : α → Hp} {K : α → Nat → Tk} {F : List (A × A) → α → Prop} {r : Rng} {Q : PX → St → Prop} {left : List (A × A)} {m : Nat} {t : Nat → A} {s' : Hp} {k' : Nat → Tk} (a : α) (hs : SExt (S a) s') (hk : K a = k') (ht : TabLe t (L a)) (hf : F (left.eraseIdx m) a) :
    rngN r Q (RI L S K F) left m .normal ⟨t, s', k'⟩ := ⟨_, by rw [← hk]; exact St.le_tab _ hs ht, a, rfl, hf⟩
end
end Go.Pv
