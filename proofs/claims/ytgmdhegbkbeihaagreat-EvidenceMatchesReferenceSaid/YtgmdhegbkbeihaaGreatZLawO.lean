/- The nodes of the law's examples. -/
import Derived.Test.YtgmdhegbkbeihaaGreatZLawL
import Derived.Test.YtgmdhegbkbeihaaGreatZEvT
import Derived.Test.YtgmdhegbkbeihaaGreatZEvW
import Derived.Test.YtgmdhegbkbeihaaGreatZRefA
import Derived.Test.YtgmdhegbkbeihaaGreatZEvJ
import Derived.Test.YtgmdhegbkbeihaaGreatZPvW
set_option linter.unusedVariables false
set_option linter.unusedSimpArgs false
set_option maxRecDepth 4000
set_option maxHeartbeats 1000000
namespace Go.Pv
open Go

theorem A.le_sl {esz : Nat} {xs ys : List (List A)} {t : Tok} (hl : xs.length = ys.length) (h : ∀ (i : Nat) (c d : List A), xs[i]? = some c → ys[i]? = some d → A.lel c d) : A.le (.sl esz xs t) (.sl esz ys .no) := ⟨fun w E v hr => by
  cases hr with
  | sl _ _ _ ad c f h1 h2 h3 h4 h5 h6 h7 =>
    rw [hl]
    refine .sl esz ys .no ad c f (by omega) h2 (by simp) (by simp) ?_ (fun i j hi hj => h6 i j (by omega) hj) ?_
    · intro i d hd
      have hi : i < xs.length := by rw [hl]; exact (List.getElem?_eq_some_iff.1 hd).1
      have := (h i xs[i] d (List.getElem?_eq_getElem hi) hd).get.1
      rw [this]
      exact h5 i xs[i] (List.getElem?_eq_getElem hi)
    · intro i d j y hd hy
      have hi : i < xs.length := by rw [hl]; exact (List.getElem?_eq_some_iff.1 hd).1
      obtain ⟨x, hx, hxy⟩ := (h i xs[i] d (List.getElem?_eq_getElem hi) hd).get.2 j y hy
      exact hxy.rel _ _ _ (h7 i xs[i] j x (List.getElem?_eq_getElem hi) hx), by simp⟩
/-- Three rows of the call's own. -/
structure TT (k0 k : Nat → Tk) (a b c : Tok) : Prop where
  ext : KExt k0 k
  fa : a = .nil ∨ ∃ g, a = .own g 44 ∧ k g = .live ∧ k0 g = .unused
  fb : b = .nil ∨ ∃ g, b = .own g 44 ∧ k g = .live ∧ k0 g = .unused
  fc : c = .nil ∨ ∃ g, c = .own g 44 ∧ k g = .live ∧ k0 g = .unused
  ab : ∀ g, a = .own g 44 → b ≠ .own g 44
  bc : ∀ g, b = .own g 44 → c ≠ .own g 44
  ca : ∀ g, c = .own g 44 → a ≠ .own g 44
theorem TT.live {k0 k : Nat → Tk} {a b c : Tok} (h : TT k0 k a b c) : tokLive k 44 a := by
  rcases h.fa with h | ⟨g, h, h2, _⟩
  · rw [h]; trivial
  · rw [h]; exact ⟨rfl, h2⟩
theorem TT.app {k0 k : Nat → Tk} {a b c : Tok} (h : TT k0 k a b c) {g : Nat} (hg : k g = .unused) : TT k0 (upd (killT k a) g .live) (.own g 44) b c := by
  have hu : k0 g = .unused := h.ext.unused hg
  have keep : ∀ x : Tok, (∀ g, a = .own g 44 → x ≠ .own g 44) → (x = .nil ∨ ∃ g, x = .own g 44 ∧ k g = .live ∧ k0 g = .unused) → (x = .nil ∨ ∃ g', x = .own g' 44 ∧ upd (killT k a) g .live g' = .live ∧ k0 g' = .unused) ∧ ∀ g', x = .own g' 44 → g' ≠ g := by
    intro x hx hn
    rcases hn with rfl | ⟨g', rfl, h1, h2⟩
    · exact ⟨.inl rfl, by simp⟩
    · have hne : g' ≠ g := fun e => by subst e; rw [hg] at h1; cases h1
      refine ⟨.inr ⟨g', rfl, ?_, h2⟩, fun g2 e => by cases e; exact hne⟩
      rw [upd_other _ _ _ _ hne]
      rcases h.fa with ha | ⟨ga, ha, _, _⟩
      · rw [ha]; exact h1
      · rw [ha]
        simp only [killT]
        rw [upd_other _ _ _ _ (fun e => hx ga ha (by rw [e]))]
        exact h1
  obtain ⟨hb, hb2⟩ := keep b h.ab h.fb
  obtain ⟨hc, hc2⟩ := keep c (fun g hga hgc => h.ca g hgc hga) h.fc
  refine ⟨KExt.old ?_ hu _, .inr ⟨g, rfl, upd_same _ _ _, hu⟩, hb, hc, fun g' e e' => ?_, h.bc, fun g' e e' => ?_⟩
  · rcases h.fa with ha | ⟨ga, ha, _, hua⟩
    · rw [ha]; exact h.ext
    · rw [ha]; exact h.ext.old hua _
  · cases e; exact hb2 _ e' rfl
  · cases e'; exact hc2 _ e rfl
inductive A.lell : List (List A) → List (List A) → Prop where
  | nil : A.lell [] []
  | cons {c d : List A} {cs ds : List (List A)} : A.lel c d → A.lell cs ds → A.lell (c :: cs) (d :: ds)
theorem A.lell.get {cs ds : List (List A)} (h : A.lell cs ds) : cs.length = ds.length ∧ ∀ (i : Nat) (c d : List A), cs[i]? = some c → ds[i]? = some d → A.lel c d := by
  induction h with
  | nil => exact ⟨rfl, by simp⟩
  | cons hc _ ih =>
    refine ⟨by simp [ih.1], fun i c d h1 h2 => ?_⟩
    cases i with
    | zero => simp at h1 h2; subst h1 h2; exact hc
    | succ i => exact ih.2 i c d (by simpa using h1) (by simpa using h2)
theorem A.lell.le {cs ds : List (List A)} (h : A.lell cs ds) (esz : Nat) (t : Tok) : A.le (.sl esz cs t) (.sl esz ds .no) := A.le_sl h.get.1 h.get.2
theorem A.lell.app {cs ds es fs : List (List A)} (h : A.lell cs ds) (h' : A.lell es fs) : A.lell (cs ++ es) (ds ++ fs) := by
  induction h with
  | nil => exact h'
  | cons hc _ ih => exact .cons hc ih
end Go.Pv
set_option linter.unusedVariables false
set_option linter.unusedSimpArgs false
set_option maxRecDepth 4000
set_option maxHeartbeats 4000000
namespace Go.Pv
open Go

theorem chain_mem {α : Type} {ok : ByteArray → α → Bool} {key : α → ByteArray} : ∀ {l : List α} {a : ByteArray}, chain ok key a l = true → ∀ x ∈ l, ∃ b, ok b x = true
  | [], _, _, x, hx => by cases hx
  | y :: l, a, h, x, hx => by
    simp only [chain, Bool.and_eq_true] at h
    rcases List.mem_cons.1 hx with rfl | hx
    · exact ⟨a, h.1⟩
    · exact chain_mem h.2 x hx
end Go.Pv
set_option linter.unusedVariables false
set_option linter.unusedSimpArgs false
set_option maxRecDepth 4000
set_option maxHeartbeats 4000000
namespace Go.Pv
open Go

theorem bl_irrefl : ∀ x : List UInt8, Op.bytesLess x x = false
  | [] => rfl
  | a :: x => by
    have hl : decide (a < a) = false := decide_eq_false (UInt8.lt_irrefl a)
    unfold Op.bytesLess
    rw [hl, bl_irrefl x]
    simp
theorem bl_trans : ∀ x y z : List UInt8, Op.bytesLess x y = true → Op.bytesLess y z = true → Op.bytesLess x z = true
  | x, [], z, h, _ => by cases x <;> simp [Op.bytesLess] at h
  | x, b :: y, [], _, h => by simp [Op.bytesLess] at h
  | [], b :: y, c :: z, _, _ => rfl
  | a :: x, b :: y, c :: z, h1, h2 => by
    unfold Op.bytesLess at h1 h2 ⊢
    simp only [Bool.or_eq_true, Bool.and_eq_true, decide_eq_true_eq, beq_iff_eq] at h1 h2 ⊢
    rcases h1 with h1 | ⟨h1, h1'⟩
    · rcases h2 with h2 | ⟨h2, _⟩
      · exact .inl (UInt8.lt_trans h1 h2)
      · subst h2; exact .inl h1
    · subst h1
      rcases h2 with h2 | ⟨h2, h2'⟩
      · exact .inl h2
      · exact .inr ⟨h2, bl_trans x y z h1' h2'⟩
theorem le_false {a b : ByteArray} (h : leS b a = false) : ltS a b = true := by
  have := lt_total a b
  rw [h] at this
  simpa using this
theorem chain_lt : ∀ {l : List Obj} {a : ByteArray}, chain inMap Obj.id a l = true → (∀ o ∈ l, ltS a o.id = true) ∧ l.Pairwise fun o p => ltS o.id p.id = true
  | [], _, _ => ⟨fun o h => (by cases h), .nil⟩
  | x :: l, a, h => by
    simp only [chain, Bool.and_eq_true] at h
    obtain ⟨h1, h2⟩ := h
    obtain ⟨g1, g2⟩ := chain_lt h2
    unfold inMap at h1
    simp only [Bool.and_eq_true, Bool.not_eq_true'] at h1
    have hx := le_false h1.2
    refine ⟨fun o ho => ?_, List.pairwise_cons.2 ⟨g1, g2⟩⟩
    rcases List.mem_cons.1 ho with rfl | ho
    · exact hx
    · exact bl_trans _ _ _ hx (g1 o ho)
theorem map_ids {m : List Obj} (h : mapV m = true) : m.Pairwise fun o p => o.id ≠ p.id := by
  unfold mapV at h
  rw [Bool.and_eq_true] at h
  refine (chain_lt h.1).2.imp fun {o p} hl e => ?_
  rw [e] at hl
  unfold ltS at hl
  rw [bl_irrefl] at hl
  cases hl
theorem look_kind (r : ByteArray) : ∀ (l : List Obj) (M : List (ByteArray × Int)), (l.Pairwise fun o p => o.id ≠ p.id) → lookM r (kindM l M) = match l.find? (fun o => decide (o.id = r)) with
    | some o => some o.kind
    | none => lookM r M
  | [], M, _ => rfl
  | x :: l, M, h => by
    obtain ⟨h1, h2⟩ := List.pairwise_cons.1 h
    simp only [kindM]
    rw [look_kind r l _ h2, List.find?_cons]
    by_cases c : x.id = r
    · have hn : l.find? (fun o => decide (o.id = r)) = none := by
        rw [List.find?_eq_none]
        intro o ho
        have := h1 o ho
        rw [c] at this
        simp only [decide_eq_true_eq]
        exact fun e => this e.symm
      rw [hn, decide_eq_true c]
      dsimp only
      rw [lookM_set, if_pos c.symm]
    · rw [decide_eq_false c]
      dsimp only
      rw [lookM_set, if_neg (fun e => c e.symm)]
end Go.Pv
set_option linter.unusedVariables false
namespace Go.Pv
open Go
section
variable {α : Type}
def MI (L : α → List (Nat × A)) (S : α → Hp) (K : α → Nat → Tk) (F : α → Prop) (μ : α → Nat) : Nat → St → Prop := fun m st => ∃ a, m = μ a ∧ st = ⟨tab (L a), S a, K a⟩ ∧ F a
theorem loop_M {P : Program} {x : PC} {Q : PX → St → Prop} {t : Nat → A} {s : Hp} {k : Nat → Tk} (μ : α → Nat) (L : α → List (Nat × A)) (S : α → Hp) (K : α → Nat → Tk) (F : α → Prop) (a0 : α) (hs : SExt (S a0) s) (hk : K a0 = k) (ht : TabLe t (L a0)) (hf : F a0)
    (h : ∀ a, F a → pwp P x (nextQ (MI L S K F μ) (μ a) Q) ⟨tab (L a), S a, K a⟩) : pwp P (.loop x) Q ⟨t, s, k⟩ := by
  refine ⟨MI L S K F μ, ⟨_, μ a0, ?_, a0, rfl, rfl, hf⟩, ?_⟩
  · rw [hk]; exact St.le_tab _ hs ht
  · rintro _ _ ⟨a, rfl, rfl, hf⟩
    have := h a hf
    have e : nextQ (MI L S K F μ) (μ a) Q = fun e st' => match e with
      | .normal => ∃ st2 m', m' < μ a ∧ St.le st' st2 ∧ MI L S K F μ m' st2
      | e => Q e st' := by funext e st'; cases e <;> rfl
    rw [e] at this
    exact this
theorem next_M {L : α → List (Nat × A)} {S : α → Hp} {K : α → Nat → Tk} {F : α → Prop} {μ : α → Nat} {Q : PX → St → Prop} {n : Nat} {t : Nat → A} {s' : Hp} {k' : Nat → Tk} (a : α) (hlt : μ a < n) (hs : SExt (S a) s') (hk : K a = k') (ht : TabLe t (L a)) (hf : F a) :
    nextQ (MI L S K F μ) n Q .normal ⟨t, s', k'⟩ := ⟨_, _, hlt, by rw [← hk]; exact St.le_tab _ hs ht, a, rfl, rfl, hf⟩
end
end Go.Pv
