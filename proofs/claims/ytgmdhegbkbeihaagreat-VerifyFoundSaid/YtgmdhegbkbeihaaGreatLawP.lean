/- The law's examples: the lists. -/
import Derived.Test.YtgmdhegbkbeihaaGreatLawO
set_option linter.unusedVariables false
set_option linter.unusedSimpArgs false
set_option maxRecDepth 4000
set_option maxHeartbeats 1000000
namespace Go.Pv
open Go

noncomputable def pc6L : PC := (.seq (.seq (.reg [⟨(.some 14), .none, (.mv (.t 6))⟩, ⟨(.some 15), .none, (.mv (.t 1))⟩, ⟨(.some 16), .none, (.len false (.t 15))⟩, ⟨(.some 17), .none, (.bin .lss (.t 14) (.t 16))⟩] false .none) (.cond (.t 17) .skip (.exit 0))) (.seq (.block 1 (.seq (.reg [⟨(.some 20), .none, (.mv (.t 3))⟩, ⟨(.some 21), .none, (.mv (.t 1))⟩, ⟨(.some 22), .none, (.mv (.t 6))⟩, ⟨(.some 23), .none, (.idx 1 (.t 21) (.t 22))⟩, ⟨(.some 24), .none, (.load .none (.t 23))⟩, ⟨(.some 25), .none, (.build [(.int .i64 0), (.str ⟨#[]⟩), (.str ⟨#[]⟩), (.str ⟨#[]⟩), (.int .i64 0), (.int .i64 0), (.str ⟨#[]⟩), (.str ⟨#[]⟩), (.sl 1 [] .nil), (.str ⟨#[]⟩), (.int .i64 0), (.int .i64 0), (.int .i64 0), (.sl 1 [] .nil), (.sl 2 [] .nil)] [(0, (1, (.c (.int .i64 5)))), (1, (1, (.t 24)))])⟩, ⟨(.some 26), .none, (.lit 15 44 [(.int .i64 0), (.str ⟨#[]⟩), (.str ⟨#[]⟩), (.str ⟨#[]⟩), (.int .i64 0), (.int .i64 0), (.str ⟨#[]⟩), (.str ⟨#[]⟩), (.sl 1 [] .nil), (.str ⟨#[]⟩), (.int .i64 0), (.int .i64 0), (.int .i64 0), (.sl 1 [] .nil), (.sl 2 [] .nil)] 1 [(0, (.t 25))])⟩, ⟨(.some 27), .none, (.app 15 44 216 (.t 20) (.t 26))⟩, ⟨(.some 3), .none, (.mv (.t 27))⟩] false .none) (.seq (.reg [⟨(.some 28), .none, (.mv (.t 5))⟩, ⟨(.some 29), .none, (.mv (.t 1))⟩, ⟨(.some 30), .none, (.mv (.t 6))⟩, ⟨(.some 31), .none, (.idx 1 (.t 29) (.t 30))⟩, ⟨(.some 32), .none, (.load .none (.t 31))⟩, ⟨(.some 33), .none, (.build [(.int .i64 0), (.int .i64 0)] [(0, (1, (.c (.int .i64 3000))))])⟩, ⟨(.some 34), .none, (.build [(.int .i64 0), (.str ⟨#[]⟩), (.str ⟨#[]⟩), (.str ⟨#[]⟩), (.int .i64 0), (.int .i64 0), (.str ⟨#[]⟩), (.str ⟨#[]⟩), (.sl 1 [] .nil), (.str ⟨#[]⟩), (.int .i64 0), (.int .i64 0), (.int .i64 0), (.sl 1 [] .nil), (.sl 2 [] .nil)] [(0, (1, (.c (.int .i64 2)))), (1, (1, (.t 32))), (4, (2, (.t 33)))])⟩, ⟨(.some 35), .none, (.lit 15 44 [(.int .i64 0), (.str ⟨#[]⟩), (.str ⟨#[]⟩), (.str ⟨#[]⟩), (.int .i64 0), (.int .i64 0), (.str ⟨#[]⟩), (.str ⟨#[]⟩), (.sl 1 [] .nil), (.str ⟨#[]⟩), (.int .i64 0), (.int .i64 0), (.int .i64 0), (.sl 1 [] .nil), (.sl 2 [] .nil)] 1 [(0, (.t 34))])⟩, ⟨(.some 36), .none, (.app 15 44 216 (.t 28) (.t 35))⟩, ⟨(.some 5), .none, (.mv (.t 36))⟩] false .none) (.reg [⟨(.some 37), .none, (.mv (.t 4))⟩, ⟨(.some 38), .none, (.mv (.t 1))⟩, ⟨(.some 39), .none, (.mv (.t 6))⟩, ⟨(.some 40), .none, (.idx 1 (.t 38) (.t 39))⟩, ⟨(.some 41), .none, (.load .none (.t 40))⟩, ⟨(.some 42), .none, (.bin .add (.c (.str ⟨#[120]⟩)) (.t 41))⟩, ⟨(.some 43), .none, (.build [(.str ⟨#[]⟩), (.int .i64 0), (.int .i64 0), (.int .i64 0), (.sl 1 [] .nil), (.sl 2 [] .nil)] [(0, (1, (.t 42))), (1, (1, (.c (.int .i64 1))))])⟩, ⟨(.some 44), .none, (.build [(.int .i64 0), (.str ⟨#[]⟩), (.str ⟨#[]⟩), (.str ⟨#[]⟩), (.int .i64 0), (.int .i64 0), (.str ⟨#[]⟩), (.str ⟨#[]⟩), (.sl 1 [] .nil), (.str ⟨#[]⟩), (.int .i64 0), (.int .i64 0), (.int .i64 0), (.sl 1 [] .nil), (.sl 2 [] .nil)] [(0, (1, (.c (.int .i64 1)))), (9, (6, (.t 43)))])⟩, ⟨(.some 45), .none, (.lit 15 44 [(.int .i64 0), (.str ⟨#[]⟩), (.str ⟨#[]⟩), (.str ⟨#[]⟩), (.int .i64 0), (.int .i64 0), (.str ⟨#[]⟩), (.str ⟨#[]⟩), (.sl 1 [] .nil), (.str ⟨#[]⟩), (.int .i64 0), (.int .i64 0), (.int .i64 0), (.sl 1 [] .nil), (.sl 2 [] .nil)] 1 [(0, (.t 44))])⟩, ⟨(.some 46), .none, (.app 15 44 216 (.t 37) (.t 45))⟩, ⟨(.some 4), .none, (.mv (.t 46))⟩] false .none)))) (.reg [⟨(.some 18), .none, (.mv (.t 6))⟩, ⟨(.some 19), .none, (.bin .add (.t 18) (.c (.int .i64 1)))⟩, ⟨(.some 6), .none, (.mv (.t 19))⟩] false .none)))
/-- Three rows of the call's own. -/
structure TT (k0 k : Nat → Tk) (a b c : Tok) : Prop where
  ext : KExt k0 k
  fa : a = .nil ∨ ∃ g, a = .own g 44 ∧ k g = .live ∧ k0 g = .unused
  fb : b = .nil ∨ ∃ g, b = .own g 44 ∧ k g = .live ∧ k0 g = .unused
  fc : c = .nil ∨ ∃ g, c = .own g 44 ∧ k g = .live ∧ k0 g = .unused
  ab : ∀ g, a = .own g 44 → b ≠ .own g 44
  bc : ∀ g, b = .own g 44 → c ≠ .own g 44
  ca : ∀ g, c = .own g 44 → a ≠ .own g 44
theorem TT.rot {k0 k : Nat → Tk} {a b c : Tok} (h : TT k0 k a b c) : TT k0 k b c a := ⟨h.ext, h.fb, h.fc, h.fa, h.bc, h.ca, h.ab⟩
theorem TT.live {k0 k : Nat → Tk} {a b c : Tok} (h : TT k0 k a b c) : tokLive k 44 a := by
  rcases h.fa with h | ⟨g, h, h2, _⟩
  · rw [h]; trivial
  · rw [h]; exact ⟨rfl, h2⟩
theorem TT.app {k0 k : Nat → Tk} {a b c : Tok} (h : TT k0 k a b c) {g : Nat} (hg : k g = .unused) : TT k0 (upd (killT k a) g .live) (.own g 44) b c := by
  have hu : k0 g = .unused := h.ext.unused hg
  have keep : ∀ x : Tok, (∀ g, a = .own g 44 → x ≠ .own g 44) → (x = .nil ∨ ∃ g, x = .own g 44 ∧ k g = .live ∧ k0 g = .unused) → (x = .nil ∨ ∃ g', x = .own g' 44 ∧ upd (killT k a) g .live g' = .live ∧ k0 g' = .unused) ∧ ∀ g', x = .own g' 44 → g' ≠ g := by
    intro x hx hn
    rcases hn with rfl | ⟨g', rfl, h1, h2⟩
    · exact ⟨.inl rfl, by simp⟩
    · have hne : g' ≠ g := fun e => by subst e; rw [hg] at h1; cases h1
      refine ⟨.inr ⟨g', rfl, ?_, h2⟩, fun g2 e => by cases e; exact hne⟩
      rw [upd_other _ _ _ _ hne]
      rcases h.fa with ha | ⟨ga, ha, _, _⟩
      · rw [ha]; exact h1
      · rw [ha]
        simp only [killT]
        rw [upd_other _ _ _ _ (fun e => hx ga ha (by rw [e]))]
        exact h1
  obtain ⟨hb, hb2⟩ := keep b h.ab h.fb
  obtain ⟨hc, hc2⟩ := keep c (fun g hga hgc => h.ca g hgc hga) h.fc
  refine ⟨KExt.old ?_ hu _, .inr ⟨g, rfl, upd_same _ _ _, hu⟩, hb, hc, fun g' e e' => ?_, h.bc, fun g' e e' => ?_⟩
  · rcases h.fa with ha | ⟨ga, ha, _, hua⟩
    · rw [ha]; exact h.ext
    · rw [ha]; exact h.ext.old hua _
  · cases e; exact hb2 _ e' rfl
  · cases e'; exact hc2 _ e rfl
def dropC (i : ByteArray) : List A := [.int .i64 5, .str i, .str ⟨#[]⟩, .str ⟨#[]⟩, .int .i64 0, .int .i64 0, .str ⟨#[]⟩, .str ⟨#[]⟩, .sl 1 [] .nil, .str ⟨#[]⟩, .int .i64 0, .int .i64 0, .int .i64 0, .sl 1 [] .nil, .sl 2 [] .nil]
def moveC (i : ByteArray) : List A := [.int .i64 2, .str i, .str ⟨#[]⟩, .str ⟨#[]⟩, .int .i64 3000, .int .i64 0, .str ⟨#[]⟩, .str ⟨#[]⟩, .sl 1 [] .nil, .str ⟨#[]⟩, .int .i64 0, .int .i64 0, .int .i64 0, .sl 1 [] .nil, .sl 2 [] .nil]
def putC (i : ByteArray) : List A := [.int .i64 1, .str ⟨#[]⟩, .str ⟨#[]⟩, .str ⟨#[]⟩, .int .i64 0, .int .i64 0, .str ⟨#[]⟩, .str ⟨#[]⟩, .sl 1 [] .nil, .str (⟨#[120]⟩ ++ i), .int .i64 1, .int .i64 0, .int .i64 0, .sl 1 [] .nil, .sl 2 [] .nil]
def dropO (i : ByteArray) : Edit := ⟨5, i, ⟨#[]⟩, ⟨#[]⟩, 0, 0, ⟨#[]⟩, ⟨#[]⟩, [], zeroObj⟩
def moveO (i : ByteArray) : Edit := ⟨2, i, ⟨#[]⟩, ⟨#[]⟩, 3000, 0, ⟨#[]⟩, ⟨#[]⟩, [], zeroObj⟩
def putO (i : ByteArray) : Edit := ⟨1, ⟨#[]⟩, ⟨#[]⟩, ⟨#[]⟩, 0, 0, ⟨#[]⟩, ⟨#[]⟩, [], ⟨⟨#[120]⟩ ++ i, 1, 0, 0, [], []⟩⟩
theorem lel15 {a b c d e f g h : A} {p q r u : A} {z1 z2 z3 : Tok} {n1 n2 n3 : Nat} : A.lel [a, b, c, d, e, f, g, h, .sl n1 [] z1, p, q, r, u, .sl n2 [] z2, .sl n3 [] z3] [a, b, c, d, e, f, g, h, .sl 1 [] .no, p, q, r, u, .sl 1 [] .no, .sl 2 [] .no] :=
  .cons (A.le_refl _) (.cons (A.le_refl _) (.cons (A.le_refl _) (.cons (A.le_refl _) (.cons (A.le_refl _) (.cons (A.le_refl _) (.cons (A.le_refl _) (.cons (A.le_refl _) (.cons (A.le_empty _ _ _) (.cons (A.le_refl _) (.cons (A.le_refl _) (.cons (A.le_refl _) (.cons (A.le_refl _) (.cons (A.le_empty _ _ _) (.cons (A.le_empty _ _ _) .nil))))))))))))))
theorem drop_le (i : ByteArray) : A.lel (dropC i) (encEdit (dropO i)) := lel15
theorem move_le (i : ByteArray) : A.lel (moveC i) (encEdit (moveO i)) := lel15
theorem put_le (i : ByteArray) : A.lel (putC i) (encEdit (putO i)) := lel15
theorem len_nids : nids.length = 5 := rfl
theorem lists6 {s : Nat → Option Blk} {k0 k : Nat → Tk} {t : Nat → A} {Q : PX → St → Prop} (h1 : t 1 = .sl 1 (nids.map encStr) .no) (h3 : t 3 = .sl 15 [] .nil) (h4 : t 4 = .sl 15 [] .nil) (h5 : t 5 = .sl 15 [] .nil) (h6 : t 6 = .int .i64 0) (hk : KExt k0 k)
    (hok : ∀ t' k' a b c, TT k0 k' a b c → t' 2 = t 2 → t' 3 = .sl 15 (nids.map dropC) a → t' 4 = .sl 15 (nids.map putC) c → t' 5 = .sl 15 (nids.map moveC) b → Q (.exit 0) ⟨t', s, k'⟩) : pwp prg (.loop pc6L) Q ⟨t, s, k⟩ := by
  refine loop_intro (fun n st => ∃ (j : Nat) (a b c : Tok), st.s = s ∧ TT k0 st.k a b c ∧ st.t 1 = .sl 1 (nids.map encStr) .no ∧ st.t 2 = t 2 ∧ st.t 3 = .sl 15 ((nids.take j).map dropC) a ∧ st.t 4 = .sl 15 ((nids.take j).map putC) c ∧ st.t 5 = .sl 15 ((nids.take j).map moveC) b ∧
    st.t 6 = .int .i64 j ∧ n = 5 - j ∧ j ≤ 5) 5 ?_ ?_
  · exact ⟨0, .nil, .nil, .nil, rfl, ⟨hk, .inl rfl, .inl rfl, .inl rfl, by simp, by simp, by simp⟩, h1, rfl, h3, h4, h5, h6, rfl, by omega⟩
  · rintro n ⟨t1, s1, k1⟩ ⟨j, a, b, c, hs1, hT, g1, g2, g3, g4, g5, g6, rfl, hj⟩
    dsimp only at hs1 hT g1 g2 g3 g4 g5 g6
    subst hs1
    unfold pc6L
    simp only [pvZ, lz, nz, rr_one, upd_apply, upd_upd, initT, optI, splice, reduceIte, reduceCtorEq, Nat.reduceEqDiff, Nat.reduceAdd, Nat.reduceSub, Nat.reduceMul, Nat.reduceLeDiff, Nat.reduceLT, Int.reduceLT, Int.reduceLE, Int.reduceToNat, Int.reduceEq, Int.cast_ofNat_Int, and_true, not_false_eq_true, Option.map_none, Option.map_some, eq_self, true_or, or_true, Nat.sub_zero, Int.le_refl, g1, g6, len_nids]
    refine brC_in (fun hlt => ?_) (fun hge => ?_)
    · have hj' : j < 5 := by simp at hlt; omega
      have hjn : j < nids.length := hj'
      have hg : (nids.map encStr)[j]? = some (encStr nids[j]) := strE.get hjn
      have hlen : ∀ (f : ByteArray → List A), ((nids.take j).map f).length ≤ 5 := fun f => by simp; omega
      have hsz : ((⟨#[120]⟩ : ByteArray).size + nids[j].size ≤ 9223372036854775807) = True := by
        have : ∀ x ∈ nids, (⟨#[120]⟩ : ByteArray).size + x.size ≤ 9223372036854775807 := by decide
        exact eq_true (this _ (List.getElem_mem hjn))
      have htk : ∀ (f : ByteArray → List A), (nids.take (j + 1)).map f = (nids.take j).map f ++ [f nids[j]] := fun f => by rw [List.take_succ_eq_append_getElem hjn, List.map_append]; rfl
      simp only [pvZ, lz, nz, rr_one, upd_apply, upd_upd, initT, optI, splice, reduceIte, reduceCtorEq, Nat.reduceEqDiff, Nat.reduceAdd, Nat.reduceSub, Nat.reduceMul, Nat.reduceLeDiff, Nat.reduceLT, Int.reduceLT, Int.reduceLE, Int.reduceToNat, Int.reduceEq, Int.cast_ofNat_Int, and_true, not_false_eq_true, Option.map_none, Option.map_some, eq_self, true_or, or_true, Nat.sub_zero, Int.le_refl, g1, g3, g6, hg, get_str]
      refine ⟨.inl rfl, .inl rfl, hT.live, ?_, fun h => by simp at h, fun _ ga hga => ?_⟩
      · have := hlen dropC
        simp only [List.length_cons, List.length_nil]
        omega
      have hT1 := (hT.app hga).rot
      simp only [pvZ, lz, nz, rr_one, upd_apply, upd_upd, initT, optI, splice, reduceIte, reduceCtorEq, Nat.reduceEqDiff, Nat.reduceAdd, Nat.reduceSub, Nat.reduceMul, Nat.reduceLeDiff, Nat.reduceLT, Int.reduceLT, Int.reduceLE, Int.reduceToNat, Int.reduceEq, Int.cast_ofNat_Int, and_true, not_false_eq_true, Option.map_none, Option.map_some, eq_self, true_or, or_true, Nat.sub_zero, Int.le_refl, g1, g5, g6, hg, get_str]
      refine ⟨.inl rfl, .inl rfl, hT1.live, ?_, fun h => by simp at h, fun _ gb hgb => ?_⟩
      · have := hlen moveC
        simp only [List.length_cons, List.length_nil]
        omega
      have hT2 := (hT1.app hgb).rot
      simp only [pvZ, lz, nz, rr_one, upd_apply, upd_upd, initT, optI, splice, reduceIte, reduceCtorEq, Nat.reduceEqDiff, Nat.reduceAdd, Nat.reduceSub, Nat.reduceMul, Nat.reduceLeDiff, Nat.reduceLT, Int.reduceLT, Int.reduceLE, Int.reduceToNat, Int.reduceEq, Int.cast_ofNat_Int, and_true, not_false_eq_true, Option.map_none, Option.map_some, eq_self, true_or, or_true, Nat.sub_zero, Int.le_refl, g1, g4, g6, hg, get_str, hsz]
      refine ⟨.inl rfl, .inl rfl, hT2.live, ?_, fun h => by simp at h, fun _ gc hgc => ?_⟩
      · have := hlen putC
        simp only [List.length_cons, List.length_nil]
        omega
      have hT3 := (hT2.app hgc).rot
      simp only [pvZ, lz, nz, rr_one, upd_apply, upd_upd, initT, optI, splice, reduceIte, reduceCtorEq, Nat.reduceEqDiff, Nat.reduceAdd, Nat.reduceSub, Nat.reduceMul, Nat.reduceLeDiff, Nat.reduceLT, Int.reduceLT, Int.reduceLE, Int.reduceToNat, Int.reduceEq, Int.cast_ofNat_Int, and_true, not_false_eq_true, Option.map_none, Option.map_some, eq_self, true_or, or_true, Nat.sub_zero, Int.le_refl, g6]
      refine nextQ_normal (5 - (j + 1)) (by omega) (St.le_refl _) ⟨j + 1, .own ga 44, .own gb 44, .own gc 44, rfl, hT3, ?_, ?_, ?_, ?_, ?_, ?_, rfl, by omega⟩
      · simp only [upd_apply, Nat.reduceEqDiff, reduceIte]; exact g1
      · simp only [upd_apply, Nat.reduceEqDiff, reduceIte]; exact g2
      · simp only [upd_apply, Nat.reduceEqDiff, reduceIte]; rw [htk]; rfl
      · simp only [upd_apply, Nat.reduceEqDiff, reduceIte]; rw [htk]; rfl
      · simp only [upd_apply, Nat.reduceEqDiff, reduceIte]; rw [htk]; rfl
      · simp only [upd_apply, Nat.reduceEqDiff, reduceIte]
        rw [wrap64 (by omega) (by omega)]
        rfl
    · have hj' : j = 5 := by simp at hge; omega
      subst hj'
      simp only [pvZ, lz, nz, rr_one, upd_apply, upd_upd, initT, optI, splice, reduceIte, reduceCtorEq, Nat.reduceEqDiff, Nat.reduceAdd, Nat.reduceSub, Nat.reduceMul, Nat.reduceLeDiff, Nat.reduceLT, Int.reduceLT, Int.reduceLE, Int.reduceToNat, Int.reduceEq, Int.cast_ofNat_Int, and_true, not_false_eq_true, Option.map_none, Option.map_some, eq_self, true_or, or_true, Nat.sub_zero, Int.le_refl]
      refine hok _ _ a b c hT ?_ ?_ ?_ ?_
      · simp only [upd_apply, Nat.reduceEqDiff, reduceIte]; exact g2
      · simp only [upd_apply, Nat.reduceEqDiff, reduceIte]; exact g3
      · simp only [upd_apply, Nat.reduceEqDiff, reduceIte]; exact g4
      · simp only [upd_apply, Nat.reduceEqDiff, reduceIte]; exact g5
end Go.Pv
