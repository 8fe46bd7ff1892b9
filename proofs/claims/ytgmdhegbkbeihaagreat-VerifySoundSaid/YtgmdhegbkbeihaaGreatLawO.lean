/- The nodes of the law's examples. -/
import Derived.Test.YtgmdhegbkbeihaaGreatLawL
set_option linter.unusedVariables false
set_option linter.unusedSimpArgs false
set_option maxRecDepth 4000
set_option maxHeartbeats 1000000
namespace Go.Pv
open Go

noncomputable def pc13L : PC := (.seq (.seq (.reg [⟨(.some 6), .none, (.mv (.t 4))⟩, ⟨(.some 7), .none, (.mv (.t 2))⟩, ⟨(.some 8), .none, (.len false (.t 7))⟩, ⟨(.some 9), .none, (.bin .lss (.t 6) (.t 8))⟩] false .none) (.cond (.t 9) .skip (.exit 0))) (.seq (.block 1 (.reg [⟨(.some 12), .none, (.fld 0 (.t 3))⟩, ⟨(.some 13), .none, (.load .none (.t 12))⟩, ⟨(.some 14), .none, (.mv (.t 2))⟩, ⟨(.some 15), .none, (.mv (.t 4))⟩, ⟨(.some 16), .none, (.idx 1 (.t 14) (.t 15))⟩, ⟨(.some 17), .none, (.load .none (.t 16))⟩, ⟨(.some 18), .none, (.mv (.t 4))⟩, ⟨(.some 19), .none, (.build [(.int .i64 0), (.int .i64 0)] [(0, (1, (.t 18)))])⟩, ⟨(.some 20), .none, (.build [(.str ⟨#[]⟩), (.int .i64 0), (.int .i64 0), (.int .i64 0), (.sl 1 [] .nil), (.sl 2 [] .nil)] [(0, (1, (.t 17))), (1, (1, (.c (.int .i64 1)))), (2, (2, (.t 19)))])⟩, ⟨(.some 21), .none, (.lit 6 42 [(.str ⟨#[]⟩), (.int .i64 0), (.int .i64 0), (.int .i64 0), (.sl 1 [] .nil), (.sl 2 [] .nil)] 1 [(0, (.t 20))])⟩, ⟨(.some 22), .none, (.app 6 42 88 (.t 13) (.t 21))⟩, ⟨(.some 23), .none, (.fld 0 (.t 3))⟩, ⟨.none, .none, (.store 1 (.t 23) (.t 22))⟩] true .none)) (.reg [⟨(.some 10), .none, (.mv (.t 4))⟩, ⟨(.some 11), .none, (.bin .add (.t 10) (.c (.int .i64 1)))⟩, ⟨(.some 4), .none, (.mv (.t 11))⟩] false .none)))
theorem A.le_sl {esz : Nat} {xs ys : List (List A)} {t : Tok} (hl : xs.length = ys.length) (h : ∀ (i : Nat) (c d : List A), xs[i]? = some c → ys[i]? = some d → A.lel c d) : A.le (.sl esz xs t) (.sl esz ys .no) := ⟨fun w E v hr => by
  cases hr with
  | sl _ _ _ ad c f h1 h2 h3 h4 h5 h6 h7 =>
    rw [hl]
    refine .sl esz ys .no ad c f (by omega) h2 (by simp) (by simp) ?_ (fun i j hi hj => h6 i j (by omega) hj) ?_
    · intro i d hd
      have hi : i < xs.length := by rw [hl]; exact (List.getElem?_eq_some_iff.1 hd).1
      have := (h i xs[i] d (List.getElem?_eq_getElem hi) hd).get.1
      rw [this]
      exact h5 i xs[i] (List.getElem?_eq_getElem hi)
    · intro i d j y hd hy
      have hi : i < xs.length := by rw [hl]; exact (List.getElem?_eq_some_iff.1 hd).1
      obtain ⟨x, hx, hxy⟩ := (h i xs[i] d (List.getElem?_eq_getElem hi) hd).get.2 j y hy
      exact hxy.rel _ _ _ (h7 i xs[i] j x (List.getElem?_eq_getElem hi) hx), by simp⟩
def nids : List ByteArray := [⟨#[110, 49]⟩, ⟨#[110, 50]⟩, ⟨#[110, 51]⟩, ⟨#[110, 52]⟩, ⟨#[110, 53]⟩]
def nodeC (i : ByteArray) (j : Nat) : List A := [.str i, .int .i64 1, .int .i64 j, .int .i64 0, .sl 1 [] .nil, .sl 2 [] .nil]
def nodesC (n : Nat) : List (List A) := (List.range n).map fun j => nodeC (nids.getD j ⟨#[]⟩) j
def nodesO : List Obj := (List.range 5).map fun j => ⟨nids.getD j ⟨#[]⟩, 1, j, 0, [], []⟩
theorem nodes_le : A.le (.agg [.sl 6 (nodesC 5) .no]) (.agg (encMap nodesO)) := by
  refine A.le_agg (.cons (A.le_sl rfl ?_) .nil)
  intro i c d hc hd
  simp only [nodesC, nodesO, List.map_map, List.getElem?_map, Option.map_eq_some_iff] at hc hd
  obtain ⟨a, ha, rfl⟩ := hc
  obtain ⟨b, hb, rfl⟩ := hd
  rw [ha] at hb
  cases hb
  exact .cons (A.le_refl _) (.cons (A.le_refl _) (.cons (A.le_refl _) (.cons (A.le_refl _) (.cons (A.le_empty _ _ _) (.cons (A.le_empty _ _ _) .nil)))))
theorem spec13 {s : Nat → Option Blk} {k : Nat → Tk} : Spec prg 47 [] s k (.tup [.sl 1 (nids.map encStr) .no, .agg (encMap nodesO)]) s k := by
  refine spec_tr prg_mixed tr_plaw32_nodes (Nat.le_of_ble_eq_true rfl) rfl ?_
  unfold pc_plaw32_nodes rs_plaw32_nodes
  simp only [sZ, initT, optI, splice, reduceIte, reduceCtorEq, Nat.reduceEqDiff, Nat.reduceAdd, Nat.reduceSub, Nat.reduceMul, Nat.reduceLeDiff, Nat.reduceLT, Int.reduceLT, Int.reduceLE, Int.reduceToNat, Int.reduceEq, Int.cast_ofNat_Int]
  (with_reducible refine newS_in ?_); intro b1 h1; simp only [upd_none] at h1
  simp only [sZ, initT, optI, splice, reduceIte, reduceCtorEq, Nat.reduceEqDiff, Nat.reduceAdd, Nat.reduceSub, Nat.reduceMul, Nat.reduceLeDiff, Nat.reduceLT, Int.reduceLT, Int.reduceLE, Int.reduceToNat, Int.reduceEq, Int.cast_ofNat_Int]
  (with_reducible refine newS_in ?_); intro b3 h3; simp only [upd_none] at h3
  simp only [sZ, initT, optI, splice, reduceIte, reduceCtorEq, Nat.reduceEqDiff, Nat.reduceAdd, Nat.reduceSub, Nat.reduceMul, Nat.reduceLeDiff, Nat.reduceLT, Int.reduceLT, Int.reduceLE, Int.reduceToNat, Int.reduceEq, Int.cast_ofNat_Int]
  have hids : [[A.str ⟨#[110, 49]⟩], [A.str ⟨#[110, 50]⟩], [A.str ⟨#[110, 51]⟩], [A.str ⟨#[110, 52]⟩], [A.str ⟨#[110, 53]⟩]] = nids.map encStr := rfl
  refine loop_intro (fun n st => ∃ (j : Nat) (tok : Tok), st.s = upd (upd s b1 (some (.cells [.sl 6 [] .nil]))) b3 (some (.cells [.sl 6 (nodesC j) tok])) ∧ KExt k st.k ∧ st.t 1 = .ptr b1 0 ∧ st.t 2 = .sl 1 (nids.map encStr) .full ∧ st.t 3 = .ptr b3 0 ∧ st.t 4 = .int .i64 j ∧ n = 5 - j ∧ j ≤ 5 ∧
    ((tok = .nil ∧ j = 0) ∨ ∃ g, tok = .own g 42 ∧ st.k g = .live ∧ k g = .unused)) 5 ?_ ?_
  · exact ⟨0, .nil, rfl, KExt.refl _, rfl, rfl, rfl, rfl, rfl, by omega, .inl ⟨rfl, rfl⟩⟩
  · rintro n ⟨t1, s1, k1⟩ ⟨j, tok, hs1, hk1, g1, g2, g3, g4, rfl, hj, htok⟩
    dsimp only at hs1 hk1 g1 g2 g3 g4 htok
    subst hs1
    have hlen : nids.length = 5 := rfl
    simp only [sZ, initT, optI, splice, reduceIte, reduceCtorEq, Nat.reduceEqDiff, Nat.reduceAdd, Nat.reduceSub, Nat.reduceMul, Nat.reduceLeDiff, Nat.reduceLT, Int.reduceLT, Int.reduceLE, Int.reduceToNat, Int.reduceEq, Int.cast_ofNat_Int, g2, g4, hlen]
    refine brC_in (fun hlt => ?_) (fun hge => ?_)
    · have hj' : j < 5 := by simp at hlt; omega
      have hg : (nids.map encStr)[j]? = some (encStr nids[j]) := strE.get (by omega)
      simp only [sZ, initT, optI, splice, reduceIte, reduceCtorEq, Nat.reduceEqDiff, Nat.reduceAdd, Nat.reduceSub, Nat.reduceMul, Nat.reduceLeDiff, Nat.reduceLT, Int.reduceLT, Int.reduceLE, Int.reduceToNat, Int.reduceEq, Int.cast_ofNat_Int, g1, g2, g3, g4, hg, get_str]
      refine ⟨?_, .inl rfl, ?_, ?_, fun h => by simp at h, fun _ g hg => ?_⟩
      · exact .inl rfl
      · rcases htok with ⟨rfl, _⟩ | ⟨g, rfl, hg, _⟩
        · trivial
        · exact ⟨rfl, hg⟩
      · simp [nodesC]
        omega
      · simp only [sZ, initT, optI, splice, reduceIte, reduceCtorEq, Nat.reduceEqDiff, Nat.reduceAdd, Nat.reduceSub, Nat.reduceMul, Nat.reduceLeDiff, Nat.reduceLT, Int.reduceLT, Int.reduceLE, Int.reduceToNat, Int.reduceEq, Int.cast_ofNat_Int, g1, g2, g3, g4]
        refine nextQ_normal (5 - (j + 1)) (by omega) (St.le_refl _) ⟨j + 1, .own g 42, ?_, ?_, ?_, ?_, ?_, ?_, rfl, by omega, .inr ⟨g, rfl, by simp [upd_apply], hk1.unused hg⟩⟩
        · have hx : nodesC (j + 1) = nodesC j ++ [nodeC nids[j] j] := by
            simp only [nodesC, List.range_succ, List.map_append, List.map_cons, List.map_nil]
            rw [show nids.getD j ⟨#[]⟩ = nids[j] by rw [List.getD_eq_getElem?_getD, List.getElem?_eq_getElem (by omega)]; rfl]
          rw [hx]
          rfl
        · refine KExt.old ?_ (hk1.unused hg) _
          rcases htok with ⟨rfl, _⟩ | ⟨g', rfl, _, hu⟩
          · exact hk1
          · exact hk1.old hu _
        · simp only [upd_apply, Nat.reduceEqDiff, reduceIte]; exact g1
        · simp only [upd_apply, Nat.reduceEqDiff, reduceIte]; exact g2
        · simp only [upd_apply, Nat.reduceEqDiff, reduceIte]; exact g3
        · simp only [upd_apply, Nat.reduceEqDiff, reduceIte]
          rw [wrap64 (by omega) (by omega)]
          rfl
    · have hj' : j = 5 := by simp at hge; omega
      subst hj'
      simp only [sZ, initT, optI, splice, reduceIte, reduceCtorEq, Nat.reduceEqDiff, Nat.reduceAdd, Nat.reduceSub, Nat.reduceMul, Nat.reduceLeDiff, Nat.reduceLT, Int.reduceLT, Int.reduceLE, Int.reduceToNat, Int.reduceEq, Int.cast_ofNat_Int, g1, g2, g3, g4, h3]
      rcases htok with ⟨_, h⟩ | ⟨g, rfl, _⟩
      · exact absurd h (by decide)
      · exact OutQ.lek (by repeat (first | exact SExt.refl _ | (refine SExt.old ?_ (by first | (simp only [*]; done) | (simp only [upd_none]; assumption) | (simp only [upd_none, *, not_false_eq_true, and_self]; done)) _))) hk1 (A.le_tup (.cons (A.le_no _ _ _) (.cons nodes_le .nil)))
noncomputable def pc6L : PC := (.seq (.seq (.reg [⟨(.some 14), .none, (.mv (.t 6))⟩, ⟨(.some 15), .none, (.mv (.t 1))⟩, ⟨(.some 16), .none, (.len false (.t 15))⟩, ⟨(.some 17), .none, (.bin .lss (.t 14) (.t 16))⟩] false .none) (.cond (.t 17) .skip (.exit 0))) (.seq (.block 1 (.seq (.reg [⟨(.some 20), .none, (.mv (.t 3))⟩, ⟨(.some 21), .none, (.mv (.t 1))⟩, ⟨(.some 22), .none, (.mv (.t 6))⟩, ⟨(.some 23), .none, (.idx 1 (.t 21) (.t 22))⟩, ⟨(.some 24), .none, (.load .none (.t 23))⟩, ⟨(.some 25), .none, (.build [(.int .i64 0), (.str ⟨#[]⟩), (.str ⟨#[]⟩), (.str ⟨#[]⟩), (.int .i64 0), (.int .i64 0), (.str ⟨#[]⟩), (.str ⟨#[]⟩), (.sl 1 [] .nil), (.str ⟨#[]⟩), (.int .i64 0), (.int .i64 0), (.int .i64 0), (.sl 1 [] .nil), (.sl 2 [] .nil)] [(0, (1, (.c (.int .i64 5)))), (1, (1, (.t 24)))])⟩, ⟨(.some 26), .none, (.lit 15 44 [(.int .i64 0), (.str ⟨#[]⟩), (.str ⟨#[]⟩), (.str ⟨#[]⟩), (.int .i64 0), (.int .i64 0), (.str ⟨#[]⟩), (.str ⟨#[]⟩), (.sl 1 [] .nil), (.str ⟨#[]⟩), (.int .i64 0), (.int .i64 0), (.int .i64 0), (.sl 1 [] .nil), (.sl 2 [] .nil)] 1 [(0, (.t 25))])⟩, ⟨(.some 27), .none, (.app 15 44 216 (.t 20) (.t 26))⟩, ⟨(.some 3), .none, (.mv (.t 27))⟩] false .none) (.seq (.reg [⟨(.some 28), .none, (.mv (.t 5))⟩, ⟨(.some 29), .none, (.mv (.t 1))⟩, ⟨(.some 30), .none, (.mv (.t 6))⟩, ⟨(.some 31), .none, (.idx 1 (.t 29) (.t 30))⟩, ⟨(.some 32), .none, (.load .none (.t 31))⟩, ⟨(.some 33), .none, (.build [(.int .i64 0), (.int .i64 0)] [(0, (1, (.c (.int .i64 3000))))])⟩, ⟨(.some 34), .none, (.build [(.int .i64 0), (.str ⟨#[]⟩), (.str ⟨#[]⟩), (.str ⟨#[]⟩), (.int .i64 0), (.int .i64 0), (.str ⟨#[]⟩), (.str ⟨#[]⟩), (.sl 1 [] .nil), (.str ⟨#[]⟩), (.int .i64 0), (.int .i64 0), (.int .i64 0), (.sl 1 [] .nil), (.sl 2 [] .nil)] [(0, (1, (.c (.int .i64 2)))), (1, (1, (.t 32))), (4, (2, (.t 33)))])⟩, ⟨(.some 35), .none, (.lit 15 44 [(.int .i64 0), (.str ⟨#[]⟩), (.str ⟨#[]⟩), (.str ⟨#[]⟩), (.int .i64 0), (.int .i64 0), (.str ⟨#[]⟩), (.str ⟨#[]⟩), (.sl 1 [] .nil), (.str ⟨#[]⟩), (.int .i64 0), (.int .i64 0), (.int .i64 0), (.sl 1 [] .nil), (.sl 2 [] .nil)] 1 [(0, (.t 34))])⟩, ⟨(.some 36), .none, (.app 15 44 216 (.t 28) (.t 35))⟩, ⟨(.some 5), .none, (.mv (.t 36))⟩] false .none) (.reg [⟨(.some 37), .none, (.mv (.t 4))⟩, ⟨(.some 38), .none, (.mv (.t 1))⟩, ⟨(.some 39), .none, (.mv (.t 6))⟩, ⟨(.some 40), .none, (.idx 1 (.t 38) (.t 39))⟩, ⟨(.some 41), .none, (.load .none (.t 40))⟩, ⟨(.some 42), .none, (.bin .add (.c (.str ⟨#[120]⟩)) (.t 41))⟩, ⟨(.some 43), .none, (.build [(.str ⟨#[]⟩), (.int .i64 0), (.int .i64 0), (.int .i64 0), (.sl 1 [] .nil), (.sl 2 [] .nil)] [(0, (1, (.t 42))), (1, (1, (.c (.int .i64 1))))])⟩, ⟨(.some 44), .none, (.build [(.int .i64 0), (.str ⟨#[]⟩), (.str ⟨#[]⟩), (.str ⟨#[]⟩), (.int .i64 0), (.int .i64 0), (.str ⟨#[]⟩), (.str ⟨#[]⟩), (.sl 1 [] .nil), (.str ⟨#[]⟩), (.int .i64 0), (.int .i64 0), (.int .i64 0), (.sl 1 [] .nil), (.sl 2 [] .nil)] [(0, (1, (.c (.int .i64 1)))), (9, (6, (.t 43)))])⟩, ⟨(.some 45), .none, (.lit 15 44 [(.int .i64 0), (.str ⟨#[]⟩), (.str ⟨#[]⟩), (.str ⟨#[]⟩), (.int .i64 0), (.int .i64 0), (.str ⟨#[]⟩), (.str ⟨#[]⟩), (.sl 1 [] .nil), (.str ⟨#[]⟩), (.int .i64 0), (.int .i64 0), (.int .i64 0), (.sl 1 [] .nil), (.sl 2 [] .nil)] 1 [(0, (.t 44))])⟩, ⟨(.some 46), .none, (.app 15 44 216 (.t 37) (.t 45))⟩, ⟨(.some 4), .none, (.mv (.t 46))⟩] false .none)))) (.reg [⟨(.some 18), .none, (.mv (.t 6))⟩, ⟨(.some 19), .none, (.bin .add (.t 18) (.c (.int .i64 1)))⟩, ⟨(.some 6), .none, (.mv (.t 19))⟩] false .none)))
/-- Three rows of the call's own. -/
structure TT (k0 k : Nat → Tk) (a b c : Tok) : Prop where
  ext : KExt k0 k
  fa : a = .nil ∨ ∃ g, a = .own g 44 ∧ k g = .live ∧ k0 g = .unused
  fb : b = .nil ∨ ∃ g, b = .own g 44 ∧ k g = .live ∧ k0 g = .unused
  fc : c = .nil ∨ ∃ g, c = .own g 44 ∧ k g = .live ∧ k0 g = .unused
  ab : ∀ g, a = .own g 44 → b ≠ .own g 44
  bc : ∀ g, b = .own g 44 → c ≠ .own g 44
  ca : ∀ g, c = .own g 44 → a ≠ .own g 44
theorem TT.rot {k0 k : Nat → Tk} {a b c : Tok} (h : TT k0 k a b c) : TT k0 k b c a := ⟨h.ext, h.fb, h.fc, h.fa, h.bc, h.ca, h.ab⟩
theorem TT.live {k0 k : Nat → Tk} {a b c : Tok} (h : TT k0 k a b c) : tokLive k 44 a := by
  rcases h.fa with h | ⟨g, h, h2, _⟩
  · rw [h]; trivial
  · rw [h]; exact ⟨rfl, h2⟩
theorem TT.app {k0 k : Nat → Tk} {a b c : Tok} (h : TT k0 k a b c) {g : Nat} (hg : k g = .unused) : TT k0 (upd (killT k a) g .live) (.own g 44) b c := by
  have hu : k0 g = .unused := h.ext.unused hg
  have keep : ∀ x : Tok, (∀ g, a = .own g 44 → x ≠ .own g 44) → (x = .nil ∨ ∃ g, x = .own g 44 ∧ k g = .live ∧ k0 g = .unused) → (x = .nil ∨ ∃ g', x = .own g' 44 ∧ upd (killT k a) g .live g' = .live ∧ k0 g' = .unused) ∧ ∀ g', x = .own g' 44 → g' ≠ g := by
    intro x hx hn
    rcases hn with rfl | ⟨g', rfl, h1, h2⟩
    · exact ⟨.inl rfl, by simp⟩
    · have hne : g' ≠ g := fun e => by subst e; rw [hg] at h1; cases h1
      refine ⟨.inr ⟨g', rfl, ?_, h2⟩, fun g2 e => by cases e; exact hne⟩
      rw [upd_other _ _ _ _ hne]
      rcases h.fa with ha | ⟨ga, ha, _, _⟩
      · rw [ha]; exact h1
      · rw [ha]
        simp only [killT]
        rw [upd_other _ _ _ _ (fun e => hx ga ha (by rw [e]))]
        exact h1
  obtain ⟨hb, hb2⟩ := keep b h.ab h.fb
  obtain ⟨hc, hc2⟩ := keep c (fun g hga hgc => h.ca g hgc hga) h.fc
  refine ⟨KExt.old ?_ hu _, .inr ⟨g, rfl, upd_same _ _ _, hu⟩, hb, hc, fun g' e e' => ?_, h.bc, fun g' e e' => ?_⟩
  · rcases h.fa with ha | ⟨ga, ha, _, hua⟩
    · rw [ha]; exact h.ext
    · rw [ha]; exact h.ext.old hua _
  · cases e; exact hb2 _ e' rfl
  · cases e'; exact hc2 _ e rfl
def dropC (i : ByteArray) : List A := [.int .i64 5, .str i, .str ⟨#[]⟩, .str ⟨#[]⟩, .int .i64 0, .int .i64 0, .str ⟨#[]⟩, .str ⟨#[]⟩, .sl 1 [] .nil, .str ⟨#[]⟩, .int .i64 0, .int .i64 0, .int .i64 0, .sl 1 [] .nil, .sl 2 [] .nil]
def moveC (i : ByteArray) : List A := [.int .i64 2, .str i, .str ⟨#[]⟩, .str ⟨#[]⟩, .int .i64 3000, .int .i64 0, .str ⟨#[]⟩, .str ⟨#[]⟩, .sl 1 [] .nil, .str ⟨#[]⟩, .int .i64 0, .int .i64 0, .int .i64 0, .sl 1 [] .nil, .sl 2 [] .nil]
def putC (i : ByteArray) : List A := [.int .i64 1, .str ⟨#[]⟩, .str ⟨#[]⟩, .str ⟨#[]⟩, .int .i64 0, .int .i64 0, .str ⟨#[]⟩, .str ⟨#[]⟩, .sl 1 [] .nil, .str (⟨#[120]⟩ ++ i), .int .i64 1, .int .i64 0, .int .i64 0, .sl 1 [] .nil, .sl 2 [] .nil]
def dropO (i : ByteArray) : Edit := ⟨5, i, ⟨#[]⟩, ⟨#[]⟩, 0, 0, ⟨#[]⟩, ⟨#[]⟩, [], zeroObj⟩
def moveO (i : ByteArray) : Edit := ⟨2, i, ⟨#[]⟩, ⟨#[]⟩, 3000, 0, ⟨#[]⟩, ⟨#[]⟩, [], zeroObj⟩
def putO (i : ByteArray) : Edit := ⟨1, ⟨#[]⟩, ⟨#[]⟩, ⟨#[]⟩, 0, 0, ⟨#[]⟩, ⟨#[]⟩, [], ⟨⟨#[120]⟩ ++ i, 1, 0, 0, [], []⟩⟩
theorem lel15 {a b c d e f g h : A} {p q r u : A} {z1 z2 z3 : Tok} {n1 n2 n3 : Nat} : A.lel [a, b, c, d, e, f, g, h, .sl n1 [] z1, p, q, r, u, .sl n2 [] z2, .sl n3 [] z3] [a, b, c, d, e, f, g, h, .sl 1 [] .no, p, q, r, u, .sl 1 [] .no, .sl 2 [] .no] :=
  .cons (A.le_refl _) (.cons (A.le_refl _) (.cons (A.le_refl _) (.cons (A.le_refl _) (.cons (A.le_refl _) (.cons (A.le_refl _) (.cons (A.le_refl _) (.cons (A.le_refl _) (.cons (A.le_empty _ _ _) (.cons (A.le_refl _) (.cons (A.le_refl _) (.cons (A.le_refl _) (.cons (A.le_refl _) (.cons (A.le_empty _ _ _) (.cons (A.le_empty _ _ _) .nil))))))))))))))
theorem drop_le (i : ByteArray) : A.lel (dropC i) (encEdit (dropO i)) := lel15
theorem move_le (i : ByteArray) : A.lel (moveC i) (encEdit (moveO i)) := lel15
theorem put_le (i : ByteArray) : A.lel (putC i) (encEdit (putO i)) := lel15
theorem len_nids : nids.length = 5 := rfl
theorem lists6 {s : Nat → Option Blk} {k0 k : Nat → Tk} {t : Nat → A} {Q : PX → St → Prop} (h1 : t 1 = .sl 1 (nids.map encStr) .no) (h3 : t 3 = .sl 15 [] .nil) (h4 : t 4 = .sl 15 [] .nil) (h5 : t 5 = .sl 15 [] .nil) (h6 : t 6 = .int .i64 0) (hk : KExt k0 k)
    (hok : ∀ t' k' a b c, TT k0 k' a b c → t' 2 = t 2 → t' 3 = .sl 15 (nids.map dropC) a → t' 4 = .sl 15 (nids.map putC) c → t' 5 = .sl 15 (nids.map moveC) b → Q (.exit 0) ⟨t', s, k'⟩) : pwp prg (.loop pc6L) Q ⟨t, s, k⟩ := by
  refine loop_intro (fun n st => ∃ (j : Nat) (a b c : Tok), st.s = s ∧ TT k0 st.k a b c ∧ st.t 1 = .sl 1 (nids.map encStr) .no ∧ st.t 2 = t 2 ∧ st.t 3 = .sl 15 ((nids.take j).map dropC) a ∧ st.t 4 = .sl 15 ((nids.take j).map putC) c ∧ st.t 5 = .sl 15 ((nids.take j).map moveC) b ∧
    st.t 6 = .int .i64 j ∧ n = 5 - j ∧ j ≤ 5) 5 ?_ ?_
  · exact ⟨0, .nil, .nil, .nil, rfl, ⟨hk, .inl rfl, .inl rfl, .inl rfl, by simp, by simp, by simp⟩, h1, rfl, h3, h4, h5, h6, rfl, by omega⟩
  · rintro n ⟨t1, s1, k1⟩ ⟨j, a, b, c, hs1, hT, g1, g2, g3, g4, g5, g6, rfl, hj⟩
    dsimp only at hs1 hT g1 g2 g3 g4 g5 g6
    subst hs1
    unfold pc6L
    simp only [sZ, initT, optI, splice, reduceIte, reduceCtorEq, Nat.reduceEqDiff, Nat.reduceAdd, Nat.reduceSub, Nat.reduceMul, Nat.reduceLeDiff, Nat.reduceLT, Int.reduceLT, Int.reduceLE, Int.reduceToNat, Int.reduceEq, Int.cast_ofNat_Int, g1, g6, len_nids]
    refine brC_in (fun hlt => ?_) (fun hge => ?_)
    · have hj' : j < 5 := by simp at hlt; omega
      have hjn : j < nids.length := hj'
      have hg : (nids.map encStr)[j]? = some (encStr nids[j]) := strE.get hjn
      have hlen : ∀ (f : ByteArray → List A), ((nids.take j).map f).length ≤ 5 := fun f => by simp; omega
      have hsz : ((⟨#[120]⟩ : ByteArray).size + nids[j].size ≤ 9223372036854775807) = True := by
        have : ∀ x ∈ nids, (⟨#[120]⟩ : ByteArray).size + x.size ≤ 9223372036854775807 := by decide
        exact eq_true (this _ (List.getElem_mem hjn))
      have htk : ∀ (f : ByteArray → List A), (nids.take (j + 1)).map f = (nids.take j).map f ++ [f nids[j]] := fun f => by rw [List.take_succ_eq_append_getElem hjn, List.map_append]; rfl
      simp only [sZ, initT, optI, splice, reduceIte, reduceCtorEq, Nat.reduceEqDiff, Nat.reduceAdd, Nat.reduceSub, Nat.reduceMul, Nat.reduceLeDiff, Nat.reduceLT, Int.reduceLT, Int.reduceLE, Int.reduceToNat, Int.reduceEq, Int.cast_ofNat_Int, g1, g3, g6, hg, get_str]
      refine ⟨.inl rfl, .inl rfl, hT.live, ?_, fun h => by simp at h, fun _ ga hga => ?_⟩
      · have := hlen dropC
        simp only [List.length_cons, List.length_nil]
        omega
      have hT1 := (hT.app hga).rot
      simp only [sZ, initT, optI, splice, reduceIte, reduceCtorEq, Nat.reduceEqDiff, Nat.reduceAdd, Nat.reduceSub, Nat.reduceMul, Nat.reduceLeDiff, Nat.reduceLT, Int.reduceLT, Int.reduceLE, Int.reduceToNat, Int.reduceEq, Int.cast_ofNat_Int, g1, g5, g6, hg, get_str]
      refine ⟨.inl rfl, .inl rfl, hT1.live, ?_, fun h => by simp at h, fun _ gb hgb => ?_⟩
      · have := hlen moveC
        simp only [List.length_cons, List.length_nil]
        omega
      have hT2 := (hT1.app hgb).rot
      simp only [sZ, initT, optI, splice, reduceIte, reduceCtorEq, Nat.reduceEqDiff, Nat.reduceAdd, Nat.reduceSub, Nat.reduceMul, Nat.reduceLeDiff, Nat.reduceLT, Int.reduceLT, Int.reduceLE, Int.reduceToNat, Int.reduceEq, Int.cast_ofNat_Int, g1, g4, g6, hg, get_str, hsz]
      refine ⟨.inl rfl, .inl rfl, hT2.live, ?_, fun h => by simp at h, fun _ gc hgc => ?_⟩
      · have := hlen putC
        simp only [List.length_cons, List.length_nil]
        omega
      have hT3 := (hT2.app hgc).rot
      simp only [sZ, initT, optI, splice, reduceIte, reduceCtorEq, Nat.reduceEqDiff, Nat.reduceAdd, Nat.reduceSub, Nat.reduceMul, Nat.reduceLeDiff, Nat.reduceLT, Int.reduceLT, Int.reduceLE, Int.reduceToNat, Int.reduceEq, Int.cast_ofNat_Int, g6]
      refine nextQ_normal (5 - (j + 1)) (by omega) (St.le_refl _) ⟨j + 1, .own ga 44, .own gb 44, .own gc 44, rfl, hT3, ?_, ?_, ?_, ?_, ?_, ?_, rfl, by omega⟩
      · simp only [upd_apply, Nat.reduceEqDiff, reduceIte]; exact g1
      · simp only [upd_apply, Nat.reduceEqDiff, reduceIte]; exact g2
      · simp only [upd_apply, Nat.reduceEqDiff, reduceIte]; rw [htk]; rfl
      · simp only [upd_apply, Nat.reduceEqDiff, reduceIte]; rw [htk]; rfl
      · simp only [upd_apply, Nat.reduceEqDiff, reduceIte]; rw [htk]; rfl
      · simp only [upd_apply, Nat.reduceEqDiff, reduceIte]
        rw [wrap64 (by omega) (by omega)]
        rfl
    · have hj' : j = 5 := by simp at hge; omega
      subst hj'
      simp only [sZ, initT, optI, splice, reduceIte, reduceCtorEq, Nat.reduceEqDiff, Nat.reduceAdd, Nat.reduceSub, Nat.reduceMul, Nat.reduceLeDiff, Nat.reduceLT, Int.reduceLT, Int.reduceLE, Int.reduceToNat, Int.reduceEq, Int.cast_ofNat_Int]
      refine hok _ _ a b c hT ?_ ?_ ?_ ?_
      · simp only [upd_apply, Nat.reduceEqDiff, reduceIte]; exact g2
      · simp only [upd_apply, Nat.reduceEqDiff, reduceIte]; exact g3
      · simp only [upd_apply, Nat.reduceEqDiff, reduceIte]; exact g4
      · simp only [upd_apply, Nat.reduceEqDiff, reduceIte]; exact g5
inductive A.lell : List (List A) → List (List A) → Prop where
  | nil : A.lell [] []
  | cons {c d : List A} {cs ds : List (List A)} : A.lel c d → A.lell cs ds → A.lell (c :: cs) (d :: ds)
theorem A.lell.get {cs ds : List (List A)} (h : A.lell cs ds) : cs.length = ds.length ∧ ∀ (i : Nat) (c d : List A), cs[i]? = some c → ds[i]? = some d → A.lel c d := by
  induction h with
  | nil => exact ⟨rfl, by simp⟩
  | cons hc _ ih =>
    refine ⟨by simp [ih.1], fun i c d h1 h2 => ?_⟩
    cases i with
    | zero => simp at h1 h2; subst h1 h2; exact hc
    | succ i => exact ih.2 i c d (by simpa using h1) (by simpa using h2)
theorem A.lell.le {cs ds : List (List A)} (h : A.lell cs ds) (esz : Nat) (t : Tok) : A.le (.sl esz cs t) (.sl esz ds .no) := A.le_sl h.get.1 h.get.2
theorem A.lell.app {cs ds es fs : List (List A)} (h : A.lell cs ds) (h' : A.lell es fs) : A.lell (cs ++ es) (ds ++ fs) := by
  induction h with
  | nil => exact h'
  | cons hc _ ih => exact .cons hc ih
theorem lell_map {f : ByteArray → List A} {g : ByteArray → Edit} (h : ∀ i, A.lel (f i) (encEdit (g i))) : ∀ l : List ByteArray, A.lell (l.map f) ((l.map g).map encEdit)
  | [] => .nil
  | x :: l => .cons (h x) (lell_map h l)
theorem le_evid (kd : Int) (es : List Int) (t : Tok) : A.lel [.int .i64 kd, .sl 1 (es.map encInt) t] (encEvid ⟨kd, es⟩) := .cons (A.le_refl _) (.cons (A.le_no _ _ _) .nil)
theorem acc_at (l : List Edit) (e : Evid) (b : Bool) (hb : acceptF nodesO l e = b) (hl : l.length ≤ 40) (ht : ∀ x ∈ l, x.obj.tags = []) {xs : List (List A)} {tk : Tok} (hx : A.lell xs (l.map encEdit)) {cs : List A} (hy : A.lel cs (encEvid e)) {s : Nat → Option Blk} {k : Nat → Tk} :
    Spec prg 22 [.agg [.sl 6 (nodesO.map encObj) .no], (A.sl 15 xs tk).strip, .agg cs] s k (.bool b) s k := by
  rw [← hb]
  refine Spec.args (spec8 nodesO l e (by decide) ?_ (by omega) ?_) (.cons (A.le_refl _) (.cons ((le_strip_no _ _ _).trans (hx.le 15 .no)) (.cons (A.le_agg hy) .nil)))
  · intro o ho
    simp only [nodesO, List.mem_map] at ho
    obtain ⟨j, _, rfl⟩ := ho
    exact (by decide : (0 : Nat) < 4611686018427387904)
  · intro x hx
    rw [ht x hx]
    decide
theorem spec6 {s : Nat → Option Blk} {k : Nat → Tk} : Spec prg 20 [] s k (.bool true) s k := by
  refine spec_tr prg_mixed tr_plaw32_head (Nat.le_of_ble_eq_true rfl) rfl ?_
  unfold pc_plaw32_head rs_plaw32_head
  simp only [sZ, initT, optI, splice, reduceIte, reduceCtorEq, Nat.reduceEqDiff, Nat.reduceAdd, Nat.reduceSub, Nat.reduceMul, Nat.reduceLeDiff, Nat.reduceLT, Int.reduceLT, Int.reduceLE, Int.reduceToNat, Int.reduceEq, Int.cast_ofNat_Int]
  refine callS_quiet spec13 ?_
  simp only [sZ, initT, optI, splice, reduceIte, reduceCtorEq, Nat.reduceEqDiff, Nat.reduceAdd, Nat.reduceSub, Nat.reduceMul, Nat.reduceLeDiff, Nat.reduceLT, Int.reduceLT, Int.reduceLE, Int.reduceToNat, Int.reduceEq, Int.cast_ofNat_Int, encMap]
  (with_reducible refine newS_in ?_); intro b2 h2; simp only [upd_none] at h2
  simp only [sZ, initT, optI, splice, reduceIte, reduceCtorEq, Nat.reduceEqDiff, Nat.reduceAdd, Nat.reduceSub, Nat.reduceMul, Nat.reduceLeDiff, Nat.reduceLT, Int.reduceLT, Int.reduceLE, Int.reduceToNat, Int.reduceEq, Int.cast_ofNat_Int]
  refine lists6 rfl rfl rfl rfl rfl (KExt.refl k) fun t' k' a b c hT k2 k3 k4 k5 => ?_
  simp only [upd_apply, Nat.reduceEqDiff, reduceIte] at k2
  simp only [sZ, initT, optI, splice, reduceIte, reduceCtorEq, Nat.reduceEqDiff, Nat.reduceAdd, Nat.reduceSub, Nat.reduceMul, Nat.reduceLeDiff, Nat.reduceLT, Int.reduceLT, Int.reduceLE, Int.reduceToNat, Int.reduceEq, Int.cast_ofNat_Int, k2, k3, k4, k5]
  (with_reducible refine newS_in ?_); intro b7 h7; simp only [upd_none] at h7
  simp only [sZ, initT, optI, splice, reduceIte, reduceCtorEq, Nat.reduceEqDiff, Nat.reduceAdd, Nat.reduceSub, Nat.reduceMul, Nat.reduceLeDiff, Nat.reduceLT, Int.reduceLT, Int.reduceLE, Int.reduceToNat, Int.reduceEq, Int.cast_ofNat_Int, k2, k3, k4, k5, *, -hT]
  have hm0 : (nids.map moveC)[0]? = some (moveC ⟨#[110, 49]⟩) := rfl
  have hm1 : List.map A.strip (List.take 15 (moveC ⟨#[110, 49]⟩)) = moveC ⟨#[110, 49]⟩ := rfl
  have hm2 : List.map A.strip (moveC ⟨#[110, 49]⟩) = moveC ⟨#[110, 49]⟩ := rfl
  have hm3 : (moveC ⟨#[110, 49]⟩).length = 15 := rfl
  have hz1 : ∀ es : List Int, es.map encInt = es.map fun i => [A.int .i64 i] := fun _ => rfl
  refine ⟨.inl rfl, .inl rfl, trivial, by simp [len_nids], fun h => by simp [nids] at h, fun _ g1 hg1 => ?_⟩
  simp only [sZ, initT, optI, splice, reduceIte, reduceCtorEq, Nat.reduceEqDiff, Nat.reduceAdd, Nat.reduceSub, Nat.reduceMul, Nat.reduceLeDiff, Nat.reduceLT, Int.reduceLT, Int.reduceLE, Int.reduceToNat, Int.reduceEq, Int.cast_ofNat_Int, k2, k3, k4, k5, h2, h7, hm0, hm1, hm2, hm3, killT]
  refine ⟨.inl rfl, .inl rfl, ⟨rfl, by simp [upd_apply]⟩, by simp [len_nids], fun h => by simp at h, fun _ g2 hg2 => ?_⟩
  simp only [sZ, initT, optI, splice, reduceIte, reduceCtorEq, Nat.reduceEqDiff, Nat.reduceAdd, Nat.reduceSub, Nat.reduceMul, Nat.reduceLeDiff, Nat.reduceLT, Int.reduceLT, Int.reduceLE, Int.reduceToNat, Int.reduceEq, Int.cast_ofNat_Int, k2, k3, k4, k5, h2, h7]
  have e0 : KExt k k' := hT.ext
  have u1 : k g1 = .unused := e0.unused hg1
  have e1 : KExt k (upd k' g1 .live) := e0.old u1 _
  have u2 : k g2 = .unused := e1.unused hg2
  have e2 : KExt k (upd (upd k' g1 .dead) g2 .live) := (e0.old u1 _).old u2 _
  have e2' : KExt k (upd (upd (upd k' g1 .live) g1 .dead) g2 .live) := (e1.old u1 _).old u2 _
  have tg : ∀ (f : ByteArray → Edit), (∀ i, (f i).obj.tags = []) → ∀ x ∈ nids.map f, x.obj.tags = [] := by
    intro f hf x hx
    obtain ⟨i, _, rfl⟩ := List.mem_map.1 hx
    exact hf i
  have tg2 : ∀ (l1 l2 : List Edit), (∀ x ∈ l1, x.obj.tags = []) → (∀ x ∈ l2, x.obj.tags = []) → ∀ x ∈ l1 ++ l2, x.obj.tags = [] := by
    intro l1 l2 h1 h2 x hx
    rcases List.mem_append.1 hx with h | h
    · exact h1 x h
    · exact h2 x h
  refine callQS_quiet (acc_at (nids.map dropO ++ [moveO ⟨#[110, 49]⟩]) ⟨1, [0, 1, 2, 3, 4]⟩ true (by kernel_rfl) (by decide) (tg2 _ _ (tg _ fun _ => rfl) (by intro x hx; rw [List.mem_singleton.1 hx]; rfl)) (tk := .no) ((by rw [List.map_append]; exact (lell_map drop_le nids).app (.cons (move_le _) .nil))) (le_evid 1 [0, 1, 2, 3, 4] .full)) ?_
  simp only [sZ, initT, optI, splice, reduceIte, reduceCtorEq, Nat.reduceEqDiff, Nat.reduceAdd, Nat.reduceSub, Nat.reduceMul, Nat.reduceLeDiff, Nat.reduceLT, Int.reduceLT, Int.reduceLE, Int.reduceToNat, Int.reduceEq, Int.cast_ofNat_Int, k2, k3, k4, k5, h2, h7]
  refine ⟨.inl rfl, .inl rfl, trivial, by simp [len_nids], fun h => by simp [nids] at h, fun _ g3 hg3 => ?_⟩
  have u3 : k g3 = .unused := by first | exact e2.unused hg3 | exact e2'.unused hg3
  have e3 : KExt k (upd (upd (upd k' g1 .dead) g2 .live) g3 .live) := e2.old u3 _
  have e3' : KExt k (upd (upd (upd (upd k' g1 .live) g1 .dead) g2 .live) g3 .live) := e2'.old u3 _
  simp only [sZ, initT, optI, splice, reduceIte, reduceCtorEq, Nat.reduceEqDiff, Nat.reduceAdd, Nat.reduceSub, Nat.reduceMul, Nat.reduceLeDiff, Nat.reduceLT, Int.reduceLT, Int.reduceLE, Int.reduceToNat, Int.reduceEq, Int.cast_ofNat_Int, k2, k3, k4, k5, h2, h7, killT]
  refine ⟨.inl rfl, .inl rfl, ⟨rfl, by simp [upd_apply]⟩, by simp [len_nids], fun h => by simp [nids] at h, fun _ g4 hg4 => ?_⟩
  have e4a : KExt k (upd (upd (upd (upd k' g1 .dead) g2 .live) g3 .dead) g4 .live) ∧ k g4 = .unused := by
    have f1 : KExt k (upd (upd (upd k' g1 .dead) g2 .live) g3 .dead) := e2.old u3 _
    have f2 : KExt k (upd (upd (upd (upd k' g1 .dead) g2 .live) g3 .live) g3 .dead) := e3.old u3 _
    have f3 : KExt k (upd (upd (upd (upd (upd k' g1 .live) g1 .dead) g2 .live) g3 .live) g3 .dead) := e3'.old u3 _
    have u4 : k g4 = .unused := by first | exact f1.unused hg4 | exact f2.unused hg4 | exact f3.unused hg4 | exact e3.unused hg4 | exact e3'.unused hg4
    exact ⟨f1.old u4 _, u4⟩
  have u4 : k g4 = .unused := e4a.2
  have e4 := e4a.1
  simp only [sZ, initT, optI, splice, reduceIte, reduceCtorEq, Nat.reduceEqDiff, Nat.reduceAdd, Nat.reduceSub, Nat.reduceMul, Nat.reduceLeDiff, Nat.reduceLT, Int.reduceLT, Int.reduceLE, Int.reduceToNat, Int.reduceEq, Int.cast_ofNat_Int, k2, k3, k4, k5, h2, h7]
  refine callQS_quiet (acc_at (nids.map dropO ++ nids.map moveO) ⟨1, [0, 1, 2, 3, 4]⟩ false (by kernel_rfl) (by decide) (tg2 _ _ (tg _ fun _ => rfl) (tg _ fun _ => rfl)) (tk := .no) ((by rw [List.map_append]; exact (lell_map drop_le nids).app (lell_map move_le nids))) (le_evid 1 [0, 1, 2, 3, 4] .full)) ?_
  simp only [sZ, initT, optI, splice, reduceIte, reduceCtorEq, Nat.reduceEqDiff, Nat.reduceAdd, Nat.reduceSub, Nat.reduceMul, Nat.reduceLeDiff, Nat.reduceLT, Int.reduceLT, Int.reduceLE, Int.reduceToNat, Int.reduceEq, Int.cast_ofNat_Int, k2, k3, k4, k5, h2, h7]
  refine callS_quiet (acc_at (nids.map putO) ⟨4, [0, 1, 2, 3]⟩ true (by kernel_rfl) (by decide) (tg _ fun _ => rfl) (lell_map put_le nids) (le_evid 4 [0, 1, 2, 3] .full)) ?_
  simp only [sZ, initT, optI, splice, reduceIte, reduceCtorEq, Nat.reduceEqDiff, Nat.reduceAdd, Nat.reduceSub, Nat.reduceMul, Nat.reduceLeDiff, Nat.reduceLT, Int.reduceLT, Int.reduceLE, Int.reduceToNat, Int.reduceEq, Int.cast_ofNat_Int, k2, k3, k4, k5, h2, h7]
  refine callS_quiet (acc_at (nids.map putO) ⟨0, []⟩ false (by kernel_rfl) (by decide) (tg _ fun _ => rfl) (lell_map put_le nids) (le_evid 0 [] .nil)) ?_
  simp only [sZ, initT, optI, splice, reduceIte, reduceCtorEq, Nat.reduceEqDiff, Nat.reduceAdd, Nat.reduceSub, Nat.reduceMul, Nat.reduceLeDiff, Nat.reduceLT, Int.reduceLT, Int.reduceLE, Int.reduceToNat, Int.reduceEq, Int.cast_ofNat_Int, k2, k3, k4, k5, h2, h7]
  refine callS_quiet (acc_at (nids.map moveO) ⟨3, [0, 2, 4]⟩ true (by kernel_rfl) (by decide) (tg _ fun _ => rfl) (lell_map move_le nids) (le_evid 3 [0, 2, 4] .full)) ?_
  simp only [sZ, initT, optI, splice, reduceIte, reduceCtorEq, Nat.reduceEqDiff, Nat.reduceAdd, Nat.reduceSub, Nat.reduceMul, Nat.reduceLeDiff, Nat.reduceLT, Int.reduceLT, Int.reduceLE, Int.reduceToNat, Int.reduceEq, Int.cast_ofNat_Int, k2, k3, k4, k5, h2, h7]
  refine callS_quiet (acc_at (nids.map moveO) ⟨3, [0, 2]⟩ false (by kernel_rfl) (by decide) (tg _ fun _ => rfl) (lell_map move_le nids) (le_evid 3 [0, 2] .full)) ?_
  simp only [sZ, initT, optI, splice, reduceIte, reduceCtorEq, Nat.reduceEqDiff, Nat.reduceAdd, Nat.reduceSub, Nat.reduceMul, Nat.reduceLeDiff, Nat.reduceLT, Int.reduceLT, Int.reduceLE, Int.reduceToNat, Int.reduceEq, Int.cast_ofNat_Int, k2, k3, k4, k5, h2, h7]
  exact OutQ.eqk (by repeat (first | exact SExt.refl _ | (refine SExt.old ?_ (by first | (simp only [*]; done) | (simp only [upd_none]; assumption) | (simp only [upd_none, *, not_false_eq_true, and_self]; done)) _))) (by simpa only [killT, upd_upd] using e4) rfl
end Go.Pv
