/- The nodes of the law's examples. -/
import Derived.Test.YtgmdhegbkbeihaaGreatLawL
set_option linter.unusedVariables false
set_option linter.unusedSimpArgs false
set_option maxRecDepth 4000
set_option maxHeartbeats 1000000
namespace Go.Pv
open Go

noncomputable def pc13L : PC := (.seq (.seq (.reg [⟨(.some 6), .none, (.mv (.t 4))⟩, ⟨(.some 7), .none, (.mv (.t 2))⟩, ⟨(.some 8), .none, (.len false (.t 7))⟩, ⟨(.some 9), .none, (.bin .lss (.t 6) (.t 8))⟩] false .none) (.cond (.t 9) .skip (.exit 0))) (.seq (.block 1 (.reg [⟨(.some 12), .none, (.fld 0 (.t 3))⟩, ⟨(.some 13), .none, (.load .none (.t 12))⟩, ⟨(.some 14), .none, (.mv (.t 2))⟩, ⟨(.some 15), .none, (.mv (.t 4))⟩, ⟨(.some 16), .none, (.idx 1 (.t 14) (.t 15))⟩, ⟨(.some 17), .none, (.load .none (.t 16))⟩, ⟨(.some 18), .none, (.mv (.t 4))⟩, ⟨(.some 19), .none, (.build [(.int .i64 0), (.int .i64 0)] [(0, (1, (.t 18)))])⟩, ⟨(.some 20), .none, (.build [(.str ⟨#[]⟩), (.int .i64 0), (.int .i64 0), (.int .i64 0), (.sl 1 [] .nil), (.sl 2 [] .nil)] [(0, (1, (.t 17))), (1, (1, (.c (.int .i64 1)))), (2, (2, (.t 19)))])⟩, ⟨(.some 21), .none, (.lit 6 42 [(.str ⟨#[]⟩), (.int .i64 0), (.int .i64 0), (.int .i64 0), (.sl 1 [] .nil), (.sl 2 [] .nil)] 1 [(0, (.t 20))])⟩, ⟨(.some 22), .none, (.app 6 42 88 (.t 13) (.t 21))⟩, ⟨(.some 23), .none, (.fld 0 (.t 3))⟩, ⟨.none, .none, (.store 1 (.t 23) (.t 22))⟩] true .none)) (.reg [⟨(.some 10), .none, (.mv (.t 4))⟩, ⟨(.some 11), .none, (.bin .add (.t 10) (.c (.int .i64 1)))⟩, ⟨(.some 4), .none, (.mv (.t 11))⟩] false .none)))
theorem A.le_sl {esz : Nat} {xs ys : List (List A)} {t : Tok} (hl : xs.length = ys.length) (h : ∀ (i : Nat) (c d : List A), xs[i]? = some c → ys[i]? = some d → A.lel c d) : A.le (.sl esz xs t) (.sl esz ys .no) := ⟨fun w E v hr => by
  cases hr with
  | sl _ _ _ ad c f h1 h2 h3 h4 h5 h6 h7 =>
    rw [hl]
    refine .sl esz ys .no ad c f (by omega) h2 (by simp) (by simp) ?_ (fun i j hi hj => h6 i j (by omega) hj) ?_
    · intro i d hd
      have hi : i < xs.length := by rw [hl]; exact (List.getElem?_eq_some_iff.1 hd).1
      have := (h i xs[i] d (List.getElem?_eq_getElem hi) hd).get.1
      rw [this]
      exact h5 i xs[i] (List.getElem?_eq_getElem hi)
    · intro i d j y hd hy
      have hi : i < xs.length := by rw [hl]; exact (List.getElem?_eq_some_iff.1 hd).1
      obtain ⟨x, hx, hxy⟩ := (h i xs[i] d (List.getElem?_eq_getElem hi) hd).get.2 j y hy
      exact hxy.rel _ _ _ (h7 i xs[i] j x (List.getElem?_eq_getElem hi) hx), by simp⟩
def nids : List ByteArray := [⟨#[110, 49]⟩, ⟨#[110, 50]⟩, ⟨#[110, 51]⟩, ⟨#[110, 52]⟩, ⟨#[110, 53]⟩]
def nodeC (i : ByteArray) (j : Nat) : List A := [.str i, .int .i64 1, .int .i64 j, .int .i64 0, .sl 1 [] .nil, .sl 2 [] .nil]
def nodesC (n : Nat) : List (List A) := (List.range n).map fun j => nodeC (nids.getD j ⟨#[]⟩) j
def nodesO : List Obj := (List.range 5).map fun j => ⟨nids.getD j ⟨#[]⟩, 1, j, 0, [], []⟩
theorem nodes_le : A.le (.agg [.sl 6 (nodesC 5) .no]) (.agg (encMap nodesO)) := by
  refine A.le_agg (.cons (A.le_sl rfl ?_) .nil)
  intro i c d hc hd
  simp only [nodesC, nodesO, List.map_map, List.getElem?_map, Option.map_eq_some_iff] at hc hd
  obtain ⟨a, ha, rfl⟩ := hc
  obtain ⟨b, hb, rfl⟩ := hd
  rw [ha] at hb
  cases hb
  exact .cons (A.le_refl _) (.cons (A.le_refl _) (.cons (A.le_refl _) (.cons (A.le_refl _) (.cons (A.le_empty _ _ _) (.cons (A.le_empty _ _ _) .nil)))))
theorem spec13 {s : Nat → Option Blk} {k : Nat → Tk} : Spec prg 47 [] s k (.tup [.sl 1 (nids.map encStr) .no, .agg (encMap nodesO)]) s k := by
  refine spec_tr prg_mixed tr_plaw32_nodes (Nat.le_of_ble_eq_true rfl) rfl ?_
  unfold pc_plaw32_nodes rs_plaw32_nodes
  simp only [pvZ, lz, nz, rr_one, upd_apply, upd_upd, initT, optI, splice, reduceIte, reduceCtorEq, Nat.reduceEqDiff, Nat.reduceAdd, Nat.reduceSub, Nat.reduceMul, Nat.reduceLeDiff, Nat.reduceLT, Int.reduceLT, Int.reduceLE, Int.reduceToNat, Int.reduceEq, Int.cast_ofNat_Int, and_true, not_false_eq_true, Option.map_none, Option.map_some, eq_self, true_or, or_true, Nat.sub_zero, Int.le_refl]
  (with_reducible refine newS_in ?_); intro b1 h1; simp only [upd_none] at h1
  simp only [pvZ, lz, nz, rr_one, upd_apply, upd_upd, initT, optI, splice, reduceIte, reduceCtorEq, Nat.reduceEqDiff, Nat.reduceAdd, Nat.reduceSub, Nat.reduceMul, Nat.reduceLeDiff, Nat.reduceLT, Int.reduceLT, Int.reduceLE, Int.reduceToNat, Int.reduceEq, Int.cast_ofNat_Int, and_true, not_false_eq_true, Option.map_none, Option.map_some, eq_self, true_or, or_true, Nat.sub_zero, Int.le_refl]
  (with_reducible refine newS_in ?_); intro b3 h3; simp only [upd_none] at h3
  simp only [pvZ, lz, nz, rr_one, upd_apply, upd_upd, initT, optI, splice, reduceIte, reduceCtorEq, Nat.reduceEqDiff, Nat.reduceAdd, Nat.reduceSub, Nat.reduceMul, Nat.reduceLeDiff, Nat.reduceLT, Int.reduceLT, Int.reduceLE, Int.reduceToNat, Int.reduceEq, Int.cast_ofNat_Int, and_true, not_false_eq_true, Option.map_none, Option.map_some, eq_self, true_or, or_true, Nat.sub_zero, Int.le_refl]
  have hids : [[A.str ⟨#[110, 49]⟩], [A.str ⟨#[110, 50]⟩], [A.str ⟨#[110, 51]⟩], [A.str ⟨#[110, 52]⟩], [A.str ⟨#[110, 53]⟩]] = nids.map encStr := rfl
  refine loop_intro (fun n st => ∃ (j : Nat) (tok : Tok), st.s = upd (upd s b1 (some (.cells [.sl 6 [] .nil]))) b3 (some (.cells [.sl 6 (nodesC j) tok])) ∧ KExt k st.k ∧ st.t 1 = .ptr b1 0 ∧ st.t 2 = .sl 1 (nids.map encStr) .full ∧ st.t 3 = .ptr b3 0 ∧ st.t 4 = .int .i64 j ∧ n = 5 - j ∧ j ≤ 5 ∧
    ((tok = .nil ∧ j = 0) ∨ ∃ g, tok = .own g 42 ∧ st.k g = .live ∧ k g = .unused)) 5 ?_ ?_
  · exact ⟨0, .nil, rfl, KExt.refl _, rfl, rfl, rfl, rfl, rfl, by omega, .inl ⟨rfl, rfl⟩⟩
  · rintro n ⟨t1, s1, k1⟩ ⟨j, tok, hs1, hk1, g1, g2, g3, g4, rfl, hj, htok⟩
    dsimp only at hs1 hk1 g1 g2 g3 g4 htok
    subst hs1
    have hlen : nids.length = 5 := rfl
    simp only [pvZ, lz, nz, rr_one, upd_apply, upd_upd, initT, optI, splice, reduceIte, reduceCtorEq, Nat.reduceEqDiff, Nat.reduceAdd, Nat.reduceSub, Nat.reduceMul, Nat.reduceLeDiff, Nat.reduceLT, Int.reduceLT, Int.reduceLE, Int.reduceToNat, Int.reduceEq, Int.cast_ofNat_Int, and_true, not_false_eq_true, Option.map_none, Option.map_some, eq_self, true_or, or_true, Nat.sub_zero, Int.le_refl, g2, g4, hlen]
    refine brC_in (fun hlt => ?_) (fun hge => ?_)
    · have hj' : j < 5 := by simp at hlt; omega
      have hg : (nids.map encStr)[j]? = some (encStr nids[j]) := strE.get (by omega)
      simp only [pvZ, lz, nz, rr_one, upd_apply, upd_upd, initT, optI, splice, reduceIte, reduceCtorEq, Nat.reduceEqDiff, Nat.reduceAdd, Nat.reduceSub, Nat.reduceMul, Nat.reduceLeDiff, Nat.reduceLT, Int.reduceLT, Int.reduceLE, Int.reduceToNat, Int.reduceEq, Int.cast_ofNat_Int, and_true, not_false_eq_true, Option.map_none, Option.map_some, eq_self, true_or, or_true, Nat.sub_zero, Int.le_refl, g1, g2, g3, g4, hg, get_str]
      refine ⟨?_, .inl rfl, ?_, ?_, fun h => by simp at h, fun _ g hg => ?_⟩
      · exact .inl rfl
      · rcases htok with ⟨rfl, _⟩ | ⟨g, rfl, hg, _⟩
        · trivial
        · exact ⟨rfl, hg⟩
      · simp [nodesC]
        omega
      · simp only [pvZ, lz, nz, rr_one, upd_apply, upd_upd, initT, optI, splice, reduceIte, reduceCtorEq, Nat.reduceEqDiff, Nat.reduceAdd, Nat.reduceSub, Nat.reduceMul, Nat.reduceLeDiff, Nat.reduceLT, Int.reduceLT, Int.reduceLE, Int.reduceToNat, Int.reduceEq, Int.cast_ofNat_Int, and_true, not_false_eq_true, Option.map_none, Option.map_some, eq_self, true_or, or_true, Nat.sub_zero, Int.le_refl, g1, g2, g3, g4]
        refine nextQ_normal (5 - (j + 1)) (by omega) (St.le_refl _) ⟨j + 1, .own g 42, ?_, ?_, ?_, ?_, ?_, ?_, rfl, by omega, .inr ⟨g, rfl, by simp [upd_apply], hk1.unused hg⟩⟩
        · have hx : nodesC (j + 1) = nodesC j ++ [nodeC nids[j] j] := by
            simp only [nodesC, List.range_succ, List.map_append, List.map_cons, List.map_nil]
            rw [show nids.getD j ⟨#[]⟩ = nids[j] by rw [List.getD_eq_getElem?_getD, List.getElem?_eq_getElem (by omega)]; rfl]
          rw [hx]
          rfl
        · refine KExt.old ?_ (hk1.unused hg) _
          rcases htok with ⟨rfl, _⟩ | ⟨g', rfl, _, hu⟩
          · exact hk1
          · exact hk1.old hu _
        · simp only [upd_apply, Nat.reduceEqDiff, reduceIte]; exact g1
        · simp only [upd_apply, Nat.reduceEqDiff, reduceIte]; exact g2
        · simp only [upd_apply, Nat.reduceEqDiff, reduceIte]; exact g3
        · simp only [upd_apply, Nat.reduceEqDiff, reduceIte]
          rw [wrap64 (by omega) (by omega)]
          rfl
    · have hj' : j = 5 := by simp at hge; omega
      subst hj'
      simp only [pvZ, lz, nz, rr_one, upd_apply, upd_upd, initT, optI, splice, reduceIte, reduceCtorEq, Nat.reduceEqDiff, Nat.reduceAdd, Nat.reduceSub, Nat.reduceMul, Nat.reduceLeDiff, Nat.reduceLT, Int.reduceLT, Int.reduceLE, Int.reduceToNat, Int.reduceEq, Int.cast_ofNat_Int, and_true, not_false_eq_true, Option.map_none, Option.map_some, eq_self, true_or, or_true, Nat.sub_zero, Int.le_refl, g1, g2, g3, g4, h3]
      rcases htok with ⟨_, h⟩ | ⟨g, rfl, _⟩
      · exact absurd h (by decide)
      · exact OutQ.lek (by repeat (first | exact SExt.refl _ | (refine SExt.old ?_ (by first | (simp only [*]; done) | (simp only [upd_none]; assumption) | (simp only [upd_none, *, not_false_eq_true, and_self]; done)) _))) hk1 (A.le_tup (.cons (A.le_no _ _ _) (.cons nodes_le .nil)))
end Go.Pv
