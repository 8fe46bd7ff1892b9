/- The law's examples hold. -/
import Derived.Test.YtgmdhegbkbeihaaGreatLawP
set_option linter.unusedVariables false
set_option linter.unusedSimpArgs false
set_option maxRecDepth 4000
set_option maxHeartbeats 1000000
namespace Go.Pv
open Go

inductive A.lell : List (List A) → List (List A) → Prop where
  | nil : A.lell [] []
  | cons {c d : List A} {cs ds : List (List A)} : A.lel c d → A.lell cs ds → A.lell (c :: cs) (d :: ds)
theorem A.lell.get {cs ds : List (List A)} (h : A.lell cs ds) : cs.length = ds.length ∧ ∀ (i : Nat) (c d : List A), cs[i]? = some c → ds[i]? = some d → A.lel c d := by
  induction h with
  | nil => exact ⟨rfl, by simp⟩
  | cons hc _ ih =>
    refine ⟨by simp [ih.1], fun i c d h1 h2 => ?_⟩
    cases i with
    | zero => simp at h1 h2; subst h1 h2; exact hc
    | succ i => exact ih.2 i c d (by simpa using h1) (by simpa using h2)
theorem A.lell.le {cs ds : List (List A)} (h : A.lell cs ds) (esz : Nat) (t : Tok) : A.le (.sl esz cs t) (.sl esz ds .no) := A.le_sl h.get.1 h.get.2
theorem A.lell.app {cs ds es fs : List (List A)} (h : A.lell cs ds) (h' : A.lell es fs) : A.lell (cs ++ es) (ds ++ fs) := by
  induction h with
  | nil => exact h'
  | cons hc _ ih => exact .cons hc ih
theorem lell_map {f : ByteArray → List A} {g : ByteArray → Edit} (h : ∀ i, A.lel (f i) (encEdit (g i))) : ∀ l : List ByteArray, A.lell (l.map f) ((l.map g).map encEdit)
  | [] => .nil
  | x :: l => .cons (h x) (lell_map h l)
theorem le_evid (kd : Int) (es : List Int) (t : Tok) : A.lel [.int .i64 kd, .sl 1 (es.map encInt) t] (encEvid ⟨kd, es⟩) := .cons (A.le_refl _) (.cons (A.le_no _ _ _) .nil)
theorem acc_at (l : List Edit) (e : Evid) (b : Bool) (hb : acceptF nodesO l e = b) (hl : l.length ≤ 40) (ht : ∀ x ∈ l, x.obj.tags = []) {xs : List (List A)} {tk : Tok} (hx : A.lell xs (l.map encEdit)) {cs : List A} (hy : A.lel cs (encEvid e)) {s : Nat → Option Blk} {k : Nat → Tk} :
    Spec prg 22 [.agg [.sl 6 (nodesO.map encObj) .no], (A.sl 15 xs tk).strip, .agg cs] s k (.bool b) s k := by
  rw [← hb]
  refine Spec.args (spec8 nodesO l e (by decide) ?_ (by omega) ?_) (.cons (A.le_refl _) (.cons ((le_strip_no _ _ _).trans (hx.le 15 .no)) (.cons (A.le_agg hy) .nil)))
  · intro o ho
    simp only [nodesO, List.mem_map] at ho
    obtain ⟨j, _, rfl⟩ := ho
    exact (by decide : (0 : Nat) < 4611686018427387904)
  · intro x hx
    rw [ht x hx]
    decide
theorem spec6 {s : Nat → Option Blk} {k : Nat → Tk} : Spec prg 20 [] s k (.bool true) s k := by
  refine spec_tr prg_mixed tr_plaw32_head (Nat.le_of_ble_eq_true rfl) rfl ?_
  unfold pc_plaw32_head rs_plaw32_head
  simp only [pvZ, lz, nz, rr_one, upd_apply, upd_upd, initT, optI, splice, reduceIte, reduceCtorEq, Nat.reduceEqDiff, Nat.reduceAdd, Nat.reduceSub, Nat.reduceMul, Nat.reduceLeDiff, Nat.reduceLT, Int.reduceLT, Int.reduceLE, Int.reduceToNat, Int.reduceEq, Int.cast_ofNat_Int, and_true, not_false_eq_true, Option.map_none, Option.map_some, eq_self, true_or, or_true, Nat.sub_zero, Int.le_refl]
  refine callS_quiet spec13 ?_
  simp only [pvZ, lz, nz, rr_one, upd_apply, upd_upd, initT, optI, splice, reduceIte, reduceCtorEq, Nat.reduceEqDiff, Nat.reduceAdd, Nat.reduceSub, Nat.reduceMul, Nat.reduceLeDiff, Nat.reduceLT, Int.reduceLT, Int.reduceLE, Int.reduceToNat, Int.reduceEq, Int.cast_ofNat_Int, and_true, not_false_eq_true, Option.map_none, Option.map_some, eq_self, true_or, or_true, Nat.sub_zero, Int.le_refl, encMap]
  (with_reducible refine newS_in ?_); intro b2 h2; simp only [upd_none] at h2
  simp only [pvZ, lz, nz, rr_one, upd_apply, upd_upd, initT, optI, splice, reduceIte, reduceCtorEq, Nat.reduceEqDiff, Nat.reduceAdd, Nat.reduceSub, Nat.reduceMul, Nat.reduceLeDiff, Nat.reduceLT, Int.reduceLT, Int.reduceLE, Int.reduceToNat, Int.reduceEq, Int.cast_ofNat_Int, and_true, not_false_eq_true, Option.map_none, Option.map_some, eq_self, true_or, or_true, Nat.sub_zero, Int.le_refl]
  refine lists6 rfl rfl rfl rfl rfl (KExt.refl k) fun t' k' a b c hT k2 k3 k4 k5 => ?_
  simp only [upd_apply, Nat.reduceEqDiff, reduceIte] at k2
  simp only [pvZ, lz, nz, rr_one, upd_apply, upd_upd, initT, optI, splice, reduceIte, reduceCtorEq, Nat.reduceEqDiff, Nat.reduceAdd, Nat.reduceSub, Nat.reduceMul, Nat.reduceLeDiff, Nat.reduceLT, Int.reduceLT, Int.reduceLE, Int.reduceToNat, Int.reduceEq, Int.cast_ofNat_Int, and_true, not_false_eq_true, Option.map_none, Option.map_some, eq_self, true_or, or_true, Nat.sub_zero, Int.le_refl, k2, k3, k4, k5]
  (with_reducible refine newS_in ?_); intro b7 h7; simp only [upd_none] at h7
  simp only [pvZ, lz, nz, rr_one, upd_apply, upd_upd, initT, optI, splice, reduceIte, reduceCtorEq, Nat.reduceEqDiff, Nat.reduceAdd, Nat.reduceSub, Nat.reduceMul, Nat.reduceLeDiff, Nat.reduceLT, Int.reduceLT, Int.reduceLE, Int.reduceToNat, Int.reduceEq, Int.cast_ofNat_Int, and_true, not_false_eq_true, Option.map_none, Option.map_some, eq_self, true_or, or_true, Nat.sub_zero, Int.le_refl, k2, k3, k4, k5, *, -hT]
  have hm0 : (nids.map moveC)[0]? = some (moveC ⟨#[110, 49]⟩) := rfl
  have hm1 : List.map A.strip (List.take 15 (moveC ⟨#[110, 49]⟩)) = moveC ⟨#[110, 49]⟩ := rfl
  have hm2 : List.map A.strip (moveC ⟨#[110, 49]⟩) = moveC ⟨#[110, 49]⟩ := rfl
  have hm3 : (moveC ⟨#[110, 49]⟩).length = 15 := rfl
  have hz1 : ∀ es : List Int, es.map encInt = es.map fun i => [A.int .i64 i] := fun _ => rfl
  refine ⟨.inl rfl, .inl rfl, trivial, by simp [len_nids], fun h => by simp [nids] at h, fun _ g1 hg1 => ?_⟩
  simp only [pvZ, lz, nz, rr_one, upd_apply, upd_upd, initT, optI, splice, reduceIte, reduceCtorEq, Nat.reduceEqDiff, Nat.reduceAdd, Nat.reduceSub, Nat.reduceMul, Nat.reduceLeDiff, Nat.reduceLT, Int.reduceLT, Int.reduceLE, Int.reduceToNat, Int.reduceEq, Int.cast_ofNat_Int, and_true, not_false_eq_true, Option.map_none, Option.map_some, eq_self, true_or, or_true, Nat.sub_zero, Int.le_refl, k2, k3, k4, k5, h2, h7, hm0, hm1, hm2, hm3, killT]
  refine ⟨.inl rfl, .inl rfl, ⟨rfl, by simp [upd_apply]⟩, by simp [len_nids], fun h => by simp at h, fun _ g2 hg2 => ?_⟩
  simp only [pvZ, lz, nz, rr_one, upd_apply, upd_upd, initT, optI, splice, reduceIte, reduceCtorEq, Nat.reduceEqDiff, Nat.reduceAdd, Nat.reduceSub, Nat.reduceMul, Nat.reduceLeDiff, Nat.reduceLT, Int.reduceLT, Int.reduceLE, Int.reduceToNat, Int.reduceEq, Int.cast_ofNat_Int, and_true, not_false_eq_true, Option.map_none, Option.map_some, eq_self, true_or, or_true, Nat.sub_zero, Int.le_refl, k2, k3, k4, k5, h2, h7]
  have e0 : KExt k k' := hT.ext
  have u1 : k g1 = .unused := e0.unused hg1
  have e1 : KExt k (upd k' g1 .live) := e0.old u1 _
  have u2 : k g2 = .unused := e1.unused hg2
  have e2 : KExt k (upd (upd k' g1 .dead) g2 .live) := (e0.old u1 _).old u2 _
  have e2' : KExt k (upd (upd (upd k' g1 .live) g1 .dead) g2 .live) := (e1.old u1 _).old u2 _
  have tg : ∀ (f : ByteArray → Edit), (∀ i, (f i).obj.tags = []) → ∀ x ∈ nids.map f, x.obj.tags = [] := by
    intro f hf x hx
    obtain ⟨i, _, rfl⟩ := List.mem_map.1 hx
    exact hf i
  have tg2 : ∀ (l1 l2 : List Edit), (∀ x ∈ l1, x.obj.tags = []) → (∀ x ∈ l2, x.obj.tags = []) → ∀ x ∈ l1 ++ l2, x.obj.tags = [] := by
    intro l1 l2 h1 h2 x hx
    rcases List.mem_append.1 hx with h | h
    · exact h1 x h
    · exact h2 x h
  refine callQS_quiet (acc_at (nids.map dropO ++ [moveO ⟨#[110, 49]⟩]) ⟨1, [0, 1, 2, 3, 4]⟩ true (by kernel_rfl) (by decide) (tg2 _ _ (tg _ fun _ => rfl) (by intro x hx; rw [List.mem_singleton.1 hx]; rfl)) (tk := .no) ((by rw [List.map_append]; exact (lell_map drop_le nids).app (.cons (move_le _) .nil))) (le_evid 1 [0, 1, 2, 3, 4] .full)) ?_
  simp only [pvZ, lz, nz, rr_one, upd_apply, upd_upd, initT, optI, splice, reduceIte, reduceCtorEq, Nat.reduceEqDiff, Nat.reduceAdd, Nat.reduceSub, Nat.reduceMul, Nat.reduceLeDiff, Nat.reduceLT, Int.reduceLT, Int.reduceLE, Int.reduceToNat, Int.reduceEq, Int.cast_ofNat_Int, and_true, not_false_eq_true, Option.map_none, Option.map_some, eq_self, true_or, or_true, Nat.sub_zero, Int.le_refl, k2, k3, k4, k5, h2, h7]
  refine ⟨.inl rfl, .inl rfl, trivial, by simp [len_nids], fun h => by simp [nids] at h, fun _ g3 hg3 => ?_⟩
  have u3 : k g3 = .unused := by first | exact e2.unused hg3 | exact e2'.unused hg3
  have e3 : KExt k (upd (upd (upd k' g1 .dead) g2 .live) g3 .live) := e2.old u3 _
  have e3' : KExt k (upd (upd (upd (upd k' g1 .live) g1 .dead) g2 .live) g3 .live) := e2'.old u3 _
  simp only [pvZ, lz, nz, rr_one, upd_apply, upd_upd, initT, optI, splice, reduceIte, reduceCtorEq, Nat.reduceEqDiff, Nat.reduceAdd, Nat.reduceSub, Nat.reduceMul, Nat.reduceLeDiff, Nat.reduceLT, Int.reduceLT, Int.reduceLE, Int.reduceToNat, Int.reduceEq, Int.cast_ofNat_Int, and_true, not_false_eq_true, Option.map_none, Option.map_some, eq_self, true_or, or_true, Nat.sub_zero, Int.le_refl, k2, k3, k4, k5, h2, h7, killT]
  refine ⟨.inl rfl, .inl rfl, ⟨rfl, by simp [upd_apply]⟩, by simp [len_nids], fun h => by simp [nids] at h, fun _ g4 hg4 => ?_⟩
  have e4a : KExt k (upd (upd (upd (upd k' g1 .dead) g2 .live) g3 .dead) g4 .live) ∧ k g4 = .unused := by
    have f1 : KExt k (upd (upd (upd k' g1 .dead) g2 .live) g3 .dead) := e2.old u3 _
    have f2 : KExt k (upd (upd (upd (upd k' g1 .dead) g2 .live) g3 .live) g3 .dead) := e3.old u3 _
    have f3 : KExt k (upd (upd (upd (upd (upd k' g1 .live) g1 .dead) g2 .live) g3 .live) g3 .dead) := e3'.old u3 _
    have u4 : k g4 = .unused := by first | exact f1.unused hg4 | exact f2.unused hg4 | exact f3.unused hg4 | exact e3.unused hg4 | exact e3'.unused hg4
    exact ⟨f1.old u4 _, u4⟩
  have u4 : k g4 = .unused := e4a.2
  have e4 := e4a.1
  simp only [pvZ, lz, nz, rr_one, upd_apply, upd_upd, initT, optI, splice, reduceIte, reduceCtorEq, Nat.reduceEqDiff, Nat.reduceAdd, Nat.reduceSub, Nat.reduceMul, Nat.reduceLeDiff, Nat.reduceLT, Int.reduceLT, Int.reduceLE, Int.reduceToNat, Int.reduceEq, Int.cast_ofNat_Int, and_true, not_false_eq_true, Option.map_none, Option.map_some, eq_self, true_or, or_true, Nat.sub_zero, Int.le_refl, k2, k3, k4, k5, h2, h7]
  refine callQS_quiet (acc_at (nids.map dropO ++ nids.map moveO) ⟨1, [0, 1, 2, 3, 4]⟩ false (by kernel_rfl) (by decide) (tg2 _ _ (tg _ fun _ => rfl) (tg _ fun _ => rfl)) (tk := .no) ((by rw [List.map_append]; exact (lell_map drop_le nids).app (lell_map move_le nids))) (le_evid 1 [0, 1, 2, 3, 4] .full)) ?_
  simp only [pvZ, lz, nz, rr_one, upd_apply, upd_upd, initT, optI, splice, reduceIte, reduceCtorEq, Nat.reduceEqDiff, Nat.reduceAdd, Nat.reduceSub, Nat.reduceMul, Nat.reduceLeDiff, Nat.reduceLT, Int.reduceLT, Int.reduceLE, Int.reduceToNat, Int.reduceEq, Int.cast_ofNat_Int, and_true, not_false_eq_true, Option.map_none, Option.map_some, eq_self, true_or, or_true, Nat.sub_zero, Int.le_refl, k2, k3, k4, k5, h2, h7]
  refine callS_quiet (acc_at (nids.map putO) ⟨4, [0, 1, 2, 3]⟩ true (by kernel_rfl) (by decide) (tg _ fun _ => rfl) (lell_map put_le nids) (le_evid 4 [0, 1, 2, 3] .full)) ?_
  simp only [pvZ, lz, nz, rr_one, upd_apply, upd_upd, initT, optI, splice, reduceIte, reduceCtorEq, Nat.reduceEqDiff, Nat.reduceAdd, Nat.reduceSub, Nat.reduceMul, Nat.reduceLeDiff, Nat.reduceLT, Int.reduceLT, Int.reduceLE, Int.reduceToNat, Int.reduceEq, Int.cast_ofNat_Int, and_true, not_false_eq_true, Option.map_none, Option.map_some, eq_self, true_or, or_true, Nat.sub_zero, Int.le_refl, k2, k3, k4, k5, h2, h7]
  refine callS_quiet (acc_at (nids.map putO) ⟨0, []⟩ false (by kernel_rfl) (by decide) (tg _ fun _ => rfl) (lell_map put_le nids) (le_evid 0 [] .nil)) ?_
  simp only [pvZ, lz, nz, rr_one, upd_apply, upd_upd, initT, optI, splice, reduceIte, reduceCtorEq, Nat.reduceEqDiff, Nat.reduceAdd, Nat.reduceSub, Nat.reduceMul, Nat.reduceLeDiff, Nat.reduceLT, Int.reduceLT, Int.reduceLE, Int.reduceToNat, Int.reduceEq, Int.cast_ofNat_Int, and_true, not_false_eq_true, Option.map_none, Option.map_some, eq_self, true_or, or_true, Nat.sub_zero, Int.le_refl, k2, k3, k4, k5, h2, h7]
  refine callS_quiet (acc_at (nids.map moveO) ⟨3, [0, 2, 4]⟩ true (by kernel_rfl) (by decide) (tg _ fun _ => rfl) (lell_map move_le nids) (le_evid 3 [0, 2, 4] .full)) ?_
  simp only [pvZ, lz, nz, rr_one, upd_apply, upd_upd, initT, optI, splice, reduceIte, reduceCtorEq, Nat.reduceEqDiff, Nat.reduceAdd, Nat.reduceSub, Nat.reduceMul, Nat.reduceLeDiff, Nat.reduceLT, Int.reduceLT, Int.reduceLE, Int.reduceToNat, Int.reduceEq, Int.cast_ofNat_Int, and_true, not_false_eq_true, Option.map_none, Option.map_some, eq_self, true_or, or_true, Nat.sub_zero, Int.le_refl, k2, k3, k4, k5, h2, h7]
  refine callS_quiet (acc_at (nids.map moveO) ⟨3, [0, 2]⟩ false (by kernel_rfl) (by decide) (tg _ fun _ => rfl) (lell_map move_le nids) (le_evid 3 [0, 2] .full)) ?_
  simp only [pvZ, lz, nz, rr_one, upd_apply, upd_upd, initT, optI, splice, reduceIte, reduceCtorEq, Nat.reduceEqDiff, Nat.reduceAdd, Nat.reduceSub, Nat.reduceMul, Nat.reduceLeDiff, Nat.reduceLT, Int.reduceLT, Int.reduceLE, Int.reduceToNat, Int.reduceEq, Int.cast_ofNat_Int, and_true, not_false_eq_true, Option.map_none, Option.map_some, eq_self, true_or, or_true, Nat.sub_zero, Int.le_refl, k2, k3, k4, k5, h2, h7]
  exact OutQ.eqk (by repeat (first | exact SExt.refl _ | (refine SExt.old ?_ (by first | (simp only [*]; done) | (simp only [upd_none]; assumption) | (simp only [upd_none, *, not_false_eq_true, and_self]; done)) _))) (by simpa only [killT, upd_upd] using e4) rfl
end Go.Pv
