/- VerifyExact: the law returns true. -/
import Derived.Test.YtgmdhegbkbeihaaExP
set_option linter.unusedVariables false
set_option linter.unusedSimpArgs false
set_option maxRecDepth 4000
set_option maxHeartbeats 2000000
namespace Go.Pv
open Go

theorem mod_int (r n : Nat) (h : 0 < n) : ((r : Int)).tmod (n : Int) = ((r % n : Nat) : Int) := by
  rw [Int.tmod_eq_emod_of_nonneg (by omega)]
  omega
theorem spec4 (m : List Obj) (l : List Edit) (e : Evid) (raw : Int) (hr0 : 0 ≤ raw) (hr1 : raw < 256) {s : Nat → Option Blk} {k : Nat → Tk} : Spec prg 4 [.agg (encMap m), .sl 15 (l.map encEdit) .no, .agg (encEvid e), .int .u8 raw] s k (.bool true) s k := by
  refine spec_tr prg_mixed tr_plaw32_VerifyExact (Nat.le_of_ble_eq_true rfl) rfl ?_
  unfold pc_plaw32_VerifyExact rs_plaw32_VerifyExact
  obtain ⟨kd, es⟩ := e
  obtain ⟨r, rfl⟩ : ∃ r : Nat, raw = r := ⟨raw.toNat, by omega⟩
  have h7 := fun s k => @spec7 m l ⟨kd, es⟩ s k
  simp only [encMap, encEvid] at h7
  have h8 := fun l' es' s k => @spec8 m l' ⟨kd, es'⟩ s k
  simp only [pvZ, lz, nz, rr_one, upd_apply, upd_upd, initT, optI, splice, reduceIte, reduceCtorEq, Nat.reduceEqDiff, Nat.reduceAdd, Nat.reduceSub, Nat.reduceMul, Nat.reduceLeDiff, Nat.reduceLT, Int.reduceLT, Int.reduceLE, Int.reduceToNat, Int.reduceEq, Int.cast_ofNat_Int, and_true, not_false_eq_true, Option.map_none, Option.map_some, eq_self, true_or, or_true, Nat.sub_zero, Int.le_refl, encMap, encEvid]
  (with_reducible refine newS_in ?_); intro i4 f4; simp only [upd_none] at f4
  simp only [pvZ, lz, nz, rr_one, upd_apply, upd_upd, initT, optI, splice, reduceIte, reduceCtorEq, Nat.reduceEqDiff, Nat.reduceAdd, Nat.reduceSub, Nat.reduceMul, Nat.reduceLeDiff, Nat.reduceLT, Int.reduceLT, Int.reduceLE, Int.reduceToNat, Int.reduceEq, Int.cast_ofNat_Int, and_true, not_false_eq_true, Option.map_none, Option.map_some, eq_self, true_or, or_true, Nat.sub_zero, Int.le_refl]
  (with_reducible refine newS_in ?_); intro i6 f6; simp only [upd_none] at f6
  repeat' (first | (refine callS_quiet (spec6) ?_) | (refine callS_quiet (h7 _ _) ?_) | (first | (with_reducible refine newS_in ?_; intro _ hid_; simp only [upd_none] at hid_) | (with_reducible refine newR_in ?_; intro _ hid_ hih_; simp only [upd_none, upd_none', rr_eqs2, and_true] at hid_ hih_) | (with_reducible refine mkmS_in ?_; intro _ hid_; simp only [upd_none] at hid_)) | (with_reducible refine brC_in (fun h_ => ?_) (fun h_ => ?_)) | (with_reducible refine brG_in (fun h_ => ?_) (fun h_ => ?_)) | (with_reducible refine brN_in (fun h_ => ?_) (fun h_ => ?_)) | simp only [pvZ, lz, nz, rr_one, upd_apply, upd_upd, initT, optI, splice, reduceIte, reduceCtorEq, Nat.reduceEqDiff, Nat.reduceAdd, Nat.reduceSub, Nat.reduceMul, Nat.reduceLeDiff, Nat.reduceLT, Int.reduceLT, Int.reduceLE, Int.reduceToNat, Int.reduceEq, Int.cast_ofNat_Int, and_true, not_false_eq_true, Option.map_none, Option.map_some, eq_self, true_or, or_true, Nat.sub_zero, Int.le_refl, *, -h7, -h8])
  all_goals first | (refine OutQ.eq (by repeat (first | exact SExt.refl _ | (refine SExt.old ?_ (by first | (simp only [*]; done) | (simp only [upd_none]; assumption) | (simp only [upd_none, *, not_false_eq_true, and_self]; done)) _))) rfl; done) | skip
  have hfw := h_
  clear h_
  have hb : fewA m l ⟨kd, es⟩ = true := by simpa using hfw
  obtain ⟨b1, b2, b3, b4, b5⟩ := few_bounds hb
  dsimp only at b3
  simp only [encMap, encEvid] at h8
  have h8' : ∀ es' s k, Spec prg 8 [.agg [.sl 6 (m.map encObj) .no], .sl 15 (l.map encEdit) .no, .agg [.int .i64 kd, .sl 1 (es'.map encInt) .no]] s k (.bool (acceptF m l ⟨kd, es'⟩)) s k := fun es' s k =>
    h8 l es' s k (by omega) (fun o ho => by have := b4 o ho; omega) (by omega) (fun o ho => by have := b5 o ho; omega)
  clear h7 hfw hb h8
  refine callS_quiet (h8' es _ _) ?_
  simp only [pvZ, lz, nz, rr_one, upd_apply, upd_upd, initT, optI, splice, reduceIte, reduceCtorEq, Nat.reduceEqDiff, Nat.reduceAdd, Nat.reduceSub, Nat.reduceMul, Nat.reduceLeDiff, Nat.reduceLT, Int.reduceLT, Int.reduceLE, Int.reduceToNat, Int.reduceEq, Int.cast_ofNat_Int, and_true, not_false_eq_true, Option.map_none, Option.map_some, eq_self, true_or, or_true, Nat.sub_zero, Int.le_refl, f4, f6]
  refine brC_in (fun hna => ?_) (fun hna => ?_)
  · simp only [pvZ, lz, nz, rr_one, upd_apply, upd_upd, initT, optI, splice, reduceIte, reduceCtorEq, Nat.reduceEqDiff, Nat.reduceAdd, Nat.reduceSub, Nat.reduceMul, Nat.reduceLeDiff, Nat.reduceLT, Int.reduceLT, Int.reduceLE, Int.reduceToNat, Int.reduceEq, Int.cast_ofNat_Int, and_true, not_false_eq_true, Option.map_none, Option.map_some, eq_self, true_or, or_true, Nat.sub_zero, Int.le_refl]
    refine OutQ.eq (by repeat (first | exact SExt.refl _ | (refine SExt.old ?_ (by first | (simp only [*]; done) | (simp only [upd_none]; assumption) | (simp only [upd_none, *, not_false_eq_true, and_self]; done)) _))) rfl
  have hacc : acceptF m l ⟨kd, es⟩ = true := by simpa using hna
  clear hna
  obtain ⟨q1, q2, q3, q4, q5⟩ := accept_true hacc
  have e3 : ¬ ((es.length : Int) < 3) := by omega
  have e5 : ¬ (5 < (es.length : Int)) := by omega
  have e0 : ¬ ((es.length : Int) = 0) := by omega
  have hwr : IntKind.i64.wrap (r : Int) = r := wrap64 (by omega) (by omega)
  have hmod : ((r : Int)).tmod (es.length : Int) = ((r % es.length : Nat) : Int) := mod_int r es.length (by omega)
  generalize hkk : r % es.length = kk at hmod
  have hkl : kk < es.length := by rw [← hkk]; exact Nat.mod_lt _ (by omega)
  have hwk : IntKind.i64.wrap ((kk : Int) + 1) = ((kk + 1 : Nat) : Int) := wrap64 (by omega) (by omega)
  have s1 : (0 : Int) ≤ (kk : Int) := by omega
  have s2 : (kk : Int) ≤ (es.length : Int) := by omega
  have s3 : ((kk + 1 : Nat) : Int) ≤ (es.length : Int) := by omega
  have s4 : (0 : Int) ≤ ((kk + 1 : Nat) : Int) := by omega
  have s5 : ((es.length : Int)).toNat = es.length := by omega
  have ht1 : List.take kk (es.map encInt) = (es.take kk).map encInt := (List.map_take ..).symm
  have ht2 : List.take (es.length - (kk + 1)) (List.drop (kk + 1) (es.map encInt)) = (es.drop (kk + 1)).map encInt := by
    rw [← List.map_drop, List.take_of_length_le (by simp)]
  have ht3 : List.take (kk + 1) (es.map encInt) = (es.take (kk + 1)).map encInt := (List.map_take ..).symm
  have ht4 : List.take (es.length - kk) (List.drop kk (es.map encInt)) = (es.drop kk).map encInt := by
    rw [← List.map_drop, List.take_of_length_le (by simp)]
  simp only [pvZ, lz, nz, rr_one, upd_apply, upd_upd, initT, optI, splice, reduceIte, reduceCtorEq, Nat.reduceEqDiff, Nat.reduceAdd, Nat.reduceSub, Nat.reduceMul, Nat.reduceLeDiff, Nat.reduceLT, Int.reduceLT, Int.reduceLE, Int.reduceToNat, Int.reduceEq, Int.cast_ofNat_Int, and_true, not_false_eq_true, Option.map_none, Option.map_some, eq_self, true_or, or_true, Nat.sub_zero, Int.le_refl, f4, f6, e3, e5, e0, hwr, hmod, hwk, s1, s2, s3, s4, ht1]
  refine app_in (KExt.refl _) (.inr (.inl rfl)) (by simp; omega) fun tok1 k1 hk1 htok1 => ?_
  simp only [pvZ, lz, nz, rr_one, upd_apply, upd_upd, initT, optI, splice, reduceIte, reduceCtorEq, Nat.reduceEqDiff, Nat.reduceAdd, Nat.reduceSub, Nat.reduceMul, Nat.reduceLeDiff, Nat.reduceLT, Int.reduceLT, Int.reduceLE, Int.reduceToNat, Int.reduceEq, Int.cast_ofNat_Int, and_true, not_false_eq_true, Option.map_none, Option.map_some, eq_self, true_or, or_true, Nat.sub_zero, Int.le_refl, f4, f6, hwk, s1, s2, s3, s4, ht2]
  refine app_in hk1 htok1 (by simp; omega) fun tok2 k2 hk2 htok2 => ?_
  simp only [pvZ, lz, nz, rr_one, upd_apply, upd_upd, initT, optI, splice, reduceIte, reduceCtorEq, Nat.reduceEqDiff, Nat.reduceAdd, Nat.reduceSub, Nat.reduceMul, Nat.reduceLeDiff, Nat.reduceLT, Int.reduceLT, Int.reduceLE, Int.reduceToNat, Int.reduceEq, Int.cast_ofNat_Int, and_true, not_false_eq_true, Option.map_none, Option.map_some, eq_self, true_or, or_true, Nat.sub_zero, Int.le_refl, f4, f6, hwk, s1, s2, s3, s4]
  (with_reducible refine newS_in ?_); intro i12 f12; simp only [upd_none] at f12
  simp only [pvZ, lz, nz, rr_one, upd_apply, upd_upd, initT, optI, splice, reduceIte, reduceCtorEq, Nat.reduceEqDiff, Nat.reduceAdd, Nat.reduceSub, Nat.reduceMul, Nat.reduceLeDiff, Nat.reduceLT, Int.reduceLT, Int.reduceLE, Int.reduceToNat, Int.reduceEq, Int.cast_ofNat_Int, and_true, not_false_eq_true, Option.map_none, Option.map_some, eq_self, true_or, or_true, Nat.sub_zero, Int.le_refl, f4, f6, f12, hwk, s1, s2, s3, s4, ht3]
  refine app_in hk2 (.inr (.inl rfl)) (by simp; omega) fun tok3 k3 hk3 htok3 => ?_
  simp only [pvZ, lz, nz, rr_one, upd_apply, upd_upd, initT, optI, splice, reduceIte, reduceCtorEq, Nat.reduceEqDiff, Nat.reduceAdd, Nat.reduceSub, Nat.reduceMul, Nat.reduceLeDiff, Nat.reduceLT, Int.reduceLT, Int.reduceLE, Int.reduceToNat, Int.reduceEq, Int.cast_ofNat_Int, and_true, not_false_eq_true, Option.map_none, Option.map_some, eq_self, true_or, or_true, Nat.sub_zero, Int.le_refl, f4, f6, f12, hwk, s1, s2, s3, s4, ht4]
  refine app_in hk3 htok3 (by simp; omega) fun tok4 k4 hk4 htok4 => ?_
  simp only [pvZ, lz, nz, rr_one, upd_apply, upd_upd, initT, optI, splice, reduceIte, reduceCtorEq, Nat.reduceEqDiff, Nat.reduceAdd, Nat.reduceSub, Nat.reduceMul, Nat.reduceLeDiff, Nat.reduceLT, Int.reduceLT, Int.reduceLE, Int.reduceToNat, Int.reduceEq, Int.cast_ofNat_Int, and_true, not_false_eq_true, Option.map_none, Option.map_some, eq_self, true_or, or_true, Nat.sub_zero, Int.le_refl, f4, f6, f12, hwk, s1, s2, s3, s4]
  (with_reducible refine newS_in ?_); intro i13 f13; simp only [upd_none] at f13
  simp only [pvZ, lz, nz, rr_one, upd_apply, upd_upd, initT, optI, splice, reduceIte, reduceCtorEq, Nat.reduceEqDiff, Nat.reduceAdd, Nat.reduceSub, Nat.reduceMul, Nat.reduceLeDiff, Nat.reduceLT, Int.reduceLT, Int.reduceLE, Int.reduceToNat, Int.reduceEq, Int.cast_ofNat_Int, and_true, not_false_eq_true, Option.map_none, Option.map_some, eq_self, true_or, or_true, Nat.sub_zero, Int.le_refl, f4, f6, f12, f13, hwk, s1, s2, s3, s4]
  have hne : es.map encInt ≠ [] := by
    intro h
    rw [List.map_eq_nil_iff] at h
    rw [h] at q2
    simp at q2
  have hn1 : es.length - 1 < es.length := by omega
  have hw1 : IntKind.i64.wrap ((es.length : Int) - 1) = ((es.length - 1 : Nat) : Int) := by rw [wrap64 (by omega) (by omega)]; omega
  have hw2 : IntKind.i64.wrap ((l.length : Int) + r) = (l.length : Int) + r := wrap64 (by omega) (by omega)
  have hw3 : IntKind.i64.wrap (-1 - (r : Int)) = -1 - r := wrap64 (by omega) (by omega)
  have s6 : ((es.length - 1 : Nat) : Int) < (es.length : Int) := by omega
  have s7 : (0 : Int) < (es.length : Int) := by omega
  have s8 : (kk : Int) < (es.length : Int) := by omega
  have h0l : 0 < es.length := by omega
  -- far
  refine ⟨⟨.inl rfl, .inl rfl, .inr rfl, by simp; omega, by decide, hne⟩, fun c a14 ha14 hh14 => ?_⟩
  simp only [upd_none] at ha14
  simp only [pvZ, lz, nz, rr_one, upd_apply, upd_upd, initT, optI, reduceIte, reduceCtorEq, Nat.reduceEqDiff, Nat.reduceAdd, Nat.reduceSub, Nat.reduceMul, Nat.reduceLeDiff, Nat.reduceLT, Int.reduceLT, Int.reduceLE, Int.reduceToNat, Int.reduceEq, Int.cast_ofNat_Int, and_true, not_false_eq_true, Option.map_none, Option.map_some, eq_self, true_or, or_true, Nat.sub_zero, Int.le_refl, f4, f6, f12, f13, ha14, flatS_ints]
  generalize List.replicate _ A.undef = R14
  simp only [pvZ, lz, nz, rr_one, upd_apply, upd_upd, initT, optI, splice, reduceIte, reduceCtorEq, Nat.reduceEqDiff, Nat.reduceAdd, Nat.reduceSub, Nat.reduceMul, Nat.reduceLeDiff, Nat.reduceLT, Int.reduceLT, Int.reduceLE, Int.reduceToNat, Int.reduceEq, Int.cast_ofNat_Int, and_true, not_false_eq_true, Option.map_none, Option.map_some, eq_self, true_or, or_true, Nat.sub_zero, Int.le_refl, f4, f6, f12, f13, ha14]
  refine newR_in ?_
  intro b14 hb14 hc14
  simp only [upd_none, rr_eqs2, and_true] at hb14 hc14
  simp only [pvZ, lz, nz, rr_one, upd_apply, upd_upd, initT, optI, splice, reduceIte, reduceCtorEq, Nat.reduceEqDiff, Nat.reduceAdd, Nat.reduceSub, Nat.reduceMul, Nat.reduceLeDiff, Nat.reduceLT, Int.reduceLT, Int.reduceLE, Int.reduceToNat, Int.reduceEq, Int.cast_ofNat_Int, and_true, not_false_eq_true, Option.map_none, Option.map_some, eq_self, true_or, or_true, Nat.sub_zero, Int.le_refl, f4, f6, f12, f13, ha14, hb14, hc14]
  simp only [pvZ, lz, nz, rr_one, upd_apply, upd_upd, initT, optI, reduceIte, reduceCtorEq, Nat.reduceEqDiff, Nat.reduceAdd, Nat.reduceSub, Nat.reduceMul, Nat.reduceLeDiff, Nat.reduceLT, Int.reduceLT, Int.reduceLE, Int.reduceToNat, Int.reduceEq, Int.cast_ofNat_Int, and_true, not_false_eq_true, Option.map_none, Option.map_some, eq_self, true_or, or_true, Nat.sub_zero, Int.le_refl, f4, f6, f12, f13, ha14, hb14, hc14, hw1, hw2, s6, Nat.mul_one, hwr, splice_ints es R14 hn1, fits_ints es R14 hn1]
  generalize hfar : es.set (es.length - 1) ((l.length : Int) + r) = esF
  -- below
  refine ⟨⟨.inl rfl, .inl rfl, .inr rfl, by simp; omega, by decide, hne⟩, fun c' a15 ha15 hh15 => ?_⟩
  simp only [upd_none] at ha15
  simp only [pvZ, lz, nz, rr_one, upd_apply, upd_upd, initT, optI, reduceIte, reduceCtorEq, Nat.reduceEqDiff, Nat.reduceAdd, Nat.reduceSub, Nat.reduceMul, Nat.reduceLeDiff, Nat.reduceLT, Int.reduceLT, Int.reduceLE, Int.reduceToNat, Int.reduceEq, Int.cast_ofNat_Int, and_true, not_false_eq_true, Option.map_none, Option.map_some, eq_self, true_or, or_true, Nat.sub_zero, Int.le_refl, f4, f6, f12, f13, ha14, hb14, hc14, ha15, flatS_ints]
  generalize List.replicate _ A.undef = R15
  simp only [pvZ, lz, nz, rr_one, upd_apply, upd_upd, initT, optI, splice, reduceIte, reduceCtorEq, Nat.reduceEqDiff, Nat.reduceAdd, Nat.reduceSub, Nat.reduceMul, Nat.reduceLeDiff, Nat.reduceLT, Int.reduceLT, Int.reduceLE, Int.reduceToNat, Int.reduceEq, Int.cast_ofNat_Int, and_true, not_false_eq_true, Option.map_none, Option.map_some, eq_self, true_or, or_true, Nat.sub_zero, Int.le_refl, f4, f6, f12, f13, ha14, hb14, hc14, ha15]
  refine newR_in ?_
  intro b15 hb15 hc15
  simp only [upd_none, rr_eqs2, and_true] at hb15 hc15
  simp only [pvZ, lz, nz, rr_one, upd_apply, upd_upd, initT, optI, splice, reduceIte, reduceCtorEq, Nat.reduceEqDiff, Nat.reduceAdd, Nat.reduceSub, Nat.reduceMul, Nat.reduceLeDiff, Nat.reduceLT, Int.reduceLT, Int.reduceLE, Int.reduceToNat, Int.reduceEq, Int.cast_ofNat_Int, and_true, not_false_eq_true, Option.map_none, Option.map_some, eq_self, true_or, or_true, Nat.sub_zero, Int.le_refl, f4, f6, f12, f13, ha14, hb14, hc14, ha15, hb15, hc15, hwr]
  simp only [pvZ, lz, nz, rr_one, upd_apply, upd_upd, initT, optI, reduceIte, reduceCtorEq, Nat.reduceEqDiff, Nat.reduceAdd, Nat.reduceSub, Nat.reduceMul, Nat.reduceLeDiff, Nat.reduceLT, Int.reduceLT, Int.reduceLE, Int.reduceToNat, Int.reduceEq, Int.cast_ofNat_Int, and_true, not_false_eq_true, Option.map_none, Option.map_some, eq_self, true_or, or_true, Nat.sub_zero, Int.le_refl, f4, f6, f12, f13, ha14, hb14, hc14, ha15, hb15, hc15, hwr, hw3, s7, Nat.zero_mul, splice_ints es R15 h0l, fits_ints es R15 h0l]
  generalize hbel : es.set 0 (-1 - (r : Int)) = esB
  -- swapped
  refine ⟨⟨.inl rfl, .inl rfl, .inr rfl, by simp; omega, by decide, hne⟩, fun c2 a16 ha16 hh16 => ?_⟩
  simp only [upd_none] at ha16
  simp only [pvZ, lz, nz, rr_one, upd_apply, upd_upd, initT, optI, reduceIte, reduceCtorEq, Nat.reduceEqDiff, Nat.reduceAdd, Nat.reduceSub, Nat.reduceMul, Nat.reduceLeDiff, Nat.reduceLT, Int.reduceLT, Int.reduceLE, Int.reduceToNat, Int.reduceEq, Int.cast_ofNat_Int, and_true, not_false_eq_true, Option.map_none, Option.map_some, eq_self, true_or, or_true, Nat.sub_zero, Int.le_refl, f4, f6, f12, f13, ha14, hb14, hc14, ha15, hb15, hc15, ha16, flatS_ints]
  generalize List.replicate _ A.undef = R16
  simp only [pvZ, lz, nz, rr_one, upd_apply, upd_upd, initT, optI, splice, reduceIte, reduceCtorEq, Nat.reduceEqDiff, Nat.reduceAdd, Nat.reduceSub, Nat.reduceMul, Nat.reduceLeDiff, Nat.reduceLT, Int.reduceLT, Int.reduceLE, Int.reduceToNat, Int.reduceEq, Int.cast_ofNat_Int, and_true, not_false_eq_true, Option.map_none, Option.map_some, eq_self, true_or, or_true, Nat.sub_zero, Int.le_refl, f4, f6, f12, f13, ha14, hb14, hc14, ha15, hb15, hc15, ha16]
  refine newR_in ?_
  intro b16 hb16 hc16
  simp only [upd_none, rr_eqs2, and_true] at hb16 hc16
  have hmod2 : (((kk + 1 : Nat) : Int)).tmod (es.length : Int) = (((kk + 1) % es.length : Nat) : Int) := mod_int (kk + 1) es.length (by omega)
  have hjl : (kk + 1) % es.length < es.length := Nat.mod_lt _ (by omega)
  generalize hjj : (kk + 1) % es.length = jj at hmod2 hjl
  have s9 : (jj : Int) < (es.length : Int) := by omega
  have hgj : (es.map encInt)[jj]? = some (encInt es[jj]) := intE.get hjl
  have hgk : (es.map encInt)[kk]? = some (encInt es[kk]) := intE.get hkl
  have hjs : jj < (es.set kk es[jj]).length := by simpa using hjl
  simp only [pvZ, lz, nz, rr_one, upd_apply, upd_upd, initT, optI, splice, reduceIte, reduceCtorEq, Nat.reduceEqDiff, Nat.reduceAdd, Nat.reduceSub, Nat.reduceMul, Nat.reduceLeDiff, Nat.reduceLT, Int.reduceLT, Int.reduceLE, Int.reduceToNat, Int.reduceEq, Int.cast_ofNat_Int, and_true, not_false_eq_true, Option.map_none, Option.map_some, eq_self, true_or, or_true, Nat.sub_zero, Int.le_refl, f4, f6, f12, f13, ha14, hb14, hc14, ha15, hb15, hc15, ha16, hb16, hc16, hwk, hmod2, e0]
  simp only [pvZ, lz, nz, rr_one, upd_apply, upd_upd, initT, optI, reduceIte, reduceCtorEq, Nat.reduceEqDiff, Nat.reduceAdd, Nat.reduceSub, Nat.reduceMul, Nat.reduceLeDiff, Nat.reduceLT, Int.reduceLT, Int.reduceLE, Int.reduceToNat, Int.reduceEq, Int.cast_ofNat_Int, and_true, not_false_eq_true, Option.map_none, Option.map_some, eq_self, true_or, or_true, Nat.sub_zero, Int.le_refl, f4, f6, f12, f13, ha14, hb14, hc14, ha15, hb15, hc15, ha16, hb16, hc16, hgj, hgk, encInt, s8, s9, Nat.mul_one, splice_ints es R16 hkl, fits_ints es R16 hkl, splice_ints (es.set kk es[jj]) R16 hjs, fits_ints (es.set kk es[jj]) R16 hjs]
  generalize hswp : (es.set kk es[jj]).set jj es[kk] = esS
  have lF : esF.length = es.length := by rw [← hfar]; simp
  have lB : esB.length = es.length := by rw [← hbel]; simp
  have lS : esS.length = es.length := by rw [← hswp]; simp
  have aF : acceptF m l ⟨kd, esF⟩ = false := by rw [← hfar]; exact accept_far hacc hn1 (.inr (by omega))
  have aB : acceptF m l ⟨kd, esB⟩ = false := by rw [← hbel]; exact accept_far hacc h0l (.inl (by omega))
  have aS : acceptF m l ⟨kd, esS⟩ = false := by
    rw [← hswp]
    subst hjj
    exact accept_swapped hacc hkl hjl
  have hlt : ∀ (es' es'' : List Int) (tk : Tok) s k, acceptF m l ⟨kd, es' ++ es''⟩ = false → Spec prg 8 [.agg [.sl 6 (m.map encObj) .no], .sl 15 (l.map encEdit) .no, .agg [.int .i64 kd, (A.sl 1 (es'.map encInt ++ es''.map encInt) tk).strip]] s k (.bool false) s k := by
    intro es' es'' tk s k ha
    have := h8' (es' ++ es'') s k
    rw [ha, List.map_append] at this
    exact Spec.args this (.cons (A.le_refl _) (.cons (A.le_refl _) (.cons (A.le_agg (.cons (A.le_refl _) (.cons (le_strip_no _ _ _) .nil))) .nil)))
  have hfz : ∀ (es' : List Int) (id c n : Nat) (R : List A) (s : Hp) k, s id = some (.cells (es'.map intC ++ R)) → es'.length = n → acceptF m l ⟨kd, es'⟩ = false → Spec prg 8 [.agg [.sl 6 (m.map encObj) .no], .sl 15 (l.map encEdit) .no, .agg [.int .i64 kd, .sb id 0 1 n c]] s k (.bool false) s k := by
    intro es' id c n R s k hs hn ha
    subst hn
    have := h8' es' (fun _ => none) k
    rw [ha] at this
    refine Spec.frozen this rfl rfl ?_
    intro j x y hx hy
    match j, hx, hy with
    | 0, hx, hy => cases hx; cases hy; exact .le (A.le_refl _)
    | 1, hx, hy => cases hx; cases hy; exact .le (A.le_refl _)
    | 2, hx, hy =>
      cases hx; cases hy
      refine .agg _ _ rfl ?_
      intro j x y hx hy
      match j, hx, hy with
      | 0, hx, hy => cases hx; cases hy; exact .le (A.le_refl _)
      | 1, hx, hy => cases hx; cases hy; exact frz_ints es' R hs
      | j + 2, hx, hy => cases hx
    | j + 3, hx, hy => cases hx
  simp only [strip_strip]
  refine callS_quiet (hlt _ _ _ _ _ (accept_less hacc hkl)) ?_
  simp only [pvZ, lz, nz, rr_one, upd_apply, upd_upd, initT, optI, splice, reduceIte, reduceCtorEq, Nat.reduceEqDiff, Nat.reduceAdd, Nat.reduceSub, Nat.reduceMul, Nat.reduceLeDiff, Nat.reduceLT, Int.reduceLT, Int.reduceLE, Int.reduceToNat, Int.reduceEq, Int.cast_ofNat_Int, and_true, not_false_eq_true, Option.map_none, Option.map_some, eq_self, true_or, or_true, Nat.sub_zero, Int.le_refl, f4, f6, f12, f13, ha14, hb14, hc14, ha15, hb15, hc15, ha16, hb16, hc16, strip_strip]
  refine callS_quiet (hlt _ _ _ _ _ (accept_twice hacc hkl)) ?_
  simp only [pvZ, lz, nz, rr_one, upd_apply, upd_upd, initT, optI, splice, reduceIte, reduceCtorEq, Nat.reduceEqDiff, Nat.reduceAdd, Nat.reduceSub, Nat.reduceMul, Nat.reduceLeDiff, Nat.reduceLT, Int.reduceLT, Int.reduceLE, Int.reduceToNat, Int.reduceEq, Int.cast_ofNat_Int, and_true, not_false_eq_true, Option.map_none, Option.map_some, eq_self, true_or, or_true, Nat.sub_zero, Int.le_refl, f4, f6, f12, f13, ha14, hb14, hc14, ha15, hb15, hc15, ha16, hb16, hc16]
  refine callS_quiet (hfz esF a14 _ _ R14 _ _ (by simp only [upd_apply, f4, f6, f12, f13, ha14, hb14, hc14, ha15, hb15, hc15, ha16, hb16, hc16, reduceIte]) lF aF) ?_
  simp only [pvZ, lz, nz, rr_one, upd_apply, upd_upd, initT, optI, splice, reduceIte, reduceCtorEq, Nat.reduceEqDiff, Nat.reduceAdd, Nat.reduceSub, Nat.reduceMul, Nat.reduceLeDiff, Nat.reduceLT, Int.reduceLT, Int.reduceLE, Int.reduceToNat, Int.reduceEq, Int.cast_ofNat_Int, and_true, not_false_eq_true, Option.map_none, Option.map_some, eq_self, true_or, or_true, Nat.sub_zero, Int.le_refl, f4, f6, f12, f13, ha14, hb14, hc14, ha15, hb15, hc15, ha16, hb16, hc16]
  refine callS_quiet (hfz esB a15 _ _ R15 _ _ (by simp only [upd_apply, f4, f6, f12, f13, ha14, hb14, hc14, ha15, hb15, hc15, ha16, hb16, hc16, reduceIte]) lB aB) ?_
  simp only [pvZ, lz, nz, rr_one, upd_apply, upd_upd, initT, optI, splice, reduceIte, reduceCtorEq, Nat.reduceEqDiff, Nat.reduceAdd, Nat.reduceSub, Nat.reduceMul, Nat.reduceLeDiff, Nat.reduceLT, Int.reduceLT, Int.reduceLE, Int.reduceToNat, Int.reduceEq, Int.cast_ofNat_Int, and_true, not_false_eq_true, Option.map_none, Option.map_some, eq_self, true_or, or_true, Nat.sub_zero, Int.le_refl, f4, f6, f12, f13, ha14, hb14, hc14, ha15, hb15, hc15, ha16, hb16, hc16]
  refine callS_quiet (hfz esS a16 _ _ R16 _ _ (by simp only [upd_apply, f4, f6, f12, f13, ha14, hb14, hc14, ha15, hb15, hc15, ha16, hb16, hc16, reduceIte]) lS aS) ?_
  simp only [pvZ, lz, nz, rr_one, upd_apply, upd_upd, initT, optI, splice, reduceIte, reduceCtorEq, Nat.reduceEqDiff, Nat.reduceAdd, Nat.reduceSub, Nat.reduceMul, Nat.reduceLeDiff, Nat.reduceLT, Int.reduceLT, Int.reduceLE, Int.reduceToNat, Int.reduceEq, Int.cast_ofNat_Int, and_true, not_false_eq_true, Option.map_none, Option.map_some, eq_self, true_or, or_true, Nat.sub_zero, Int.le_refl, f4, f6, f12, f13, ha14, hb14, hc14, ha15, hb15, hc15, ha16, hb16, hc16]
  refine OutQ.eqk (by repeat (first | exact SExt.refl _ | (refine SExt.old ?_ (by first | (simp only [*]; done) | (simp only [upd_none]; assumption) | (simp only [upd_none, *, not_false_eq_true, and_self]; done)) _))) hk4 rfl
end Go.Pv
