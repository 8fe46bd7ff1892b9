/- The first edits that fit. -/
import Derived.Test.YtgmdhegbkbeihaaGreatZEvM
set_option linter.unusedVariables false
set_option linter.unusedSimpArgs false
set_option maxRecDepth 4000
set_option maxHeartbeats 2000000
namespace Go.Pv
open Go

def zeroE : Edit := ⟨0, ⟨#[]⟩, ⟨#[]⟩, ⟨#[]⟩, 0, 0, ⟨#[]⟩, ⟨#[]⟩, [], zeroObj⟩
def atE (l : List Edit) (i : Nat) : Edit := l.getD i zeroE
theorem atE_get {l : List Edit} {i : Nat} (h : i < l.length) : atE l i = l[i] := by
  unfold atE
  rw [List.getD_eq_getElem?_getD, List.getElem?_eq_getElem h]
  rfl
/-- The indices that have been taken after some steps. -/
def firstS (fits : Edit → List Edit → Bool) (l : List Edit) (many : Nat) (fro : Nat) : Nat → List Nat
  | 0 => []
  | n + 1 => let p := firstS fits l many fro n
    if p.length < many ∧ fits (atE l (fro + n)) (p.map (atE l)) = true then p ++ [fro + n] else p
theorem firstS_full {fits : Edit → List Edit → Bool} {l : List Edit} {many fro n : Nat} (h : ¬ (firstS fits l many fro n).length < many) : ∀ d, firstS fits l many fro (n + d) = firstS fits l many fro n
  | 0 => rfl
  | d + 1 => by
    have ih := firstS_full h d
    rw [← Nat.add_assoc]
    simp only [firstS, ih]
    rw [if_neg fun hh => h hh.1]
theorem firstS_len (fits : Edit → List Edit → Bool) (l : List Edit) (many fro : Nat) : ∀ n, (firstS fits l many fro n).length ≤ n
  | 0 => Nat.le_refl _
  | n + 1 => by
    have ih := firstS_len fits l many fro n
    simp only [firstS]
    split
    · simp; omega
    · omega
theorem firstS_mem (fits : Edit → List Edit → Bool) (l : List Edit) (many fro : Nat) : ∀ n, ∀ i ∈ firstS fits l many fro n, fro ≤ i ∧ i < fro + n
  | 0, i, h => by cases h
  | n + 1, i, h => by
    have ih := firstS_mem fits l many fro n
    simp only [firstS] at h
    split at h
    · rcases List.mem_append.1 h with h | h
      · have := ih i h; omega
      · have := List.mem_singleton.1 h; omega
    · have := ih i h; omega
def firstF (fits : Edit → List Edit → Bool) (l : List Edit) (many fro : Nat) : List Nat := firstS fits l many fro (l.length - fro)
def encNat (i : Nat) : List A := [.int .i64 i]
/-- Two tokens are not the same one. -/
def Apart (t t' : Tok) : Prop := ∀ g e g' e', t = .own g e → t' = .own g' e' → g ≠ g'
theorem Apart.symm {t t' : Tok} (h : Apart t t') : Apart t' t := fun g e g' e' h1 h2 h3 => h g' e' g e h2 h1 h3.symm
theorem app_in2 {k0 : Nat → Tk} {esz e e' bytes : Nat} {xs ys : List (List A)} {t t2 t' : Tok} {st : St} {K : A → St → Prop} (hk : KExt k0 st.k) (ht : TokA k0 st.k e t) (ht' : TokA k0 st.k e' t') (ha : Apart t t') (hlen : (xs.length + ys.length) * bytes ≤ 140737488355328)
    (h : ∀ tok k', KExt k0 k' → TokA k0 k' e tok → TokA k0 k' e' t' → Apart tok t' → K (.sl esz (xs ++ ys) tok) ⟨st.t, st.s, k'⟩) : appS esz e bytes (.sl esz xs t) (.sl esz ys t2) st K := by
  refine ⟨.inl rfl, .inl rfl, ht.live, hlen, fun hy => ?_, fun _ g hg => ?_⟩
  · subst hy
    have := h t st.k hk ht ht' ha
    rwa [List.append_nil] at this
  · refine h _ _ (ht.ext hk hg) (.inr (.inr ⟨g, rfl, by simp [upd], hk.unused hg⟩)) ?_ ?_
    · rcases ht' with h1 | h1 | ⟨g', h1, h2, h3⟩
      · exact .inl h1
      · exact .inr (.inl h1)
      · refine .inr (.inr ⟨g', h1, ?_, h3⟩)
        have n1 : g' ≠ g := fun e => by rw [e, hg] at h2; cases h2
        rw [upd_other _ _ _ _ n1]
        cases t with
        | own g1 e1 =>
          have n2 : g' ≠ g1 := fun e => ha g1 e1 g' e' rfl h1 e.symm
          simp only [killT]
          rw [upd_other _ _ _ _ n2]
          exact h2
        | _ => exact h2
    · intro g1 e1 g2 e2 h1 h2 h3
      cases h1
      rcases ht' with h4 | h4 | ⟨g', h4, h5, h6⟩
      · rw [h4] at h2; cases h2
      · rw [h4] at h2; cases h2
      · rw [h4] at h2
        cases h2
        rw [← h3, hg] at h5
        cases h5
theorem lel_refl : ∀ xs : List A, A.lel xs xs
  | [] => .nil
  | x :: xs => .cons (A.le_refl x) (lel_refl xs)
theorem spec_first (l : List Edit) (fro many : Nat) (hl : l.length < 70000) (hfr : fro ≤ l.length) (fits : Edit → List Edit → Bool) (fid : FuncId) (caps : List A) {s : Nat → Option Blk} {k : Nat → Tk}
    (hf : ∀ x ∈ l, ∀ b : List Edit, b.length < 70000 → (∀ y ∈ b, y ∈ l) → ∀ k', Spec prg fid ([.agg (encEdit x), .sl 15 (b.map encEdit) .no] ++ caps) s k' (.bool (fits x b)) s k') :
    Spec prg 33 [.sl 15 (l.map encEdit) .no, .int .i64 fro, .int .i64 many, .fn fid caps] s k (.sl 1 ((firstF fits l many fro).map encNat) .no) s k := by
  refine spec_tr prg_mixed tr_evidence_first_Edit (Nat.le_of_ble_eq_true rfl) rfl ?_
  unfold pc_evidence_first_Edit rs_evidence_first_Edit
  simp only [sZ, initT, optI, splice, reduceIte, reduceCtorEq, Nat.reduceEqDiff, Nat.reduceAdd, Nat.reduceSub, Nat.reduceMul, Nat.reduceLeDiff, Nat.reduceLT, Int.reduceLT, Int.reduceLE, Int.reduceToNat, Int.reduceEq, Int.cast_ofNat_Int]
  refine loop_L (α := Tok × Tok × (Nat → Tk)) (l.length - fro) (fun j p => [(0, .sl 15 (l.map encEdit) .no), (2, .int .i64 many), (3, .fn fid caps), (9, .sl 1 ((firstS fits l many fro j).map encNat) p.1), (10, .sl 15 (((firstS fits l many fro j).map (atE l)).map encEdit) p.2.1), (11, .int .i64 ((fro + j : Nat) : Int))])
    (fun _ _ => s) (fun _ p => p.2.2) (fun _ p => KExt k p.2.2 ∧ TokA k p.2.2 3 p.1 ∧ TokA k p.2.2 44 p.2.1 ∧ Apart p.1 p.2.1) (.nil, .nil, k) (SExt.refl _) rfl (by (try simp only [TabLe_cons, TabLe_nil, tab_cons, tab_nil, upd_apply, Nat.reduceEqDiff, reduceIte, and_true]); repeat' (first | exact trivial | exact A.le_refl _ | exact le_strip_no _ _ _ | exact A.le_no _ _ _ | exact A.le_empty _ _ _ | refine And.intro ?_ ?_)) ⟨KExt.refl _, .inl rfl, .inl rfl, fun _ _ _ _ h => by cases h⟩ ?_
  rintro j ⟨tok, tok', k'⟩ hj ⟨hk, htok, htok', hap⟩
  dsimp only at hk htok htok' hap ⊢
  have hlen := firstS_len fits l many fro j
  have hmem := firstS_mem fits l many fro j
  have hout : ∀ b, (j = l.length - fro ∨ ¬ (firstS fits l many fro j).length < many) → ∀ t, b = A.sl 1 ((firstS fits l many fro j).map encNat) tok → OutQ s k (.sl 1 ((firstF fits l many fro).map encNat) .no) b.strip ⟨t, s, k'⟩ := by
    intro b h t hb
    have : firstF fits l many fro = firstS fits l many fro j := by
      unfold firstF
      rcases h with h | h
      · rw [h]
      · have := firstS_full h (l.length - fro - j)
        rwa [show j + (l.length - fro - j) = l.length - fro by omega] at this
    rw [this, hb]
    exact OutQ.lek (SExt.refl _) hk (le_strip_no _ _ _)
  by_cases hj' : fro + j < l.length
  · have h1 : decide (((fro + j : Nat) : Int) < (l.length : Int)) = true := decide_eq_true (by omega)
    simp only [sZ, initT, optI, splice, reduceIte, reduceCtorEq, Nat.reduceEqDiff, Nat.reduceAdd, Nat.reduceSub, Nat.reduceMul, Nat.reduceLeDiff, Nat.reduceLT, Int.reduceLT, Int.reduceLE, Int.reduceToNat, Int.reduceEq, Int.cast_ofNat_Int, h1]
    refine brC_in (fun h2 => ?_) (fun h2 => ?_)
    · have hm : (firstS fits l many fro j).length < many := by have := of_decide_eq_true h2; simp at this; omega
      have hg : (l.map encEdit)[fro + j]? = some (encEdit l[fro + j]) := editE.get hj'
      have hw : IntKind.i64.wrap (((fro + j : Nat) : Int) + 1) = ((fro + (j + 1) : Nat) : Int) := by rw [wrap64 (by omega) (by omega)]; omega
      have g1 : (0 : Int) ≤ ((fro + j : Nat) : Int) := by omega
      have g2 : ((fro + j : Nat) : Int) < (l.length : Int) := by omega
      simp only [sZ, initT, optI, splice, reduceIte, reduceCtorEq, Nat.reduceEqDiff, Nat.reduceAdd, Nat.reduceSub, Nat.reduceMul, Nat.reduceLeDiff, Nat.reduceLT, Int.reduceLT, Int.reduceLE, Int.reduceToNat, Int.reduceEq, Int.cast_ofNat_Int, hg, g1, g2, len_encEdit, wh_encEdit, st_encEdit, Int.toNat_natCast]
      refine callS_quiet (r := .bool (fits l[fro + j] ((firstS fits l many fro j).map (atE l)))) ?_ ?_
      · refine Spec.args (hf _ (List.getElem_mem hj') ((firstS fits l many fro j).map (atE l)) (by simp; omega) ?_ _) ?_
        · intro y hy
          obtain ⟨i, hi, rfl⟩ := List.mem_map.1 hy
          have := hmem i hi
          rw [atE_get (by omega)]
          exact List.getElem_mem _
        · exact .cons (A.le_refl _) (.cons (le_strip_no _ _ _) (lel_refl _))
      simp only [sZ, initT, optI, splice, reduceIte, reduceCtorEq, Nat.reduceEqDiff, Nat.reduceAdd, Nat.reduceSub, Nat.reduceMul, Nat.reduceLeDiff, Nat.reduceLT, Int.reduceLT, Int.reduceLE, Int.reduceToNat, Int.reduceEq, Int.cast_ofNat_Int, hg, g1, g2]
      refine brC_in (fun h3 => ?_) (fun h3 => ?_)
      · have hst : firstS fits l many fro (j + 1) = firstS fits l many fro j ++ [fro + j] := by
          simp only [firstS]
          rw [if_pos ⟨hm, by rw [atE_get hj']; exact h3⟩]
        simp only [sZ, initT, optI, splice, reduceIte, reduceCtorEq, Nat.reduceEqDiff, Nat.reduceAdd, Nat.reduceSub, Nat.reduceMul, Nat.reduceLeDiff, Nat.reduceLT, Int.reduceLT, Int.reduceLE, Int.reduceToNat, Int.reduceEq, Int.cast_ofNat_Int, hg, g1, g2, len_encEdit, wh_encEdit, st_encEdit, Int.toNat_natCast]
        refine app_in2 hk htok htok' hap (by simp; omega) fun tok2 k2 hk2 htok2 htok2' hap2 => ?_
        simp only [sZ, initT, optI, splice, reduceIte, reduceCtorEq, Nat.reduceEqDiff, Nat.reduceAdd, Nat.reduceSub, Nat.reduceMul, Nat.reduceLeDiff, Nat.reduceLT, Int.reduceLT, Int.reduceLE, Int.reduceToNat, Int.reduceEq, Int.cast_ofNat_Int, hg, g1, g2, len_encEdit, wh_encEdit, st_encEdit, Int.toNat_natCast]
        refine app_in2 hk2 htok2' htok2 hap2.symm (by simp; omega) fun tok3 k3 hk3 htok3 htok3' hap3 => ?_
        simp only [sZ, initT, optI, splice, reduceIte, reduceCtorEq, Nat.reduceEqDiff, Nat.reduceAdd, Nat.reduceSub, Nat.reduceMul, Nat.reduceLeDiff, Nat.reduceLT, Int.reduceLT, Int.reduceLE, Int.reduceToNat, Int.reduceEq, Int.cast_ofNat_Int, hw]
        refine next_L (by omega) (tok2, tok3, k3) (SExt.refl _) rfl ?_ ⟨hk3, htok3', htok3, hap3.symm⟩
        have e1 : (firstS fits l many fro (j + 1)).map encNat = (firstS fits l many fro j).map encNat ++ [[.int .i64 ((fro + j : Nat) : Int)]] := by rw [hst, List.map_append]; rfl
        have e2 : ((firstS fits l many fro (j + 1)).map (atE l)).map encEdit = ((firstS fits l many fro j).map (atE l)).map encEdit ++ [encEdit l[fro + j]] := by rw [hst, List.map_append, List.map_append, ← atE_get hj']; rfl
        rw [e1, e2]
        exact (by (try simp only [TabLe_cons, TabLe_nil, tab_cons, tab_nil, upd_apply, Nat.reduceEqDiff, reduceIte, and_true]); repeat' (first | exact trivial | exact A.le_refl _ | exact le_strip_no _ _ _ | exact A.le_no _ _ _ | exact A.le_empty _ _ _ | refine And.intro ?_ ?_))
      · have hst : firstS fits l many fro (j + 1) = firstS fits l many fro j := by
          simp only [firstS]
          rw [if_neg fun hh => by
            rw [atE_get hj'] at hh
            rw [hh.2] at h3
            cases h3]
        simp only [sZ, initT, optI, splice, reduceIte, reduceCtorEq, Nat.reduceEqDiff, Nat.reduceAdd, Nat.reduceSub, Nat.reduceMul, Nat.reduceLeDiff, Nat.reduceLT, Int.reduceLT, Int.reduceLE, Int.reduceToNat, Int.reduceEq, Int.cast_ofNat_Int, hw]
        refine next_L (by omega) (tok, tok', k') (SExt.refl _) rfl ?_ ⟨hk, htok, htok', hap⟩
        rw [hst]
        exact (by (try simp only [TabLe_cons, TabLe_nil, tab_cons, tab_nil, upd_apply, Nat.reduceEqDiff, reduceIte, and_true]); repeat' (first | exact trivial | exact A.le_refl _ | exact le_strip_no _ _ _ | exact A.le_no _ _ _ | exact A.le_empty _ _ _ | refine And.intro ?_ ?_))
    · have hm : ¬ (firstS fits l many fro j).length < many := by have := of_decide_eq_false h2; simp at this; omega
      simp only [sZ, initT, optI, splice, reduceIte, reduceCtorEq, Nat.reduceEqDiff, Nat.reduceAdd, Nat.reduceSub, Nat.reduceMul, Nat.reduceLeDiff, Nat.reduceLT, Int.reduceLT, Int.reduceLE, Int.reduceToNat, Int.reduceEq, Int.cast_ofNat_Int]
      exact hout _ (.inr hm) _ rfl
  · have h1 : decide (((fro + j : Nat) : Int) < (l.length : Int)) = false := decide_eq_false (by omega)
    simp only [sZ, initT, optI, splice, reduceIte, reduceCtorEq, Nat.reduceEqDiff, Nat.reduceAdd, Nat.reduceSub, Nat.reduceMul, Nat.reduceLeDiff, Nat.reduceLT, Int.reduceLT, Int.reduceLE, Int.reduceToNat, Int.reduceEq, Int.cast_ofNat_Int, h1]
    exact hout _ (.inl (by omega)) _ rfl
end Go.Pv
