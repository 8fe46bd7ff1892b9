/- verify.Accept: its loops. -/
import Derived.Test.YtgmdhegbkbeihaaGreatLawE
set_option linter.unusedVariables false
set_option linter.unusedSimpArgs false
set_option maxRecDepth 4000
set_option maxHeartbeats 1000000
namespace Go.Pv
open Go

noncomputable def pc8L1 : PC := (.seq (.reg [⟨(.some 52), .none, (.bin .lss (.t 51) (.t 50))⟩] false .none) (.seq (.cond (.t 52) .skip (.exit 0)) (.seq (.block 1 (.seq (.reg [⟨(.some 53), .none, (.idx 1 (.t 49) (.t 51))⟩, ⟨(.some 54), .none, (.load .none (.t 53))⟩, ⟨(.some 12), .none, (.new [(.int .i64 0)])⟩, ⟨.none, .none, (.store 1 (.t 12) (.t 54))⟩] false .none) (.seq (.seq (.reg [⟨(.some 55), .none, (.load .none (.t 12))⟩, ⟨(.some 56), .none, (.mv (.t 10))⟩, ⟨(.some 57), .none, (.bin .leq (.t 55) (.t 56))⟩, ⟨(.some 58), .none, (.mv (.t 57))⟩, ⟨(.some 59), (.some (58, false)), (.load .none (.t 12))⟩, ⟨(.some 60), (.some (58, false)), (.load .none (.t 4))⟩, ⟨(.some 61), (.some (58, false)), (.len false (.t 60))⟩, ⟨(.some 62), (.some (58, false)), (.bin .geq (.t 59) (.t 61))⟩, ⟨(.some 63), .none, (.pick (.t 58) (.c (.bool true)) (.t 62))⟩, ⟨(.some 64), .none, (.mv (.t 63))⟩, ⟨(.some 65), (.some (64, false)), (.fld 1 (.t 8))⟩, ⟨(.some 66), (.some (64, false)), (.load .none (.t 65))⟩, ⟨(.some 67), (.some (64, false)), (.load (.some 1) (.t 3))⟩, ⟨(.some 68), (.some (64, false)), (.load .none (.t 4))⟩, ⟨(.some 69), (.some (64, false)), (.load .none (.t 12))⟩, ⟨(.some 70), (.some (64, false)), (.idx 15 (.t 68) (.t 69))⟩, ⟨(.some 71), (.some (64, false)), (.load (.some 15) (.t 70))⟩, ⟨(.some 72), (.some (64, false)), (.call true (.t 66) [(.t 67), (.t 71)])⟩, ⟨(.some 73), (.some (64, false)), (.un .not (.t 72))⟩, ⟨(.some 74), .none, (.pick (.t 64) (.c (.bool true)) (.t 73))⟩, ⟨(.some 75), .none, (.mv (.t 74))⟩, ⟨(.some 76), (.some (75, false)), (.mv (.t 9))⟩, ⟨(.some 77), (.some (75, false)), (.mkfn 49 [(.t 8), (.t 4), (.t 12)])⟩, ⟨(.some 78), (.some (75, false)), (.call true (.c (.fn 35 [])) [(.t 76), (.t 77)])⟩, ⟨(.some 79), .none, (.pick (.t 75) (.c (.bool true)) (.t 78))⟩] true .none) (.cond (.t 79) (.seq (.reg [⟨(.some 6), .none, (.mv (.c (.bool false)))⟩] false .none) .ret) .skip)) (.reg [⟨(.some 80), .none, (.mv (.t 9))⟩, ⟨(.some 81), .none, (.load .none (.t 4))⟩, ⟨(.some 82), .none, (.load .none (.t 12))⟩, ⟨(.some 83), .none, (.idx 15 (.t 81) (.t 82))⟩, ⟨(.some 84), .none, (.load (.some 15) (.t 83))⟩, ⟨(.some 85), .none, (.lit 15 44 [(.int .i64 0), (.str ⟨#[]⟩), (.str ⟨#[]⟩), (.str ⟨#[]⟩), (.int .i64 0), (.int .i64 0), (.str ⟨#[]⟩), (.str ⟨#[]⟩), (.sl 1 [] .nil), (.str ⟨#[]⟩), (.int .i64 0), (.int .i64 0), (.int .i64 0), (.sl 1 [] .nil), (.sl 2 [] .nil)] 1 [(0, (.t 84))])⟩, ⟨(.some 86), .none, (.app 15 44 216 (.t 80) (.t 85))⟩, ⟨(.some 87), .none, (.load .none (.t 12))⟩, ⟨(.some 9), .none, (.mv (.t 86))⟩, ⟨(.some 10), .none, (.mv (.t 87))⟩] true .none)))) (.reg [⟨(.some 88), .none, (.bin .add (.t 51) (.c (.int .i64 1)))⟩, ⟨(.some 51), .none, (.mv (.t 88))⟩] false .none))))
noncomputable def pc8L2 : PC := (.seq (.reg [⟨(.some 92), .none, (.bin .lss (.t 91) (.t 90))⟩] false .none) (.seq (.cond (.t 92) .skip (.exit 2)) (.seq (.block 3 (.seq (.reg [⟨(.some 93), .none, (.idx 15 (.t 89) (.t 91))⟩, ⟨(.some 94), .none, (.load (.some 15) (.t 93))⟩, ⟨(.some 15), .none, (.new [(.int .i64 0), (.str ⟨#[]⟩), (.str ⟨#[]⟩), (.str ⟨#[]⟩), (.int .i64 0), (.int .i64 0), (.str ⟨#[]⟩), (.str ⟨#[]⟩), (.sl 1 [] .nil), (.str ⟨#[]⟩), (.int .i64 0), (.int .i64 0), (.int .i64 0), (.sl 1 [] .nil), (.sl 2 [] .nil)])⟩, ⟨.none, .none, (.store 15 (.t 15) (.t 94))⟩] false .none) (.seq (.reg [⟨(.some 95), .none, (.fld 0 (.t 15))⟩, ⟨(.some 96), .none, (.load .none (.t 95))⟩, ⟨(.some 97), .none, (.bin .eql (.t 96) (.c (.int .i64 5)))⟩] false .none) (.cond (.t 97) (.reg [⟨(.some 98), .none, (.mv (.t 13))⟩, ⟨(.some 99), .none, (.bin .add (.t 98) (.c (.int .i64 1)))⟩, ⟨(.some 13), .none, (.mv (.t 99))⟩] false .none) .skip)))) (.reg [⟨(.some 100), .none, (.bin .add (.t 91) (.c (.int .i64 1)))⟩, ⟨(.some 91), .none, (.mv (.t 100))⟩] false .none))))
structure Evid where
  kind : Int
  edits : List Int
def encInt (i : Int) : List A := [.int .i64 i]
def intE : Enc Int := ⟨encInt, 1, fun _ => rfl, fun _ => rfl⟩
def encEvid (e : Evid) : List A := [.int .i64 e.kind, .sl 1 (e.edits.map encInt) .no]
def goF (shows : Edit → Bool) (tog : Edit → Edit → Bool) (l : List Edit) : List Int → List Edit → Int → Bool
  | [], _, _ => true
  | i :: r, shown, last => decide (last < i) && decide (i < l.length) && match l[i.toNat]? with
    | some x => shows x && !(shown.any fun y => !tog y x) && goF shows tog l r (shown ++ [x]) i
    | none => false
theorem goF_cons (shows : Edit → Bool) (tog : Edit → Edit → Bool) (l : List Edit) (i : Int) (r : List Int) (shown : List Edit) (last : Int) : goF shows tog l (i :: r) shown last = (decide (last < i) && decide (i < l.length) && match l[i.toNat]? with
    | some x => shows x && !(shown.any fun y => !tog y x) && goF shows tog l r (shown ++ [x]) i
    | none => false) := rfl
theorem spec17 (x y : Edit) (l : List Edit) (i : Nat) (h : i < l.length) (hy : l[i] = y) (ft : FuncId) (v : Bool) {s : Nat → Option Blk} {k : Nat → Tk} {a b c : Nat} (u1 u2 : A) (ha : s a = some (.cells [u1, u2, .fn ft []]))
    (hb : s b = some (.cells [.sl 15 (l.map encEdit) .no])) (hc : s c = some (.cells [.int .i64 i])) (hT : ∀ s', Spec prg ft [.agg (encEdit x), .agg (encEdit y)] s' k (.bool v) s' k) :
    Spec prg 49 [.agg (encEdit x), .ptr a 0, .ptr b 0, .ptr c 0] s k (.bool !v) s k := by
  refine spec_tr prg_mixed tr_verify_Accept_1 (Nat.le_of_ble_eq_true rfl) rfl ?_
  unfold pc_verify_Accept_1 rs_verify_Accept_1
  simp only [sZ, initT, optI, splice, reduceIte, reduceCtorEq, Nat.reduceEqDiff, Nat.reduceAdd, Nat.reduceSub, Nat.reduceMul, Nat.reduceLeDiff, Nat.reduceLT, Int.reduceLT, Int.reduceLE, Int.reduceToNat, Int.reduceEq, Int.cast_ofNat_Int]
  with_reducible refine newS_in ?_
  intro id hid
  simp only [] at hid
  have na : ¬ a = id := fun e => by subst e; rw [ha] at hid; cases hid
  have nb : ¬ b = id := fun e => by subst e; rw [hb] at hid; cases hid
  have nc : ¬ c = id := fun e => by subst e; rw [hc] at hid; cases hid
  have hg : (l.map encEdit)[i]? = some (encEdit l[i]) := editE.get h
  simp only [sZ, initT, optI, splice, reduceIte, reduceCtorEq, Nat.reduceEqDiff, Nat.reduceAdd, Nat.reduceSub, Nat.reduceMul, Nat.reduceLeDiff, Nat.reduceLT, Int.reduceLT, Int.reduceLE, Int.reduceToNat, Int.reduceEq, Int.cast_ofNat_Int, na, nb, nc, ha, hb, hc, hg, len_encEdit, wh_encEdit, st_encEdit, hy]
  refine callQS_quiet (hT _) ?_
  simp only [sZ, initT, optI, splice, reduceIte, reduceCtorEq, Nat.reduceEqDiff, Nat.reduceAdd, Nat.reduceSub, Nat.reduceMul, Nat.reduceLeDiff, Nat.reduceLT, Int.reduceLT, Int.reduceLE, Int.reduceToNat, Int.reduceEq, Int.cast_ofNat_Int]
  refine OutQ.eq (SExt.old (SExt.refl _) hid _) rfl

def TokI (k0 k : Nat → Tk) (tok : Tok) (n : Nat) : Prop := (tok = .nil ∧ n = 0) ∨ ∃ g, tok = .own g 44 ∧ k g = .live ∧ k0 g = .unused
theorem acc1 (m : List Obj) (l : List Edit) (es : List Int) (fs ft : FuncId) (many : A) (shows : Edit → Bool) (tog : Edit → Edit → Bool) {b3 b4 b8 : Nat} {s : Nat → Option Blk} {k0 k : Nat → Tk} {t : Nat → A} {Q : PX → St → Prop} (hl : l.length < 4611686018427387904) (hes : es.length ≤ 10)
    (hS : ∀ e ∈ l, ∀ s k, Spec prg fs [.agg (encMap m), .agg (encEdit e)] s k (.bool (shows e)) s k) (hT : ∀ a ∈ l, ∀ b ∈ l, ∀ s k, Spec prg ft [.agg (encEdit a), .agg (encEdit b)] s k (.bool (tog a b)) s k)
    (h3 : t 3 = .ptr b3 0) (h4 : t 4 = .ptr b4 0) (h8 : t 8 = .ptr b8 0) (h9 : t 9 = .sl 15 [] .nil) (h10 : t 10 = .int .i64 (-1)) (h49 : t 49 = .sl 1 (es.map encInt) .no) (h50 : t 50 = .int .i64 es.length) (h51 : t 51 = .int .i64 0)
    (s3 : s b3 = some (.cells [.sl 6 (m.map encObj) .no])) (s4 : s b4 = some (.cells [.sl 15 (l.map encEdit) .no])) (s8 : s b8 = some (.cells [many, .fn fs [], .fn ft []])) (hk : KExt k0 k)
    (hfail : goF shows tog l es [] (-1) = false → ∀ t' s' k', t' 6 = .bool false → SExt s s' → KExt k0 k' → Q .ret ⟨t', s', k'⟩) (hok : goF shows tog l es [] (-1) = true → ∀ t' k', t' 4 = t 4 → t' 5 = t 5 → KExt k0 k' → Q (.exit 0) ⟨t', s, k'⟩) :
    pwp prg (.loop pc8L1) Q ⟨t, s, k⟩ := by
  refine loop_intro (fun n st => ∃ (j : Nat) (shown : List Edit) (last : Int) (tok : Tok), st.s = s ∧ KExt k0 st.k ∧ st.t 3 = .ptr b3 0 ∧ st.t 4 = .ptr b4 0 ∧ st.t 5 = t 5 ∧ st.t 8 = .ptr b8 0 ∧ st.t 9 = .sl 15 (shown.map encEdit) tok ∧ st.t 10 = .int .i64 last ∧
    st.t 49 = .sl 1 (es.map encInt) .no ∧ st.t 50 = .int .i64 es.length ∧ st.t 51 = .int .i64 (j : Nat) ∧ n = es.length - j ∧ j ≤ es.length ∧ shown.length = j ∧ -1 ≤ last ∧ (∀ x ∈ shown, x ∈ l) ∧ TokI k0 st.k tok shown.length ∧ goF shows tog l es [] (-1) = goF shows tog l (es.drop j) shown last) es.length ?_ ?_
  · exact ⟨0, [], -1, .nil, rfl, hk, h3, h4, rfl, h8, h9, h10, h49, h50, h51, by omega, by omega, rfl, by omega, by simp, .inl ⟨rfl, rfl⟩, by simp⟩
  · rintro n ⟨t1, s1, k1⟩ ⟨j, shown, last, tok, hs1, hk1, g3, g4, g5, g8, g9, g10, g49, g50, g51, rfl, hj, hsh, hla, hin, htok, hgo⟩
    dsimp only at hs1 hk1 g3 g4 g5 g8 g9 g10 g49 g50 g51 htok
    subst hs1
    unfold pc8L1
    simp only [sZ, initT, optI, splice, reduceIte, reduceCtorEq, Nat.reduceEqDiff, Nat.reduceAdd, Nat.reduceSub, Nat.reduceMul, Nat.reduceLeDiff, Nat.reduceLT, Int.reduceLT, Int.reduceLE, Int.reduceToNat, Int.reduceEq, Int.cast_ofNat_Int, g3, g4, g8, g9, g10, g49, g50, g51]
    refine brC_in (fun hlt => ?_) (fun hge => ?_)
    · have hj' : j < es.length := by simpa using hlt
      have he : (es.map encInt)[j]? = some (encInt es[j]) := intE.get hj'
      have hd : es.drop j = es[j] :: es.drop (j + 1) := List.drop_eq_getElem_cons hj'
      rw [hd, goF_cons] at hgo
      simp only [sZ, initT, optI, splice, reduceIte, reduceCtorEq, Nat.reduceEqDiff, Nat.reduceAdd, Nat.reduceSub, Nat.reduceMul, Nat.reduceLeDiff, Nat.reduceLT, Int.reduceLT, Int.reduceLE, Int.reduceToNat, Int.reduceEq, Int.cast_ofNat_Int, g3, g4, g8, g9, g10, g49, g50, g51, he, encInt]
      with_reducible refine newS_in ?_
      intro id hid
      simp only [] at hid
      have n3 : ¬ b3 = id := fun e => by subst e; rw [s3] at hid; cases hid
      have n4 : ¬ b4 = id := fun e => by subst e; rw [s4] at hid; cases hid
      have n8 : ¬ b8 = id := fun e => by subst e; rw [s8] at hid; cases hid
      have hsx : ∀ (y : Option Blk), SExt s1 (upd s1 id y) := fun y => SExt.old (SExt.refl _) hid _
      repeat' (first | (first | (with_reducible refine newS_in ?_; intro _ hid_; simp only [upd_none] at hid_) | (with_reducible refine newR_in ?_; intro _ hid_ hih_; simp only [upd_none, upd_none', rr_eqs2, and_true] at hid_ hih_) | (with_reducible refine mkmS_in ?_; intro _ hid_; simp only [upd_none] at hid_)) | (with_reducible refine brC_in (fun h_ => ?_) (fun h_ => ?_)) | (with_reducible refine brG_in (fun h_ => ?_) (fun h_ => ?_)) | (with_reducible refine brN_in (fun h_ => ?_) (fun h_ => ?_)) | simp only [sZ, initT, optI, splice, reduceIte, reduceCtorEq, Nat.reduceEqDiff, Nat.reduceAdd, Nat.reduceSub, Nat.reduceMul, Nat.reduceLeDiff, Nat.reduceLT, Int.reduceLT, Int.reduceLE, Int.reduceToNat, Int.reduceEq, Int.cast_ofNat_Int, *, -hgo, -hd, -hok, -hfail])
      · rename_i q1
        have e1 : last < es[j] := by simpa using q1
        have e2 : es[j] < l.length := by simpa using h_
        obtain ⟨i, hi⟩ : ∃ i : Nat, es[j] = i := ⟨es[j].toNat, by omega⟩
        have hil : i < l.length := by omega
        have hx : l[i] ∈ l := List.getElem_mem hil
        rw [hi] at hgo e1 e2 q1 h_ ⊢
        simp only [Int.toNat_natCast, e1, e2, decide_true, Bool.true_and, List.getElem?_eq_getElem hil] at hgo
        have hgl : (l.map encEdit)[i]? = some (encEdit l[i]) := editE.get hil
        simp only [sZ, initT, optI, splice, reduceIte, reduceCtorEq, Nat.reduceEqDiff, Nat.reduceAdd, Nat.reduceSub, Nat.reduceMul, Nat.reduceLeDiff, Nat.reduceLT, Int.reduceLT, Int.reduceLE, Int.reduceToNat, Int.reduceEq, Int.cast_ofNat_Int, hgl, len_encEdit, wh_encEdit, st_encEdit, reduceIte]
        refine callQS_quiet (hS _ hx _ _) ?_
        repeat' (first | (first | (with_reducible refine newS_in ?_; intro _ hid_; simp only [upd_none] at hid_) | (with_reducible refine newR_in ?_; intro _ hid_ hih_; simp only [upd_none, upd_none', rr_eqs2, and_true] at hid_ hih_) | (with_reducible refine mkmS_in ?_; intro _ hid_; simp only [upd_none] at hid_)) | (with_reducible refine brC_in (fun h_ => ?_) (fun h_ => ?_)) | (with_reducible refine brG_in (fun h_ => ?_) (fun h_ => ?_)) | (with_reducible refine brN_in (fun h_ => ?_) (fun h_ => ?_)) | simp only [sZ, initT, optI, splice, reduceIte, reduceCtorEq, Nat.reduceEqDiff, Nat.reduceAdd, Nat.reduceSub, Nat.reduceMul, Nat.reduceLeDiff, Nat.reduceLT, Int.reduceLT, Int.reduceLE, Int.reduceToNat, Int.reduceEq, Int.cast_ofNat_Int, *, -hgo, -hd, -hok, -hfail])
        · have e3 : shows l[i] = true := by simpa using h_
          simp only [e3, Bool.true_and] at hgo
          refine callQS_quiet (r := .bool (shown.any fun y => !tog y l[i])) ?_ ?_
          · refine Spec.args (spec16 shown (fun y => !tog y l[i]) 49 [.ptr b8 0, .ptr b4 0, .ptr id 0] (by omega) fun o ho => ?_) (.cons (le_strip_no _ _ _) (.cons (A.le_refl _) .nil))
            refine spec17 o l[i] l i hil rfl ft (tog o l[i]) many (.fn fs []) ?_ ?_ ?_ fun s' => hT _ (hin o ho) _ hx _ _
            · simp only [upd_apply, n8, s8, if_false]
            · simp only [upd_apply, n4, s4, if_false]
            · simp only [upd_apply, if_true]
          · repeat' (first | (first | (with_reducible refine newS_in ?_; intro _ hid_; simp only [upd_none] at hid_) | (with_reducible refine newR_in ?_; intro _ hid_ hih_; simp only [upd_none, upd_none', rr_eqs2, and_true] at hid_ hih_) | (with_reducible refine mkmS_in ?_; intro _ hid_; simp only [upd_none] at hid_)) | (with_reducible refine brC_in (fun h_ => ?_) (fun h_ => ?_)) | (with_reducible refine brG_in (fun h_ => ?_) (fun h_ => ?_)) | (with_reducible refine brN_in (fun h_ => ?_) (fun h_ => ?_)) | simp only [sZ, initT, optI, splice, reduceIte, reduceCtorEq, Nat.reduceEqDiff, Nat.reduceAdd, Nat.reduceSub, Nat.reduceMul, Nat.reduceLeDiff, Nat.reduceLT, Int.reduceLT, Int.reduceLE, Int.reduceToNat, Int.reduceEq, Int.cast_ofNat_Int, *, -hgo, -hd, -hok, -hfail, hgl, len_encEdit, wh_encEdit, st_encEdit])
            · refine hfail ?_ _ _ _ ?_ (by repeat (first | exact SExt.refl _ | (refine SExt.old ?_ (by first | (simp only [*]; done) | (simp only [upd_none]; assumption) | (simp only [upd_none, *, not_false_eq_true, and_self]; done)) _))) hk1
              · rw [hgo]; simp [*]
              · simp only [upd_apply, Nat.reduceEqDiff, reduceIte]
            · have e4 : (shown.any fun y => !tog y l[i]) = false := h_
              simp only [e4, Bool.not_false, Bool.true_and] at hgo
              refine ⟨.inl rfl, .inl rfl, ?_, ?_, fun h => by simp at h, fun _ g hg => ?_⟩
              · rcases htok with ⟨rfl, _⟩ | ⟨g, rfl, hg, _⟩
                · trivial
                · exact ⟨rfl, hg⟩
              · simp
                omega
              · simp only [sZ, initT, optI, splice, reduceIte, reduceCtorEq, Nat.reduceEqDiff, Nat.reduceAdd, Nat.reduceSub, Nat.reduceMul, Nat.reduceLeDiff, Nat.reduceLT, Int.reduceLT, Int.reduceLE, Int.reduceToNat, Int.reduceEq, Int.cast_ofNat_Int, g3, g4, g8, g9, g10, g49, g50, g51]
                refine nextQ_normal (es.length - (j + 1)) (by omega) (St.le_s (s := s1) (by repeat (first | exact SExt.refl _ | (refine SExt.old ?_ (by first | (simp only [*]; done) | (simp only [upd_none]; assumption) | (simp only [upd_none, *, not_false_eq_true, and_self]; done)) _)))) ?_
                refine ⟨j + 1, shown ++ [l[i]], i, .own g 44, rfl, ?_, ?_, ?_, ?_, ?_, ?_, ?_, ?_, ?_, ?_, rfl, by omega, by simp [hsh], by omega, ?_, .inr ⟨g, rfl, by simp [upd_apply], hk1.unused hg⟩, hgo⟩
                · refine KExt.old ?_ (hk1.unused hg) _
                  rcases htok with ⟨rfl, _⟩ | ⟨g', rfl, _, hu⟩
                  · exact hk1
                  · exact hk1.old hu _
                · simp only [upd_apply, Nat.reduceEqDiff, reduceIte, g3]
                · simp only [upd_apply, Nat.reduceEqDiff, reduceIte, g4]
                · simp only [upd_apply, Nat.reduceEqDiff, reduceIte, g5]
                · simp only [upd_apply, Nat.reduceEqDiff, reduceIte, g8]
                · simp only [upd_apply, Nat.reduceEqDiff, reduceIte, List.map_append, List.map_cons, List.map_nil]
                · simp only [upd_apply, Nat.reduceEqDiff, reduceIte]
                · simp only [upd_apply, Nat.reduceEqDiff, reduceIte, g49]
                · simp only [upd_apply, Nat.reduceEqDiff, reduceIte, g50]
                · simp only [upd_apply, Nat.reduceEqDiff, reduceIte]
                  rw [wrap64 (by omega) (by omega)]
                  rfl
                · intro x hx'
                  rcases List.mem_append.1 hx' with h | h
                  · exact hin x h
                  · rw [List.mem_singleton.1 h]; exact hx
        · have e3 : shows l[i] = false := by simpa using h_
          refine hfail ?_ _ _ _ ?_ (by repeat (first | exact SExt.refl _ | (refine SExt.old ?_ (by first | (simp only [*]; done) | (simp only [upd_none]; assumption) | (simp only [upd_none, *, not_false_eq_true, and_self]; done)) _))) hk1
          · rw [hgo, e3]; rfl
          · simp only [upd_apply, Nat.reduceEqDiff, reduceIte]
      · have e3 : ¬ es[j] < l.length := by
          simp at h_
          omega
        refine hfail ?_ _ _ _ ?_ (by repeat (first | exact SExt.refl _ | (refine SExt.old ?_ (by first | (simp only [*]; done) | (simp only [upd_none]; assumption) | (simp only [upd_none, *, not_false_eq_true, and_self]; done)) _))) hk1
        · rw [hgo]; simp [e3]
        · simp only [upd_apply, Nat.reduceEqDiff, reduceIte]
      · have e3 : ¬ last < es[j] := by
          simp at h_
          omega
        refine hfail ?_ _ _ _ ?_ (by repeat (first | exact SExt.refl _ | (refine SExt.old ?_ (by first | (simp only [*]; done) | (simp only [upd_none]; assumption) | (simp only [upd_none, *, not_false_eq_true, and_self]; done)) _))) hk1
        · rw [hgo]; simp [e3]
        · simp only [upd_apply, Nat.reduceEqDiff, reduceIte]
    · have hj' : ¬ j < es.length := by simpa using hge
      have hje : j = es.length := by omega
      subst hje
      simp only [sZ, initT, optI, splice, reduceIte, reduceCtorEq, Nat.reduceEqDiff, Nat.reduceAdd, Nat.reduceSub, Nat.reduceMul, Nat.reduceLeDiff, Nat.reduceLT, Int.reduceLT, Int.reduceLE, Int.reduceToNat, Int.reduceEq, Int.cast_ofNat_Int]
      refine hok ?_ _ _ ?_ ?_ hk1
      · rw [hgo, List.drop_length]
        rfl
      · simp only [upd_apply, Nat.reduceEqDiff, reduceIte, g4, h4]
      · simp only [upd_apply, Nat.reduceEqDiff, reduceIte, g5]

def dropsF (l : List Edit) : Nat := l.countP fun e => decide (e.op = 5)
theorem acc2 (l : List Edit) {s : Nat → Option Blk} {k : Nat → Tk} {t : Nat → A} {Q : PX → St → Prop} (hl : l.length < 4611686018427387904) (h89 : t 89 = .sl 15 (l.map encEdit) .no) (h90 : t 90 = .int .i64 l.length) (h91 : t 91 = .int .i64 0) (h13 : t 13 = .int .i64 0)
    (hok : ∀ t', t' 4 = t 4 → t' 5 = t 5 → t' 13 = .int .i64 (dropsF l) → Q (.exit 2) ⟨t', s, k⟩) : pwp prg (.loop pc8L2) Q ⟨t, s, k⟩ := by
  refine loop_intro (fun n st => ∃ j : Nat, st.s = s ∧ st.k = k ∧ st.t 4 = t 4 ∧ st.t 5 = t 5 ∧ st.t 89 = .sl 15 (l.map encEdit) .no ∧ st.t 90 = .int .i64 l.length ∧ st.t 91 = .int .i64 j ∧ st.t 13 = .int .i64 (dropsF (l.take j)) ∧ n = l.length - j ∧ j ≤ l.length) l.length ?_ ?_
  · exact ⟨0, rfl, rfl, rfl, rfl, h89, h90, h91, h13, by omega, by omega⟩
  · rintro n ⟨t1, s1, k1⟩ ⟨j, hs1, hk1, g4, g5, g89, g90, g91, g13, rfl, hj⟩
    dsimp only at hs1 hk1 g4 g5 g89 g90 g91 g13
    subst hs1 hk1
    have hd : dropsF (l.take j) ≤ j := by
      have := List.countP_le_length (p := fun e : Edit => decide (e.op = 5)) (l := l.take j)
      rw [List.length_take] at this
      unfold dropsF
      omega
    unfold pc8L2
    simp only [sZ, initT, optI, splice, reduceIte, reduceCtorEq, Nat.reduceEqDiff, Nat.reduceAdd, Nat.reduceSub, Nat.reduceMul, Nat.reduceLeDiff, Nat.reduceLT, Int.reduceLT, Int.reduceLE, Int.reduceToNat, Int.reduceEq, Int.cast_ofNat_Int, g89, g90, g91]
    refine brC_in (fun hlt => ?_) (fun hge => ?_)
    · have hj' : j < l.length := by simpa using hlt
      have hgl : (l.map encEdit)[j]? = some (encEdit l[j]) := editE.get hj'
      have hop : (encEdit l[j])[0]? = some (.int .i64 l[j].op) := rfl
      have ht : dropsF (l.take (j + 1)) = dropsF (l.take j) + if l[j].op = 5 then 1 else 0 := by
        unfold dropsF
        rw [List.take_succ_eq_append_getElem hj', List.countP_append, List.countP_singleton]
        simp
      repeat' (first | (first | (with_reducible refine newS_in ?_; intro _ hid_; simp only [upd_none] at hid_) | (with_reducible refine newR_in ?_; intro _ hid_ hih_; simp only [upd_none, upd_none', rr_eqs2, and_true] at hid_ hih_) | (with_reducible refine mkmS_in ?_; intro _ hid_; simp only [upd_none] at hid_)) | (with_reducible refine brC_in (fun h_ => ?_) (fun h_ => ?_)) | (with_reducible refine brG_in (fun h_ => ?_) (fun h_ => ?_)) | (with_reducible refine brN_in (fun h_ => ?_) (fun h_ => ?_)) | simp only [sZ, initT, optI, splice, reduceIte, reduceCtorEq, Nat.reduceEqDiff, Nat.reduceAdd, Nat.reduceSub, Nat.reduceMul, Nat.reduceLeDiff, Nat.reduceLT, Int.reduceLT, Int.reduceLE, Int.reduceToNat, Int.reduceEq, Int.cast_ofNat_Int, *, -hlt, -hok, -ht, hgl, hop, g89, g90, g91, g13, len_encEdit, wh_encEdit, st_encEdit])
      all_goals
        refine nextQ_normal (l.length - (j + 1)) (by omega) (St.le_s (s := s1) (by repeat (first | exact SExt.refl _ | (refine SExt.old ?_ (by first | (simp only [*]; done) | (simp only [upd_none]; assumption) | (simp only [upd_none, *, not_false_eq_true, and_self]; done)) _)))) ?_
        refine ⟨j + 1, rfl, rfl, ?_, ?_, ?_, ?_, ?_, ?_, rfl, by omega⟩
        · simp only [upd_apply, Nat.reduceEqDiff, reduceIte, g4]
        · simp only [upd_apply, Nat.reduceEqDiff, reduceIte, g5]
        · simp only [upd_apply, Nat.reduceEqDiff, reduceIte, g89]
        · simp only [upd_apply, Nat.reduceEqDiff, reduceIte, g90]
        · simp only [upd_apply, Nat.reduceEqDiff, reduceIte, g91]
          rw [wrap64 (by omega) (by omega)]
          rfl
        · simp only [upd_apply, Nat.reduceEqDiff, reduceIte, g13]
          simp only [decide_eq_true_eq, decide_eq_false_iff_not] at h_
          rw [ht]
          first
            | rw [if_pos h_, wrap64 (by omega) (by omega)]; rfl
            | rw [if_neg h_]; rfl
    · have hj' : ¬ j < l.length := by simpa using hge
      have hje : j = l.length := by omega
      subst hje
      simp only [sZ, initT, optI, splice, reduceIte, reduceCtorEq, Nat.reduceEqDiff, Nat.reduceAdd, Nat.reduceSub, Nat.reduceMul, Nat.reduceLeDiff, Nat.reduceLT, Int.reduceLT, Int.reduceLE, Int.reduceToNat, Int.reduceEq, Int.cast_ofNat_Int]
      refine hok _ ?_ ?_ ?_
      · simp only [upd_apply, Nat.reduceEqDiff, reduceIte, g4]
      · simp only [upd_apply, Nat.reduceEqDiff, reduceIte, g5]
      · simp only [upd_apply, Nat.reduceEqDiff, reduceIte, g13, List.take_length]
end Go.Pv
