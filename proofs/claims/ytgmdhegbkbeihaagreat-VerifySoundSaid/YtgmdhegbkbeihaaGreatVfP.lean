/- What verify accepts and what evidence finds: the plain law. -/
import Derived.Test.YtgmdhegbkbeihaaGreatFstP
import Derived.Test.YtgmdhegbkbeihaaGreatEvY
import Derived.Test.YtgmdhegbkbeihaaGreatLawO
set_option linter.unusedVariables false
set_option linter.unusedSimpArgs false
set_option maxRecDepth 4000
set_option maxHeartbeats 4000000
namespace Go.Pv
open Go

theorem tagG_any (l : List Tag) (k : ByteArray) : (tagG l k).2 = l.any fun t => decide (t.key = k) := by
  unfold tagG
  rw [← List.isSome_find?]
  cases l.find? (fun t => decide (t.key = k)) <;> rfl
theorem on_grid {x y : Int} (h : gridF x y = true) : onF x y = true ∧ 0 ≤ x ∧ x < 1048576 ∧ 0 ≤ y ∧ y < 1048576 := by
  unfold gridF at h
  simp only [Bool.and_eq_true, decide_eq_true_eq] at h
  obtain ⟨h1, h2, h3, h4⟩ := h
  refine ⟨?_, h1, h2, h3, h4⟩
  unfold onF
  rw [Bool.and_eq_true, decide_eq_true_eq, decide_eq_true_eq]
  omega
theorem chain_mem {α : Type} {ok : ByteArray → α → Bool} {key : α → ByteArray} : ∀ {l : List α} {a : ByteArray}, chain ok key a l = true → ∀ x ∈ l, ∃ b, ok b x = true
  | [], _, _, x, hx => by cases hx
  | y :: l, a, h, x, hx => by
    simp only [chain, Bool.and_eq_true] at h
    rcases List.mem_cons.1 hx with rfl | hx
    · exact ⟨a, h.1⟩
    · exact chain_mem h.2 x hx
theorem obj_of_map {m : List Obj} (h : mapV m = true) {o : Obj} (ho : o ∈ m) : objV o = true := by
  unfold mapV at h
  rw [Bool.and_eq_true] at h
  obtain ⟨b, hb⟩ := chain_mem h.1 o ho
  unfold inMap at hb
  rw [Bool.and_eq_true] at hb
  exact hb.1
theorem grid_of_node {o : Obj} (h : objV o = true) (hk : o.kind = 1) : gridF o.x o.y = true := by
  unfold objV tailV at h
  rw [decide_eq_true hk] at h
  simp only [Bool.and_eq_true, cond_true] at h
  exact h.2.2.2.2.2.2.2
theorem shows_eq {m : List Obj} {e : Edit} {κ : Int} (hm : mapV m = true) (he : editV e = true) (h1 : 1 ≤ κ) (h4 : κ ≤ 4) : showsF κ m e = showE m κ e := by
  have : κ = 1 ∨ κ = 2 ∨ κ = 3 ∨ κ = 4 := by omega
  rcases this with rfl | rfl | rfl | rfl
  · show ((objF m e.id).2 && decide (e.op = 5)) = (decide (e.op = 5) && (objF m e.id).2)
    rw [Bool.and_comm]
  · show (decide (e.op = 3) && decide (e.key = nameB) && decide (e.val = ⟨#[]⟩) && (objF m e.id).1.tags.any fun t => decide (t.key = nameB)) = (decide (e.op = 3) && (decide (e.key = ⟨#[110, 97, 109, 101]⟩) && (decide (e.val = ⟨#[]⟩) && (tagG (objF m e.id).1.tags ⟨#[110, 97, 109, 101]⟩).2)))
    rw [tagG_any]
    simp only [Bool.and_assoc]
    rfl
  · show (decide (e.op = 2) && decide ((objF m e.id).1.kind = 1) && onF (objF m e.id).1.x (objF m e.id).1.y && onF e.x e.y && farF e.x e.y (objF m e.id).1.x (objF m e.id).1.y) = (decide (e.op = 2) && ((objF m e.id).2 && (decide ((objF m e.id).1.kind = 1) && decide (1000000 ≤ distF (objF m e.id).1.x (objF m e.id).1.y e.x e.y))))
    by_cases c : e.op = 2
    · by_cases ck : (objF m e.id).1.kind = 1
      · have hin : (objF m e.id).2 = true ∧ (objF m e.id).1 ∈ m := by
          unfold objF at ck ⊢
          split
          · rename_i o ho
            exact ⟨rfl, List.mem_of_find?_eq_some ho⟩
          · rename_i ho
            rw [ho] at ck
            exact absurd ck (by decide)
        obtain ⟨g1, g2, g3, g4, g5⟩ := on_grid (grid_of_node (obj_of_map hm hin.2) ck)
        have hE : onF e.x e.y = true ∧ 0 ≤ e.x ∧ e.x < 1048576 ∧ 0 ≤ e.y ∧ e.y < 1048576 := by
          unfold editV okE at he
          rw [if_neg (by omega), if_pos c] at he
          simp only [Bool.and_eq_true, decide_eq_true_eq] at he
          have := he.2.1.2
          unfold onF
          rw [Bool.and_eq_true, decide_eq_true_eq, decide_eq_true_eq]
          omega
        obtain ⟨k1, k2, k3, k4, k5⟩ := hE
        rw [decide_eq_true c, decide_eq_true ck, g1, k1, hin.1]
        simp only [Bool.true_and]
        generalize (objF m e.id).1 = o at *
        unfold farF distF
        have hn : [(o.x, o.y), (e.x, e.y)].all nearP = true := by
          simp only [List.all_cons, List.all_nil, Bool.and_true, nearP, Bool.and_eq_true, Bool.not_eq_true', Bool.or_eq_false_iff, decide_eq_false_iff_not]
          omega
        rw [hn, cond_true]
        have w1 : IntKind.i64.wrap (e.x - o.x) = e.x - o.x := wrap64 (by omega) (by omega)
        have w2 : IntKind.i64.wrap (e.y - o.y) = e.y - o.y := wrap64 (by omega) (by omega)
        have q1 := @sq_bound (e.x - o.x) (by omega) (by omega)
        have q2 := @sq_bound (e.y - o.y) (by omega) (by omega)
        have w3 : IntKind.i64.wrap ((e.x - o.x) * (e.x - o.x)) = (e.x - o.x) * (e.x - o.x) := wrap64 (by omega) (by omega)
        have w4 : IntKind.i64.wrap ((e.y - o.y) * (e.y - o.y)) = (e.y - o.y) * (e.y - o.y) := wrap64 (by omega) (by omega)
        rw [w1, w2, w3, w4, wrap64 (by omega) (by omega)]
      · rw [decide_eq_false ck]
        simp
    · rw [decide_eq_false c]
      simp
  · rfl
theorem togs_eq (κ : Int) (a b : Edit) : togF κ a b = togE κ a b := by
  unfold togF togE
  by_cases c : κ = 4
  · rw [if_pos c, if_pos c]
    unfold alikeF
    rw [Bool.and_assoc]
  · rw [if_neg c, if_neg c]
    rfl
theorem many_eq {κ : Int} (h1 : 1 ≤ κ) (h4 : κ ≤ 4) : manyF κ = ((manyE κ : Nat) : Int) := by
  have : κ = 1 ∨ κ = 2 ∨ κ = 3 ∨ κ = 4 := by omega
  rcases this with rfl | rfl | rfl | rfl <;> rfl
theorem go_of (shows : Edit → Bool) (tog : Edit → Edit → Bool) (l : List Edit) : ∀ (f : List Nat) (shown : List Edit) (last : Int), (∀ i ∈ f, last < (i : Int) ∧ i < l.length ∧ shows (atE l i) = true ∧ ∀ y ∈ shown, tog y (atE l i) = true) →
    f.Pairwise (· < ·) → (f.Pairwise fun a b => tog (atE l a) (atE l b) = true) → goF shows tog l (f.map Int.ofNat) shown last = true
  | [], _, _, _, _, _ => rfl
  | i :: f, shown, last, h, h2, h3 => by
    obtain ⟨a1, a2, a3, a4⟩ := h i List.mem_cons_self
    obtain ⟨b1, b2⟩ := List.pairwise_cons.1 h2
    obtain ⟨c1, c2⟩ := List.pairwise_cons.1 h3
    rw [List.map_cons, goF_cons]
    have e1 : decide (last < Int.ofNat i) = true := decide_eq_true a1
    have e2 : decide (Int.ofNat i < (l.length : Int)) = true := decide_eq_true (by simp only [Int.ofNat_eq_natCast]; omega)
    have e3 : l[(Int.ofNat i).toNat]? = some l[i] := List.getElem?_eq_getElem a2
    have e4 : (shown.any fun y => !tog y l[i]) = false := by
      rw [List.any_eq_false]
      intro y hy
      have := a4 y hy
      rw [atE_get a2] at this
      rw [this]
      simp
    rw [atE_get a2] at a3
    rw [e1, e2, e3]
    dsimp only
    rw [a3, e4, go_of shows tog l f (shown ++ [l[i]]) (Int.ofNat i) (fun j hj => ?_) b2 c2]
    · rfl
    · obtain ⟨d1, d2, d3, d4⟩ := h j (List.mem_cons_of_mem _ hj)
      refine ⟨by have := b1 j hj; simp only [Int.ofNat_eq_natCast]; omega, d2, d3, fun y hy => ?_⟩
      rcases List.mem_append.1 hy with hy | hy
      · exact d4 y hy
      · rw [List.mem_singleton.1 hy, ← atE_get a2]
        exact c1 j hj
theorem go_to (shows : Edit → Bool) (tog : Edit → Edit → Bool) (l : List Edit) : ∀ (es : List Int) (shown : List Edit) (last : Int), -1 ≤ last → goF shows tog l es shown last = true →
    ∃ f : List Nat, es = f.map Int.ofNat ∧ (∀ i ∈ f, last < (i : Int) ∧ i < l.length ∧ shows (atE l i) = true ∧ ∀ y ∈ shown, tog y (atE l i) = true) ∧ f.Pairwise (· < ·) ∧ (f.Pairwise fun a b => tog (atE l a) (atE l b) = true)
  | [], _, _, _, _ => ⟨[], rfl, fun i h => (by cases h), .nil, .nil⟩
  | x :: es, shown, last, h0, h => by
    rw [goF_cons] at h
    simp only [Bool.and_eq_true, decide_eq_true_eq] at h
    obtain ⟨⟨h1, h2⟩, h3⟩ := h
    obtain ⟨i, rfl⟩ : ∃ i : Nat, x = i := ⟨x.toNat, by omega⟩
    have hi : i < l.length := by omega
    have e3 : l[((i : Nat) : Int).toNat]? = some l[i] := by rw [Int.toNat_natCast]; exact List.getElem?_eq_getElem hi
    rw [e3] at h3
    simp only [Bool.and_eq_true, Bool.not_eq_true', List.any_eq_false] at h3
    obtain ⟨⟨h4, h5⟩, h6⟩ := h3
    obtain ⟨f, rfl, g1, g2, g3⟩ := go_to shows tog l es (shown ++ [l[i]]) (i : Int) (by omega) h6
    refine ⟨i :: f, rfl, fun j hj => ?_, List.pairwise_cons.2 ⟨fun j hj => by have := (g1 j hj).1; omega, g2⟩, List.pairwise_cons.2 ⟨fun j hj => ?_, g3⟩⟩
    · rcases List.mem_cons.1 hj with rfl | hj
      · rw [atE_get hi]
        refine ⟨h1, hi, h4, fun y hy => ?_⟩
        have := h5 y hy
        simpa using this
      · obtain ⟨a, b, c, d⟩ := g1 j hj
        exact ⟨by omega, b, c, fun y hy => d y (List.mem_append_left _ hy)⟩
    · rw [atE_get hi]
      exact (g1 j hj).2.2.2 _ (List.mem_append_right _ (List.mem_singleton.2 rfl))
theorem accept_taken {m : List Obj} {l : List Edit} {κ : Int} {f : List Nat} (hm : mapV m = true) (he : ∀ e ∈ l, editV e = true) (h1 : 1 ≤ κ) (h4 : κ ≤ 4) (hlen : f.length = manyE κ) (hd : ¬ (κ = 1 ∧ 2 * dropsF l ≤ l.length)) (hb : ∀ i ∈ f, i < l.length) (h : Taken m l κ f) : acceptF m l ⟨κ, f.map Int.ofNat⟩ = true := by
  have hg : goF (showsF κ m) (togF κ) l (f.map Int.ofNat) [] (-1) = true := by
    refine go_of _ _ l f [] (-1) (fun i hi => ⟨by omega, hb i hi, ?_, fun y hy => by cases hy⟩) h.inc ?_
    · rw [shows_eq hm (by rw [atE_get (hb i hi)]; exact he _ (List.getElem_mem _)) h1 h4]
      exact h.show_ i hi
    · exact h.tog.imp fun hab => by rw [togs_eq]; exact hab
  unfold acceptF
  dsimp only
  have e5 : (!decide (κ = 1) || decide ((l.length : Int) - (dropsF l : Nat) < (dropsF l : Nat))) = true := by
    by_cases c : κ = 1
    · rw [decide_eq_true (by omega : (l.length : Int) - (dropsF l : Nat) < (dropsF l : Nat)), Bool.or_true]
    · rw [decide_eq_false c]
      rfl
  rw [decide_eq_true h1, decide_eq_true h4, List.length_map, many_eq h1 h4, decide_eq_true (by omega : ((f.length : Nat) : Int) = ((manyE κ : Nat) : Int)), hg, e5]
  rfl
theorem accept_find {m : List Obj} {l : List Edit} (hc : closedF m = true) (hv : changeV l = true) (h0 : findE m l ≠ ⟨0, []⟩) : acceptF m l (findE m l) = true := by
  rcases findE_cases m l with ⟨h, _⟩ | ⟨κ, h1, h4, hk, _⟩
  · exact absurd h h0
  · obtain ⟨hd, i, hi, _, _, hfu, he⟩ := kindE_some hk
    rw [he]
    have hlen : (firstE m l κ i).length = manyE κ := by
      unfold fullE at hfu
      simpa using hfu
    have ht : Taken m l κ (firstE m l κ i) := firstS_taken m l κ (manyE κ) i _
    have hb : ∀ x ∈ firstE m l κ i, x < l.length := fun x hx => by
      have := (firstS_mem (fitsE m κ) l (manyE κ) i (l.length - i) x hx).2
      omega
    have hm : mapV m = true := by
      unfold closedF at hc
      rw [Bool.and_eq_true] at hc
      exact hc.1
    have hed : ∀ e ∈ l, editV e = true := by
      unfold changeV at hv
      simp only [Bool.and_eq_true, List.all_eq_true] at hv
      exact hv.2.2
    exact accept_taken hm hed h1 h4 hlen hd hb ht
theorem accept_none (m : List Obj) (l : List Edit) : acceptF m l ⟨0, []⟩ = false := rfl
theorem accept_holds {m : List Obj} {l : List Edit} {e : Evid} (hc : closedF m = true) (hv : changeV l = true) (h : acceptF m l e = true) : holdsF m l e = true := by
  obtain ⟨κ, es⟩ := e
  unfold acceptF at h
  simp only [Bool.and_eq_true, decide_eq_true_eq] at h
  obtain ⟨⟨⟨⟨h1, h4⟩, hlen⟩, hg⟩, hd⟩ := h
  obtain ⟨f, rfl, g1, g2, g3⟩ := go_to _ _ l es [] (-1) (by omega) hg
  have hm : mapV m = true := by
    unfold closedF at hc
    rw [Bool.and_eq_true] at hc
    exact hc.1
  have hed : ∀ e ∈ l, editV e = true := by
    unfold changeV at hv
    simp only [Bool.and_eq_true, List.all_eq_true] at hv
    exact hv.2.2
  rw [List.length_map, many_eq h1 h4] at hlen
  refine holds_taken h1 h4 (by omega) (fun c => ?_) (fun i hi => (g1 i hi).2.1) ⟨g2, fun i hi => ?_, g3.imp fun hab => by rw [← togs_eq]; exact hab⟩
  · rw [decide_eq_true c.1] at hd
    simp at hd
    omega
  · obtain ⟨_, a, b, _⟩ := g1 i hi
    rw [← shows_eq hm (by rw [atE_get a]; exact hed _ (List.getElem_mem _)) h1 h4]
    exact b
theorem fewA_fit {m : List Obj} {l : List Edit} {e : Evid} (h : fewA m l e = true) (hm : ∀ o ∈ m, ObjSm o) (hl : ∀ e ∈ l, ObjSm e.obj) : m.length ≤ 40 ∧ l.length ≤ 40 ∧ e.edits.length ≤ 10 ∧ MapFit m ∧ ∀ e ∈ l, EditFit e := by
  simp only [fewA, Bool.and_eq_true, Bool.not_eq_true', decide_eq_false_iff_not, decide_eq_true_eq, List.all_eq_true] at h
  obtain ⟨⟨⟨h1, h2⟩, h3, h4⟩, h5⟩ := h
  exact ⟨by omega, by omega, by omega, ⟨by omega, fun o ho => fit_M (h2 o ho) (hm o ho)⟩, fun e he => fit_E (h4 e he) (hl e he)⟩
theorem spec_foundLaw (m : List Obj) (l : List Edit) (hm : ∀ o ∈ m, ObjSm o) (hl : ∀ e ∈ l, ObjSm e.obj) {s : Nat → Option Blk} {k : Nat → Tk} : Spec prg 7 [.agg (encMap m), .sl 15 (l.map encEdit) .no] s k (.bool true) s k := by
  refine spec_tr prg_mixed tr_plaw32_VerifyFound (Nat.le_of_ble_eq_true rfl) rfl ?_
  unfold pc_plaw32_VerifyFound rs_plaw32_VerifyFound
  have hfew : ∀ t s k, Spec prg 21 [.agg [.sl 6 (m.map encObj) .no], .sl 15 (l.map encEdit) .no, .agg [.int .i64 0, .sl 1 [] t]] s k (.bool (fewA m l ⟨0, []⟩)) s k := fun t s k =>
    Spec.args (@spec7 m l ⟨0, []⟩ s k) (.cons (A.le_refl _) (.cons (A.le_refl _) (.cons (A.le_agg (.cons (A.le_refl _) (.cons (A.le_no _ _ _) .nil))) .nil)))
  simp only [sZ, initT, optI, splice, reduceIte, reduceCtorEq, Nat.reduceEqDiff, Nat.reduceAdd, Nat.reduceSub, Nat.reduceMul, Nat.reduceLeDiff, Nat.reduceLT, Int.reduceLT, Int.reduceLE, Int.reduceToNat, Int.reduceEq, Int.cast_ofNat_Int, encMap]
  (with_reducible refine newS_in ?_); intro b2 f2; simp only [upd_none] at f2
  simp only [sZ, initT, optI, splice, reduceIte, reduceCtorEq, Nat.reduceEqDiff, Nat.reduceAdd, Nat.reduceSub, Nat.reduceMul, Nat.reduceLeDiff, Nat.reduceLT, Int.reduceLT, Int.reduceLE, Int.reduceToNat, Int.reduceEq, Int.cast_ofNat_Int, f2]
  refine callS_quiet spec6 ?_
  simp only [sZ, initT, optI, splice, reduceIte, reduceCtorEq, Nat.reduceEqDiff, Nat.reduceAdd, Nat.reduceSub, Nat.reduceMul, Nat.reduceLeDiff, Nat.reduceLT, Int.reduceLT, Int.reduceLE, Int.reduceToNat, Int.reduceEq, Int.cast_ofNat_Int, f2]
  refine callS_quiet (hfew _ _ _) ?_
  cases hfw : fewA m l ⟨0, []⟩
  · simp only [sZ, initT, optI, splice, reduceIte, reduceCtorEq, Nat.reduceEqDiff, Nat.reduceAdd, Nat.reduceSub, Nat.reduceMul, Nat.reduceLeDiff, Nat.reduceLT, Int.reduceLT, Int.reduceLE, Int.reduceToNat, Int.reduceEq, Int.cast_ofNat_Int, f2, Bool.not_false]
    refine OutQ.eq (by repeat (first | exact SExt.refl _ | (refine SExt.old ?_ (by first | (simp only [*]; done) | (simp only [upd_none]; assumption) | (simp only [upd_none, *, not_false_eq_true, and_self]; done)) _))) rfl
  simp only [sZ, initT, optI, splice, reduceIte, reduceCtorEq, Nat.reduceEqDiff, Nat.reduceAdd, Nat.reduceSub, Nat.reduceMul, Nat.reduceLeDiff, Nat.reduceLT, Int.reduceLT, Int.reduceLE, Int.reduceToNat, Int.reduceEq, Int.cast_ofNat_Int, f2, Bool.not_true]
  obtain ⟨n1, n2, _, hmf, hlf⟩ := fewA_fit hfw hm hl
  have hF := fun s k => @spec_Find m l hmf (by omega) hlf s k
  have hA := fun s k => @spec8 m l (findF m l) s k hmf.len (fun o ho => (hmf.obj o ho).tags) (by omega) (fun e he => (hlf e he).obj.tags)
  simp only [encMap] at hF hA
  clear hfew hfw hm hl
  refine callS_quiet (hF _ _) ?_
  by_cases h0 : findF m l = ⟨0, []⟩
  · rw [h0, accept_none] at hA
    rw [h0]
    simp only [encEvid] at hA
    simp only [sZ, initT, optI, splice, reduceIte, reduceCtorEq, Nat.reduceEqDiff, Nat.reduceAdd, Nat.reduceSub, Nat.reduceMul, Nat.reduceLeDiff, Nat.reduceLT, Int.reduceLT, Int.reduceLE, Int.reduceToNat, Int.reduceEq, Int.cast_ofNat_Int, f2, encEvid]
    (with_reducible refine newS_in ?_); intro b6 f6; simp only [upd_none] at f6
    simp only [sZ, initT, optI, splice, reduceIte, reduceCtorEq, Nat.reduceEqDiff, Nat.reduceAdd, Nat.reduceSub, Nat.reduceMul, Nat.reduceLeDiff, Nat.reduceLT, Int.reduceLT, Int.reduceLE, Int.reduceToNat, Int.reduceEq, Int.cast_ofNat_Int, f2, f6]
    refine callS_quiet (hA _ _) ?_
    simp only [sZ, initT, optI, splice, reduceIte, reduceCtorEq, Nat.reduceEqDiff, Nat.reduceAdd, Nat.reduceSub, Nat.reduceMul, Nat.reduceLeDiff, Nat.reduceLT, Int.reduceLT, Int.reduceLE, Int.reduceToNat, Int.reduceEq, Int.cast_ofNat_Int, f2, f6, Bool.not_false]
    refine OutQ.eq (by repeat (first | exact SExt.refl _ | (refine SExt.old ?_ (by first | (simp only [*]; done) | (simp only [upd_none]; assumption) | (simp only [upd_none, *, not_false_eq_true, and_self]; done)) _))) rfl
  · have hcc : closedF m = true ∧ changeV l = true := by
      by_cases h : closedF m = true ∧ changeV l = true
      · exact h
      · exact absurd (by unfold findF; rw [if_neg h]) h0
    have hfe : findF m l = findE m l := by unfold findF; rw [if_pos hcc]
    have g1 : (findF m l).kind ≠ 0 := by
      rw [hfe]
      rcases find_holds m l with h | h
      · exact absurd (by rw [hfe, h]) h0
      · exact h.1
    have g2 : acceptF m l (findF m l) = true := by
      rw [hfe]
      exact accept_find hcc.1 hcc.2 (by rw [← hfe]; exact h0)
    rw [g2] at hA
    clear hfe h0 g2
    generalize findF m l = e at *
    obtain ⟨kd, es⟩ := e
    dsimp only at g1
    have d0 : decide (kd = 0) = false := decide_eq_false g1
    simp only [encEvid] at hA
    simp only [sZ, initT, optI, splice, reduceIte, reduceCtorEq, Nat.reduceEqDiff, Nat.reduceAdd, Nat.reduceSub, Nat.reduceMul, Nat.reduceLeDiff, Nat.reduceLT, Int.reduceLT, Int.reduceLE, Int.reduceToNat, Int.reduceEq, Int.cast_ofNat_Int, f2, encEvid]
    (with_reducible refine newS_in ?_); intro b6 f6; simp only [upd_none] at f6
    simp only [sZ, initT, optI, splice, reduceIte, reduceCtorEq, Nat.reduceEqDiff, Nat.reduceAdd, Nat.reduceSub, Nat.reduceMul, Nat.reduceLeDiff, Nat.reduceLT, Int.reduceLT, Int.reduceLE, Int.reduceToNat, Int.reduceEq, Int.cast_ofNat_Int, f2, f6, d0]
    refine callS_quiet (hA _ _) ?_
    simp only [sZ, initT, optI, splice, reduceIte, reduceCtorEq, Nat.reduceEqDiff, Nat.reduceAdd, Nat.reduceSub, Nat.reduceMul, Nat.reduceLeDiff, Nat.reduceLT, Int.reduceLT, Int.reduceLE, Int.reduceToNat, Int.reduceEq, Int.cast_ofNat_Int, f2, f6, d0]
    refine OutQ.eq (by repeat (first | exact SExt.refl _ | (refine SExt.old ?_ (by first | (simp only [*]; done) | (simp only [upd_none]; assumption) | (simp only [upd_none, *, not_false_eq_true, and_self]; done)) _))) rfl
end Go.Pv
