/- Slices that the call owns: clone and insert, step by step. -/
import Derived.Test.YtlcacobkiglmbaaBoxV
set_option linter.unusedVariables false
set_option linter.unusedSimpArgs false
set_option maxRecDepth 4000
set_option maxHeartbeats 4000000
namespace Go.Pv
open Go

theorem cpy_in {esz id off n c : Nat} {cs : List A} {x : A} {st : St} {K : A → St → Prop} (hs : st.s id = some (.cells cs)) (h1 : off + n * esz ≤ cs.length) (h2 : n ≤ c) (m : Nat) (ds : List A) (hx : ∀ Q : Nat → List A → Prop, Q m ds → srcP st.s esz x Q)
    (hK : K (.int .i64 ((Nat.min m n : Nat) : Int)) ⟨st.t, upd st.s id (some (.cells (splice cs off (ds.take (Nat.min m n * esz))))), st.k⟩) : cpyS esz (.sb id off esz n c) x st K := by
  show (match st.s id with
    | some (.cells cs) => esz = esz ∧ off + n * esz ≤ cs.length ∧ n ≤ c ∧ srcP st.s esz x fun m ds =>
        K (.int .i64 ((Nat.min m n : Nat) : Int)) ⟨st.t, upd st.s id (some (.cells (splice cs off (ds.take (Nat.min m n * esz))))), st.k⟩
    | _ => False)
  rw [hs]
  exact ⟨rfl, h1, h2, hx _ hK⟩
theorem src_sl {s : Hp} {esz : Nat} (xs : List (List A)) (t : Tok) (Q : Nat → List A → Prop) (h : Q xs.length (flatS xs)) : srcP s esz (.sl esz xs t) Q := ⟨.inl rfl, h⟩
theorem src_sb {s : Hp} {esz id off n c : Nat} {cs : List A} (hs : s id = some (.cells cs)) (h1 : off + n * esz ≤ cs.length) (Q : Nat → List A → Prop) (h : Q n (((cs.drop off).take (n * esz)).map A.strip)) : srcP s esz (.sb id off esz n c) Q := by
  show (match s id with
    | some (.cells cs) => esz = esz ∧ off + n * esz ≤ cs.length ∧ Q n (((cs.drop off).take (n * esz)).map A.strip)
    | _ => False)
  rw [hs]
  exact ⟨rfl, h1, h⟩
theorem appz_in {esz bytes id n c : Nat} {z cs : List A} {m : Nat} {st : St} {K : A → St → Prop} (hs : st.s id = some (.cells cs)) (h1 : n * esz ≤ cs.length) (h2 : n ≤ c) (h3 : c < n + m) (h5 : (n + m) * bytes ≤ 140737488355328)
    (hK : ∀ id' c', st.s id' = none → n + m ≤ c' → c' ≤ maxLen → K (.sb id' 0 esz (n + m) c') ⟨st.t, upd st.s id' (some (.cells ((cs.take (n * esz)).map A.strip ++ (List.replicate m z).flatten ++ List.replicate ((c' - (n + m)) * esz) .undef))), st.k⟩) :
    appZS esz bytes z (.sb id 0 esz n c) (.int .i64 (m : Int)) st K := by
  show (match st.s id with
    | some (.cells cs) => esz = esz ∧ 0 + n * esz ≤ cs.length ∧ n ≤ c ∧ (c : Int) < n + (m : Int) ∧ appN esz bytes z n (((cs.drop 0).take (n * esz)).map A.strip) m st K
    | _ => False)
  rw [hs]
  refine ⟨rfl, by omega, h2, by omega, by omega, by simpa using h5, fun id' c' g1 g2 g3 => ?_⟩
  have := hK id' c' g1 (by simpa using g2) g3
  rw [List.drop_zero]
  simpa using this
/-- A clone: as GrowB, or empty and not nil. -/
def CloB (base hp : Hp) (v : A) (xs : List (List A)) : Prop := GrowB base 6 hp v xs ∨ (xs = [] ∧ v = .sl 6 [] .full ∧ SExt base hp)
theorem grow_full {base : Hp} {esz e bytes : Nat} {ys : List (List A)} {t2 : Tok} {st : St} {K : A → St → Prop} (hs : SExt base st.s) (hne : ys ≠ []) (hy : ∀ y ∈ ys, y.length = esz) (hlen : ys.length * bytes ≤ 140737488355328)
    (h : ∀ hp' v', GrowB base esz hp' v' ys → K v' ⟨st.t, hp', st.k⟩) : appBS esz e bytes (.sl esz [] .full) (.sl esz ys t2) st K := by
  obtain ⟨t, s, k⟩ := st
  dsimp only at hs h
  have hpos : 0 < ys.length := List.length_pos_iff.2 hne
  have hfy : (flatS ys).length = ys.length * esz := flatS_length hy
  refine ⟨.inl rfl, .inl rfl, .inr rfl, by simpa using hlen, fun hy0 => absurd hy0 hne, fun _ id c hid hc hcm => h _ _ ⟨SExt.old hs (SExt.none hs hid) _, hy, .inr ⟨id, c, _, by simp, SExt.none hs hid, upd_same _ _ _, hpos, by simpa using hc, hcm, ?_, ?_⟩⟩⟩
  · simp only [List.nil_append, List.length_append, List.length_replicate, hfy, List.length_nil, Nat.zero_add]
    simp only [List.length_nil, Nat.zero_add] at hc
    rw [← Nat.add_mul]
    congr 1
    omega
  · simp only [List.nil_append]
    rw [← hfy]
    exact List.take_left' rfl
theorem spec_clone (m : List Obj) (hl : m.length < 1000001) {s : Hp} {k : Nat → Tk} : SpecR prg 52 [.sl 6 (m.map encObj) .no] s k fun r s' k' => CloB s s' r (m.map encObj) ∧ k' = k := by
  refine specR_tr prg_mixed tr_slices_Clone_Object (Nat.le_of_ble_eq_true rfl) rfl ?_
  unfold pc_slices_Clone_Object rs_slices_Clone_Object
  simp only [sZ, initT, optI, splice, reduceIte, reduceCtorEq, Nat.reduceEqDiff, Nat.reduceAdd, Nat.reduceSub, Nat.reduceMul, Nat.reduceLeDiff, Nat.reduceLT, Int.reduceLT, Int.reduceLE, Int.reduceToNat, Int.reduceEq, Int.cast_ofNat_Int]
  by_cases hm : m = []
  · subst hm
    refine ⟨fun h => absurd rfl h, fun _ h => (by cases h), fun _ _ => ⟨?_, ?_⟩⟩
    · simp only [sZ, initT, optI, splice, reduceIte, reduceCtorEq, Nat.reduceEqDiff, Nat.reduceAdd, Nat.reduceSub, Nat.reduceMul, Nat.reduceLeDiff, Nat.reduceLT, Int.reduceLT, Int.reduceLE, Int.reduceToNat, Int.reduceEq, Int.cast_ofNat_Int]
      exact OutR.eq ⟨.inl ⟨SExt.refl _, by simp, .inl ⟨rfl, rfl⟩⟩, rfl⟩
    · simp only [sZ, initT, optI, splice, reduceIte, reduceCtorEq, Nat.reduceEqDiff, Nat.reduceAdd, Nat.reduceSub, Nat.reduceMul, Nat.reduceLeDiff, Nat.reduceLT, Int.reduceLT, Int.reduceLE, Int.reduceToNat, Int.reduceEq, Int.cast_ofNat_Int]
      refine ⟨.inl rfl, .inl rfl, .inr rfl, by simp, fun _ => ?_, fun h => absurd rfl h⟩
      simp only [sZ, initT, optI, splice, reduceIte, reduceCtorEq, Nat.reduceEqDiff, Nat.reduceAdd, Nat.reduceSub, Nat.reduceMul, Nat.reduceLeDiff, Nat.reduceLT, Int.reduceLT, Int.reduceLE, Int.reduceToNat, Int.reduceEq, Int.cast_ofNat_Int]
      exact OutR.eq ⟨.inr ⟨rfl, rfl, SExt.refl _⟩, rfl⟩
  · refine ⟨fun _ => ⟨by omega, ?_⟩, fun h => absurd (List.map_eq_nil_iff.1 h) hm, fun h => absurd (List.map_eq_nil_iff.1 h) hm⟩
    simp only [sZ, initT, optI, splice, reduceIte, reduceCtorEq, Nat.reduceEqDiff, Nat.reduceAdd, Nat.reduceSub, Nat.reduceMul, Nat.reduceLeDiff, Nat.reduceLT, Int.reduceLT, Int.reduceLE, Int.reduceToNat, Int.reduceEq, Int.cast_ofNat_Int]
    refine grow_full (base := s) (SExt.refl _) (fun h => hm (List.map_eq_nil_iff.1 h)) (fun y hy => by obtain ⟨o, _, rfl⟩ := List.mem_map.1 hy; rfl) (by simp; omega) fun hp' v' hG => ?_
    have hv := hG.strip
    simp only [sZ, initT, optI, splice, reduceIte, reduceCtorEq, Nat.reduceEqDiff, Nat.reduceAdd, Nat.reduceSub, Nat.reduceMul, Nat.reduceLeDiff, Nat.reduceLT, Int.reduceLT, Int.reduceLE, Int.reduceToNat, Int.reduceEq, Int.cast_ofNat_Int, hv]
    exact OutR.eq ⟨.inl hG, rfl⟩
/-- What an insertion comes to, in cells. -/
theorem ins_box {xs : List (List A)} {x : List A} {i c : Nat} {cs' : List A} (hi : i ≤ xs.length) (hx : x.length = 6) (hxs : ∀ y ∈ xs, y.length = 6) (rest : List A) (hcs : cs' = flatS (xs.take i) ++ flatS [x] ++ (flatS (xs.drop i) ++ rest)) (hl : cs'.length = c * 6) :
    cs'.take ((xs.take i ++ [x] ++ xs.drop i).length * 6) = flatS (xs.take i ++ [x] ++ xs.drop i) ∧ ∀ y ∈ xs.take i ++ [x] ++ xs.drop i, y.length = 6 := by
  have hall : ∀ y ∈ xs.take i ++ [x] ++ xs.drop i, y.length = 6 := fun y hy => by
    simp only [List.mem_append, List.mem_singleton] at hy
    rcases hy with (hy | rfl) | hy
    · exact hxs y (List.mem_of_mem_take hy)
    · exact hx
    · exact hxs y (List.mem_of_mem_drop hy)
  refine ⟨?_, hall⟩
  rw [← flatS_length hall, hcs, flatS_app, flatS_app, ← List.append_assoc]
  exact List.take_left' rfl
theorem ins_grow {base hp : Hp} {xs : List (List A)} {x : List A} {i id c : Nat} (hi : i ≤ xs.length) (hx : x.length = 6) (hxs : ∀ y ∈ xs, y.length = 6) (hb : SExt base hp) (hid : base id = none) (rest : List A) (hs : hp id = some (.cells (flatS (xs.take i) ++ flatS [x] ++ (flatS (xs.drop i) ++ rest))))
    (hl : (flatS (xs.take i) ++ flatS [x] ++ (flatS (xs.drop i) ++ rest)).length = c * 6) (hc : xs.length + 1 ≤ c) (hcm : c ≤ maxLen) : GrowB base 6 hp (.sb id 0 6 (xs.length + 1) c) (xs.take i ++ [x] ++ xs.drop i) := by
  have hlen : (xs.take i ++ [x] ++ xs.drop i).length = xs.length + 1 := by
    simp only [List.length_append, List.length_take, List.length_drop, List.length_cons, List.length_nil]
    omega
  obtain ⟨g1, g2⟩ := ins_box hi hx hxs rest rfl hl
  exact ⟨hb, g2, .inr ⟨id, c, _, by rw [hlen], hid, hs, by omega, by omega, hcm, hl, g1⟩⟩
theorem flatS_strip (xs : List (List A)) : (flatS xs).map A.strip = flatS xs := by
  have h := flatS_fix (xs := xs) (cs := flatS xs) (n := (flatS xs).length) List.take_length
  rwa [List.take_length] at h
theorem part_cells {xs : List (List A)} {cs : List A} (hxs : ∀ y ∈ xs, y.length = 6) (ht : cs.take (xs.length * 6) = flatS xs) {i : Nat} (hi : i ≤ xs.length) : ((cs.drop (i * 6)).take ((xs.length - i) * 6)).map A.strip = flatS (xs.drop i) := by
  have hP : (flatS (xs.take i)).length = i * 6 := by
    rw [flatS_length fun y hy => hxs y (List.mem_of_mem_take hy), List.length_take, Nat.min_eq_left hi]
  have e : (cs.drop (i * 6)).take ((xs.length - i) * 6) = flatS (xs.drop i) := by
    have : (cs.take (xs.length * 6)).drop (i * 6) = (cs.drop (i * 6)).take (xs.length * 6 - i * 6) := List.drop_take
    rw [Nat.sub_mul, ← this, ht, ← flatS_take_drop xs i]
    exact List.drop_left' hP
  rw [e, flatS_strip]
theorem front_cells {xs : List (List A)} {cs : List A} (hxs : ∀ y ∈ xs, y.length = 6) (ht : cs.take (xs.length * 6) = flatS xs) {i : Nat} (hi : i ≤ xs.length) : cs.take (i * 6) = flatS (xs.take i) := by
  have hP : (flatS (xs.take i)).length = i * 6 := by
    rw [flatS_length fun y hy => hxs y (List.mem_of_mem_take hy), List.length_take, Nat.min_eq_left hi]
  have : (cs.take (xs.length * 6)).take (i * 6) = cs.take (i * 6) := by
    rw [List.take_take, Nat.min_eq_left (Nat.mul_le_mul_right _ hi)]
  rw [← this, ht, ← flatS_take_drop xs i]
  exact List.take_left' hP
theorem spec_insert (xs : List (List A)) (x : List A) (i : Nat) (hi : i ≤ xs.length) (hx : x.length = 6) (hlen : xs.length < 1000001) (base : Hp) (v : A) {s : Hp} {k : Nat → Tk} (hG : CloB base s v xs) :
    SpecR prg 53 [v, .int .i64 i, .sl 6 [x] .full] s k fun r s' k' => GrowB base 6 s' r (xs.take i ++ [x] ++ xs.drop i) ∧ k' = k := by
  have hG0 := hG
  have hempty : ∀ t : Tok, t = .nil ∨ t = .full → xs = [] → v = .sl 6 [] t → SExt base s → SpecR prg 53 [v, .int .i64 i, .sl 6 [x] .full] s k fun r s' k' => GrowB base 6 s' r (xs.take i ++ [x] ++ xs.drop i) ∧ k' = k := by
    intro t ht hxs hv hb
    subst hxs hv
    have hi0 : i = 0 := by simpa using hi
    subst hi0
    rcases ht with rfl | rfl
    · refine specR_tr prg_mixed tr_slices_Insert_Object (Nat.le_of_ble_eq_true rfl) rfl ?_
      unfold pc_slices_Insert_Object rs_slices_Insert_Object
      simp only [sZ, initT, optI, splice, reduceIte, reduceCtorEq, Nat.reduceEqDiff, Nat.reduceAdd, Nat.reduceSub, Nat.reduceMul, Nat.reduceLeDiff, Nat.reduceLT, Int.reduceLT, Int.reduceLE, Int.reduceToNat, Int.reduceEq, Int.cast_ofNat_Int, Int.ofNat_zero, Tok.cut]
      refine grow_in (base := base) (xs := []) (ys := [x]) ⟨hb, by simp, .inl ⟨rfl, rfl⟩⟩ (by simp) (by simpa using hx) (by simp) fun hp' v' hG => ?_
      have hv := hG.strip
      simp only [sZ, initT, optI, splice, reduceIte, reduceCtorEq, Nat.reduceEqDiff, Nat.reduceAdd, Nat.reduceSub, Nat.reduceMul, Nat.reduceLeDiff, Nat.reduceLT, Int.reduceLT, Int.reduceLE, Int.reduceToNat, Int.reduceEq, Int.cast_ofNat_Int, hv]
      exact OutR.eq ⟨hG, rfl⟩
    · refine specR_tr prg_mixed tr_slices_Insert_Object (Nat.le_of_ble_eq_true rfl) rfl ?_
      unfold pc_slices_Insert_Object rs_slices_Insert_Object
      simp only [sZ, initT, optI, splice, reduceIte, reduceCtorEq, Nat.reduceEqDiff, Nat.reduceAdd, Nat.reduceSub, Nat.reduceMul, Nat.reduceLeDiff, Nat.reduceLT, Int.reduceLT, Int.reduceLE, Int.reduceToNat, Int.reduceEq, Int.cast_ofNat_Int, Int.ofNat_zero, Tok.cut]
      refine grow_full (base := base) (ys := [x]) hb (by simp) (by simpa using hx) (by simp) fun hp' v' hG => ?_
      have hv := hG.strip
      simp only [sZ, initT, optI, splice, reduceIte, reduceCtorEq, Nat.reduceEqDiff, Nat.reduceAdd, Nat.reduceSub, Nat.reduceMul, Nat.reduceLeDiff, Nat.reduceLT, Int.reduceLT, Int.reduceLE, Int.reduceToNat, Int.reduceEq, Int.cast_ofNat_Int, hv]
      exact OutR.eq ⟨hG, rfl⟩
  rcases hG with ⟨hb, hxs, hG⟩ | ⟨h1, h2, h3⟩
  case inr => exact hempty .full (.inr rfl) h1 h2 h3
  rcases hG with ⟨h1, h2⟩ | ⟨id, c, cs, rfl, hbid, hc, h0, hn, hcm, hcl, ht⟩
  · exact hempty .nil (.inl rfl) h1 h2 hb
  have hP : (flatS (xs.take i)).length = i * 6 := by
    rw [flatS_length fun y hy => hxs y (List.mem_of_mem_take hy), List.length_take, Nat.min_eq_left hi]
  have hQ : (flatS (xs.drop i)).length = (xs.length - i) * 6 := by
    rw [flatS_length fun y hy => hxs y (List.mem_of_mem_drop hy), List.length_drop]
  have hV : (flatS [x]).length = 6 := by
    rw [flatS_length (m := 6) (by simpa using hx)]
    rfl
  have hPQ := flatS_take_drop xs i
  have p1 : (i : Int) ≤ (xs.length : Int) := by omega
  have p2 : (xs.length : Int) ≤ (c : Int) := by omega
  have hw1 : IntKind.i64.wrap ((xs.length : Int) + 1) = ((xs.length + 1 : Nat) : Int) := wrap64 (by omega) (by omega)
  refine specR_tr prg_mixed tr_slices_Insert_Object (Nat.le_of_ble_eq_true rfl) rfl ?_
  unfold pc_slices_Insert_Object rs_slices_Insert_Object
  by_cases hie : i = xs.length
  · have d1 : decide ((i : Int) = (xs.length : Int)) = true := decide_eq_true (by omega)
    have e1 : xs.take i ++ [x] ++ xs.drop i = xs ++ [x] := by rw [hie, List.take_length, List.drop_length, List.append_nil]
    rw [e1]
    simp only [sZ, initT, optI, splice, reduceIte, reduceCtorEq, Nat.reduceEqDiff, Nat.reduceAdd, Nat.reduceSub, Nat.reduceMul, Nat.reduceLeDiff, Nat.reduceLT, Int.reduceLT, Int.reduceLE, Int.reduceToNat, Int.reduceEq, Int.cast_ofNat_Int, p1, p2, d1]
    refine grow_in (base := base) (xs := xs) (ys := [x]) ⟨hb, hxs, .inr ⟨id, c, cs, rfl, hbid, hc, h0, hn, hcm, hcl, ht⟩⟩ (by simp) (by simpa using hx) (by simp; omega) fun hp' v' hG => ?_
    have hv := hG.strip
    simp only [sZ, initT, optI, splice, reduceIte, reduceCtorEq, Nat.reduceEqDiff, Nat.reduceAdd, Nat.reduceSub, Nat.reduceMul, Nat.reduceLeDiff, Nat.reduceLT, Int.reduceLT, Int.reduceLE, Int.reduceToNat, Int.reduceEq, Int.cast_ofNat_Int, hv]
    exact OutR.eq ⟨hG, rfl⟩
  have hlt : i < xs.length := by omega
  have d1 : decide ((i : Int) = (xs.length : Int)) = false := decide_eq_false (by omega)
  have hw2 : IntKind.i64.wrap ((i : Int) + 1) = ((i + 1 : Nat) : Int) := wrap64 (by omega) (by omega)
  have hw3 : IntKind.i64.wrap (((xs.length + 1 : Nat) : Int) - (i : Int)) = ((xs.length + 1 - i : Nat) : Int) := by rw [wrap64 (by omega) (by omega)]; omega
  by_cases hcap : c < xs.length + 1
  · have d2 : decide ((c : Int) < ((xs.length + 1 : Nat) : Int)) = true := decide_eq_true (by omega)
    have p3 : (i : Int) ≤ (c : Int) := by omega
    simp only [sZ, initT, optI, splice, reduceIte, reduceCtorEq, Nat.reduceEqDiff, Nat.reduceAdd, Nat.reduceSub, Nat.reduceMul, Nat.reduceLeDiff, Nat.reduceLT, Int.reduceLT, Int.reduceLE, Int.reduceToNat, Int.reduceEq, Int.cast_ofNat_Int, p1, p2, p3, d1, hw1, d2, hw3, capA]
    refine appz_in (n := i) (c := c) (m := xs.length + 1 - i) hc (by omega) (by omega) (by omega) (by omega) fun id' c' hid' hc' hcm' => ?_
    have eN : i + (xs.length + 1 - i) = xs.length + 1 := by omega
    have hid' : s id' = none := hid'
    rw [eN] at hc' ⊢
    have p4 : (i : Int) ≤ ((xs.length + 1 : Nat) : Int) := by omega
    have p5 : ((xs.length + 1 : Nat) : Int) ≤ (c' : Int) := by omega
    have p6 : ((i + 1 : Nat) : Int) ≤ ((xs.length + 1 : Nat) : Int) := by omega
    obtain ⟨cs2, hcs2⟩ : ∃ cs2, cs2 = (cs.take (i * 6)).map A.strip ++ (List.replicate (xs.length + 1 - i) [A.str ⟨#[]⟩, .int .i64 0, .int .i64 0, .int .i64 0, .sl 1 [] .nil, .sl 2 [] .nil]).flatten ++ List.replicate ((c' - (xs.length + 1)) * 6) A.undef := ⟨_, rfl⟩
    rw [← hcs2]
    have hf2 : (cs.take (i * 6)).map A.strip = flatS (xs.take i) := by rw [front_cells hxs ht hi, flatS_strip]
    have hl2 : cs2.length = c' * 6 := by
      rw [hcs2, hf2]
      simp only [List.length_append, List.length_flatten, List.map_replicate, List.sum_replicate_nat, List.length_replicate, hP, List.length_cons, List.length_nil]
      omega
    have hp2 : cs2.take (flatS (xs.take i)).length = flatS (xs.take i) := by
      rw [hcs2, hf2, List.append_assoc]
      exact List.take_left' rfl
    clear hcs2 hf2
    have n1 : ¬ id = id' := fun e => by subst e; rw [hc] at hid'; cases hid'
    have m1 : Nat.min 1 (xs.length + 1 - i) = 1 := Nat.min_eq_left (by omega)
    have m2 : xs.length + 1 - (i + 1) = xs.length - i := by omega
    simp only [sZ, initT, optI, splice, reduceIte, reduceCtorEq, Nat.reduceEqDiff, Nat.reduceAdd, Nat.reduceSub, Nat.reduceMul, Nat.reduceLeDiff, Nat.reduceLT, Int.reduceLT, Int.reduceLE, Int.reduceToNat, Int.reduceEq, Int.cast_ofNat_Int, p1, p2, p3, p4, p5, p6, n1, Int.toNat_natCast, Int.toNat_natCast_add_one]
    refine cpy_in (cs := cs2) (by simp [upd]) (by omega) (by omega) 1 (flatS [x]) (fun Q h => src_sl [x] _ Q h) ?_
    rw [m1, Nat.one_mul, show (6 : Nat) = (flatS [x]).length from hV.symm, List.take_length, hV]
    simp only [sZ, initT, optI, reduceIte, reduceCtorEq, Nat.reduceEqDiff, Nat.reduceAdd, Nat.reduceSub, Nat.reduceMul, Nat.reduceLeDiff, Nat.reduceLT, Int.reduceLT, Int.reduceLE, Int.reduceToNat, Int.reduceEq, Int.cast_ofNat_Int, p1, p2, p3, p4, p5, p6, n1, hw2, Int.toNat_natCast, Int.toNat_natCast_add_one]
    refine cpy_in (cs := splice cs2 (i * 6) (flatS [x])) (by simp [upd]) (by rw [splice_length _ _ _ (by omega)]; omega) (by omega) (xs.length - i) (flatS (xs.drop i)) (fun Q hQ' => src_sb (cs := cs) (by simp only [upd_apply, n1, reduceIte]; exact hc) (by omega) Q (by rw [part_cells hxs ht hi]; exact hQ')) ?_
    have m3 : Nat.min (xs.length - i) (xs.length + 1 - (i + 1)) = xs.length - i := by rw [m2]; exact Nat.min_self _
    rw [m3, ← hQ, List.take_length]
    have hsp : splice (splice cs2 (i * 6) (flatS [x])) ((i + 1) * 6) (flatS (xs.drop i)) = flatS (xs.take i) ++ flatS [x] ++ (flatS (xs.drop i) ++ cs2.drop ((flatS (xs.take i)).length + (flatS [x]).length + (flatS (xs.drop i)).length)) := by
      rw [← ins_cells2 cs2 _ _ _ hp2 (by omega), hP, hV]
      congr 1
      omega
    rw [hsp]
    simp only [sZ, initT, optI, reduceIte, reduceCtorEq, Nat.reduceEqDiff, Nat.reduceAdd, Nat.reduceSub, Nat.reduceMul, Nat.reduceLeDiff, Nat.reduceLT, Int.reduceLT, Int.reduceLE, Int.reduceToNat, Int.reduceEq, Int.cast_ofNat_Int]
    refine OutR.eq ⟨ins_grow hi hx hxs ?_ (SExt.none hb hid') _ (upd_same _ _ _) ?_ hc' hcm', rfl⟩
    · exact SExt.old hb (SExt.none hb hid') _
    · simp only [List.length_append, List.length_drop, hP, hV, hQ]
      omega
  · have d2 : decide ((c : Int) < ((xs.length + 1 : Nat) : Int)) = false := decide_eq_false (by omega)
    have hcn : xs.length + 1 ≤ c := by omega
    have p3 : (i : Int) ≤ ((xs.length + 1 : Nat) : Int) := by omega
    have p5 : ((xs.length + 1 : Nat) : Int) ≤ (c : Int) := by omega
    have p6 : ((i + 1 : Nat) : Int) ≤ ((xs.length + 1 : Nat) : Int) := by omega
    have m1 : Nat.min 1 (xs.length + 1 - i) = 1 := Nat.min_eq_left (by omega)
    have m2 : xs.length + 1 - (i + 1) = xs.length - i := by omega
    have m3 : Nat.min (xs.length + 1 - i) (xs.length + 1 - (i + 1)) = xs.length - i := by rw [m2]; exact Nat.min_eq_right (by omega)
    simp only [sZ, initT, optI, reduceIte, reduceCtorEq, Nat.reduceEqDiff, Nat.reduceAdd, Nat.reduceSub, Nat.reduceMul, Nat.reduceLeDiff, Nat.reduceLT, Int.reduceLT, Int.reduceLE, Int.reduceToNat, Int.reduceEq, Int.cast_ofNat_Int, p1, p2, p3, p5, p6, d1, hw1, hw2, d2, capA, Int.toNat_natCast]
    refine callS_quiet (spec_overlaps x hx id _ _ _ cs _ hc) ?_
    simp only [sZ, initT, optI, reduceIte, reduceCtorEq, Nat.reduceEqDiff, Nat.reduceAdd, Nat.reduceSub, Nat.reduceMul, Nat.reduceLeDiff, Nat.reduceLT, Int.reduceLT, Int.reduceLE, Int.reduceToNat, Int.reduceEq, Int.cast_ofNat_Int, p1, p2, p3, p5, p6, hw1, hw2, Int.toNat_natCast, Bool.not_false]
    refine cpy_in (cs := cs) hc (by omega) (by omega) (xs.length + 1 - i) (((cs.drop (i * 6)).take ((xs.length + 1 - i) * 6)).map A.strip) (fun Q hQ' => src_sb (cs := cs) hc (by omega) Q hQ') ?_
    have hds : ((((cs.drop (i * 6)).take ((xs.length + 1 - i) * 6)).map A.strip).take ((xs.length - i) * 6)) = flatS (xs.drop i) := by
      rw [← List.map_take, List.take_take, Nat.min_eq_left (by omega), part_cells hxs ht hi]
    rw [m3, hds]
    simp only [sZ, initT, optI, reduceIte, reduceCtorEq, Nat.reduceEqDiff, Nat.reduceAdd, Nat.reduceSub, Nat.reduceMul, Nat.reduceLeDiff, Nat.reduceLT, Int.reduceLT, Int.reduceLE, Int.reduceToNat, Int.reduceEq, Int.cast_ofNat_Int, p1, p2, p3, p5, p6, hw1, hw2, Int.toNat_natCast]
    refine cpy_in (cs := splice cs ((i + 1) * 6) (flatS (xs.drop i))) (by simp [upd]) (by rw [splice_length _ _ _ (by omega)]; omega) (by omega) 1 (flatS [x]) (fun Q h => src_sl [x] _ Q h) ?_
    rw [m1, Nat.one_mul, show (6 : Nat) = (flatS [x]).length from hV.symm, List.take_length, hV]
    have hsp : splice (splice cs ((i + 1) * 6) (flatS (xs.drop i))) (i * 6) (flatS [x]) = flatS (xs.take i) ++ flatS [x] ++ (flatS (xs.drop i) ++ cs.drop ((flatS (xs.take i)).length + (flatS [x]).length + (flatS (xs.drop i)).length)) := by
      rw [← ins_cells cs _ _ _ (by rw [hP, hQ, hPQ, ← ht]; congr 1; omega) (by omega), hP, hV]
      congr 2
      omega
    rw [hsp]
    simp only [sZ, initT, optI, reduceIte, reduceCtorEq, Nat.reduceEqDiff, Nat.reduceAdd, Nat.reduceSub, Nat.reduceMul, Nat.reduceLeDiff, Nat.reduceLT, Int.reduceLT, Int.reduceLE, Int.reduceToNat, Int.reduceEq, Int.cast_ofNat_Int]
    refine OutR.eq ⟨ins_grow hi hx hxs ?_ hbid _ (upd_same _ _ _) ?_ hcn hcm, rfl⟩
    · exact SExt.old hb hbid _
    · simp only [List.length_append, List.length_drop, hP, hV, hQ]
      omega
end Go.Pv
