/- What verify accepts and what evidence finds: the plain law. -/
import Derived.Test.YtgmdhegbkbeihaaGreatFstQ
set_option linter.unusedVariables false
set_option linter.unusedSimpArgs false
set_option maxRecDepth 4000
set_option maxHeartbeats 1000000
namespace Go.Pv
open Go

theorem tagG_any (l : List Tag) (k : ByteArray) : (tagG l k).2 = l.any fun t => decide (t.key = k) := by
  unfold tagG
  rw [← List.isSome_find?]
  cases l.find? (fun t => decide (t.key = k)) <;> rfl
theorem on_grid {x y : Int} (h : gridF x y = true) : onF x y = true ∧ 0 ≤ x ∧ x < 1048576 ∧ 0 ≤ y ∧ y < 1048576 := by
  unfold gridF at h
  simp only [Bool.and_eq_true, decide_eq_true_eq] at h
  obtain ⟨h1, h2, h3, h4⟩ := h
  refine ⟨?_, h1, h2, h3, h4⟩
  unfold onF
  rw [Bool.and_eq_true, decide_eq_true_eq, decide_eq_true_eq]
  omega
theorem chain_mem {α : Type} {ok : ByteArray → α → Bool} {key : α → ByteArray} : ∀ {l : List α} {a : ByteArray}, chain ok key a l = true → ∀ x ∈ l, ∃ b, ok b x = true
  | [], _, _, x, hx => by cases hx
  | y :: l, a, h, x, hx => by
    simp only [chain, Bool.and_eq_true] at h
    rcases List.mem_cons.1 hx with rfl | hx
    · exact ⟨a, h.1⟩
    · exact chain_mem h.2 x hx
theorem obj_of_map {m : List Obj} (h : mapV m = true) {o : Obj} (ho : o ∈ m) : objV o = true := by
  unfold mapV at h
  rw [Bool.and_eq_true] at h
  obtain ⟨b, hb⟩ := chain_mem h.1 o ho
  unfold inMap at hb
  rw [Bool.and_eq_true] at hb
  exact hb.1
theorem grid_of_node {o : Obj} (h : objV o = true) (hk : o.kind = 1) : gridF o.x o.y = true := by
  unfold objV tailV at h
  rw [decide_eq_true hk] at h
  simp only [Bool.and_eq_true, cond_true] at h
  exact h.2.2.2.2.2.2.2
theorem shows_eq {m : List Obj} {e : Edit} {κ : Int} (hm : mapV m = true) (he : editV e = true) (h1 : 1 ≤ κ) (h4 : κ ≤ 4) : showsF κ m e = showE m κ e := by
  have : κ = 1 ∨ κ = 2 ∨ κ = 3 ∨ κ = 4 := by omega
  rcases this with rfl | rfl | rfl | rfl
  · show ((objF m e.id).2 && decide (e.op = 5)) = (decide (e.op = 5) && (objF m e.id).2)
    rw [Bool.and_comm]
  · show (decide (e.op = 3) && decide (e.key = nameB) && decide (e.val = ⟨#[]⟩) && (objF m e.id).1.tags.any fun t => decide (t.key = nameB)) = (decide (e.op = 3) && (decide (e.key = ⟨#[110, 97, 109, 101]⟩) && (decide (e.val = ⟨#[]⟩) && (tagG (objF m e.id).1.tags ⟨#[110, 97, 109, 101]⟩).2)))
    rw [tagG_any]
    simp only [Bool.and_assoc]
    rfl
  · show (decide (e.op = 2) && decide ((objF m e.id).1.kind = 1) && onF (objF m e.id).1.x (objF m e.id).1.y && onF e.x e.y && farF e.x e.y (objF m e.id).1.x (objF m e.id).1.y) = (decide (e.op = 2) && ((objF m e.id).2 && (decide ((objF m e.id).1.kind = 1) && decide (1000000 ≤ distF (objF m e.id).1.x (objF m e.id).1.y e.x e.y))))
    by_cases c : e.op = 2
    · by_cases ck : (objF m e.id).1.kind = 1
      · have hin : (objF m e.id).2 = true ∧ (objF m e.id).1 ∈ m := by
          unfold objF at ck ⊢
          split
          · rename_i o ho
            exact ⟨rfl, List.mem_of_find?_eq_some ho⟩
          · rename_i ho
            rw [ho] at ck
            exact absurd ck (by decide)
        obtain ⟨g1, g2, g3, g4, g5⟩ := on_grid (grid_of_node (obj_of_map hm hin.2) ck)
        have hE : onF e.x e.y = true ∧ 0 ≤ e.x ∧ e.x < 1048576 ∧ 0 ≤ e.y ∧ e.y < 1048576 := by
          unfold editV okE at he
          rw [if_neg (by omega), if_pos c] at he
          simp only [Bool.and_eq_true, decide_eq_true_eq] at he
          have := he.2.1.2
          unfold onF
          rw [Bool.and_eq_true, decide_eq_true_eq, decide_eq_true_eq]
          omega
        obtain ⟨k1, k2, k3, k4, k5⟩ := hE
        rw [decide_eq_true c, decide_eq_true ck, g1, k1, hin.1]
        simp only [Bool.true_and]
        generalize (objF m e.id).1 = o at *
        unfold farF distF
        have hn : [(o.x, o.y), (e.x, e.y)].all nearP = true := by
          simp only [List.all_cons, List.all_nil, Bool.and_true, nearP, Bool.and_eq_true, Bool.not_eq_true', Bool.or_eq_false_iff, decide_eq_false_iff_not]
          omega
        rw [hn, cond_true]
        have w1 : IntKind.i64.wrap (e.x - o.x) = e.x - o.x := wrap64 (by omega) (by omega)
        have w2 : IntKind.i64.wrap (e.y - o.y) = e.y - o.y := wrap64 (by omega) (by omega)
        have q1 := @sq_bound (e.x - o.x) (by omega) (by omega)
        have q2 := @sq_bound (e.y - o.y) (by omega) (by omega)
        have w3 : IntKind.i64.wrap ((e.x - o.x) * (e.x - o.x)) = (e.x - o.x) * (e.x - o.x) := wrap64 (by omega) (by omega)
        have w4 : IntKind.i64.wrap ((e.y - o.y) * (e.y - o.y)) = (e.y - o.y) * (e.y - o.y) := wrap64 (by omega) (by omega)
        rw [w1, w2, w3, w4, wrap64 (by omega) (by omega)]
      · rw [decide_eq_false ck]
        simp
    · rw [decide_eq_false c]
      simp
  · rfl
theorem togs_eq (κ : Int) (a b : Edit) : togF κ a b = togE κ a b := by
  unfold togF togE
  by_cases c : κ = 4
  · rw [if_pos c, if_pos c]
    unfold alikeF
    rw [Bool.and_assoc]
  · rw [if_neg c, if_neg c]
    rfl
theorem many_eq {κ : Int} (h1 : 1 ≤ κ) (h4 : κ ≤ 4) : manyF κ = ((manyE κ : Nat) : Int) := by
  have : κ = 1 ∨ κ = 2 ∨ κ = 3 ∨ κ = 4 := by omega
  rcases this with rfl | rfl | rfl | rfl <;> rfl
theorem go_of (shows : Edit → Bool) (tog : Edit → Edit → Bool) (l : List Edit) : ∀ (f : List Nat) (shown : List Edit) (last : Int), (∀ i ∈ f, last < (i : Int) ∧ i < l.length ∧ shows (atE l i) = true ∧ ∀ y ∈ shown, tog y (atE l i) = true) →
    f.Pairwise (· < ·) → (f.Pairwise fun a b => tog (atE l a) (atE l b) = true) → goF shows tog l (f.map Int.ofNat) shown last = true
  | [], _, _, _, _, _ => rfl
  | i :: f, shown, last, h, h2, h3 => by
    obtain ⟨a1, a2, a3, a4⟩ := h i List.mem_cons_self
    obtain ⟨b1, b2⟩ := List.pairwise_cons.1 h2
    obtain ⟨c1, c2⟩ := List.pairwise_cons.1 h3
    rw [List.map_cons, goF_cons]
    have e1 : decide (last < Int.ofNat i) = true := decide_eq_true a1
    have e2 : decide (Int.ofNat i < (l.length : Int)) = true := decide_eq_true (by simp only [Int.ofNat_eq_natCast]; omega)
    have e3 : l[(Int.ofNat i).toNat]? = some l[i] := List.getElem?_eq_getElem a2
    have e4 : (shown.any fun y => !tog y l[i]) = false := by
      rw [List.any_eq_false]
      intro y hy
      have := a4 y hy
      rw [atE_get a2] at this
      rw [this]
      simp
    rw [atE_get a2] at a3
    rw [e1, e2, e3]
    dsimp only
    rw [a3, e4, go_of shows tog l f (shown ++ [l[i]]) (Int.ofNat i) (fun j hj => ?_) b2 c2]
    · rfl
    · obtain ⟨d1, d2, d3, d4⟩ := h j (List.mem_cons_of_mem _ hj)
      refine ⟨by have := b1 j hj; simp only [Int.ofNat_eq_natCast]; omega, d2, d3, fun y hy => ?_⟩
      rcases List.mem_append.1 hy with hy | hy
      · exact d4 y hy
      · rw [List.mem_singleton.1 hy, ← atE_get a2]
        exact c1 j hj
theorem go_to (shows : Edit → Bool) (tog : Edit → Edit → Bool) (l : List Edit) : ∀ (es : List Int) (shown : List Edit) (last : Int), -1 ≤ last → goF shows tog l es shown last = true →
    ∃ f : List Nat, es = f.map Int.ofNat ∧ (∀ i ∈ f, last < (i : Int) ∧ i < l.length ∧ shows (atE l i) = true ∧ ∀ y ∈ shown, tog y (atE l i) = true) ∧ f.Pairwise (· < ·) ∧ (f.Pairwise fun a b => tog (atE l a) (atE l b) = true)
  | [], _, _, _, _ => ⟨[], rfl, fun i h => (by cases h), .nil, .nil⟩
  | x :: es, shown, last, h0, h => by
    rw [goF_cons] at h
    simp only [Bool.and_eq_true, decide_eq_true_eq] at h
    obtain ⟨⟨h1, h2⟩, h3⟩ := h
    obtain ⟨i, rfl⟩ : ∃ i : Nat, x = i := ⟨x.toNat, by omega⟩
    have hi : i < l.length := by omega
    have e3 : l[((i : Nat) : Int).toNat]? = some l[i] := by rw [Int.toNat_natCast]; exact List.getElem?_eq_getElem hi
    rw [e3] at h3
    simp only [Bool.and_eq_true, Bool.not_eq_true', List.any_eq_false] at h3
    obtain ⟨⟨h4, h5⟩, h6⟩ := h3
    obtain ⟨f, rfl, g1, g2, g3⟩ := go_to shows tog l es (shown ++ [l[i]]) (i : Int) (by omega) h6
    refine ⟨i :: f, rfl, fun j hj => ?_, List.pairwise_cons.2 ⟨fun j hj => by have := (g1 j hj).1; omega, g2⟩, List.pairwise_cons.2 ⟨fun j hj => ?_, g3⟩⟩
    · rcases List.mem_cons.1 hj with rfl | hj
      · rw [atE_get hi]
        refine ⟨h1, hi, h4, fun y hy => ?_⟩
        have := h5 y hy
        simpa using this
      · obtain ⟨a, b, c, d⟩ := g1 j hj
        exact ⟨by omega, b, c, fun y hy => d y (List.mem_append_left _ hy)⟩
    · rw [atE_get hi]
      exact (g1 j hj).2.2.2 _ (List.mem_append_right _ (List.mem_singleton.2 rfl))
end Go.Pv
