/- ViewChanges: the law. -/
import Derived.Test.YtlcacobkiglmbaaPutV
import Derived.Test.YtlcacobkiglmbaaVwF
import Derived.Test.YtlcacobkiglmbaaRowV
set_option linter.unusedVariables false
set_option linter.unusedSimpArgs false
set_option maxRecDepth 4000
set_option maxHeartbeats 4000000
namespace Go.Pv
open Go

theorem idxOf_two {α : Type} (p : α → Bool) (l : List α) : (idxOf p l = -1 ∧ ∀ x ∈ l, p x = false) ∨ ∃ (i : Nat) (h : i < l.length), idxOf p l = i ∧ p l[i] = true := by
  rcases h : l.findIdx? p with _ | i
  · left
    exact ⟨by simp [idxOf, h], fun x hx => by simpa using List.findIdx?_eq_none_iff.1 h x hx⟩
  · right
    obtain ⟨h1, h2, h3⟩ := List.findIdx?_eq_some_iff_getElem.1 h
    exact ⟨i, h1, by simp [idxOf, h], h2⟩
theorem lt_nil {a : ByteArray} (h : a ≠ ⟨#[]⟩) : ltS ⟨#[]⟩ a = true := by
  obtain ⟨⟨l⟩⟩ := a
  cases l with
  | nil => exact absurd rfl h
  | cons x l => rfl
theorem obj_name {o : Obj} (h : objV o = true) : o.id ≠ ⟨#[]⟩ := by
  unfold objV at h
  simp only [Bool.and_eq_true] at h
  intro e
  have := h.2.1
  rw [e, name_nil] at this
  cases this
theorem pos_lo {m : List Obj} {x : ByteArray} {i : Nat} (h : i < m.length) (hi : i < posF m x) : ltS m[i].id x = true := by
  have := List.not_of_lt_findIdx (p := fun o : Obj => !ltS o.id x) hi
  simpa using this
theorem pos_hi {m : List Obj} (hv : mapV m = true) {x : ByteArray} {i : Nat} (h : i < m.length) (hi : posF m x ≤ i) : ltS m[i].id x = false := by
  have hq : posF m x < m.length := by omega
  have h1 : ltS m[posF m x].id x = false := by
    have := List.findIdx_getElem (p := fun o : Obj => !ltS o.id x) (xs := m) (w := hq)
    exact (Bool.not_eq_true' _).mp this
  by_cases e : posF m x = i
  · subst e; exact h1
  · cases hc : ltS m[i].id x with
    | false => rfl
    | true => rw [lt_trans (lt_id hv hq h (by omega)) hc] at h1; cases h1
theorem lt_of_not {a b : ByteArray} (h : ltS a b = false) (hne : a ≠ b) : ltS b a = true := by
  have := lt_total a b
  rw [h] at this
  have h2 : leS b a = true := by simpa using this.symm
  unfold leS at h2
  rw [decide_eq_false (fun e => hne e.symm), Bool.or_false] at h2
  exact h2
theorem put_mid {m : List Obj} (hv : mapV m = true) (o : Obj) : ∃ pre post, putF m o = pre ++ [o] ++ post ∧ (∀ p ∈ pre, p ∈ m ∧ ltS p.id o.id = true) ∧ (∀ p ∈ post, p ∈ m ∧ ltS o.id p.id = true) ∧ (pre ++ post).Sublist m ∧
    ∀ P : Obj → Bool, (∀ p ∈ m, p.id = o.id → P p = false) → m.filter P = pre.filter P ++ post.filter P := by
  have hlo : ∀ p ∈ m.take (posF m o.id), p ∈ m ∧ ltS p.id o.id = true := fun p hp => by
    obtain ⟨i, hi, rfl⟩ := List.getElem_of_mem hp
    rw [List.length_take] at hi
    rw [List.getElem_take]
    exact ⟨List.getElem_mem _, pos_lo _ (by omega)⟩
  have hpl := pos_le m o.id
  have hhas := pos_has (m := m) (x := o.id) hv (fun i h hi => pos_lo h hi) (fun i h hi => pos_hi hv h hi)
  unfold putF
  by_cases hh : hasF m o.id = true
  · rw [if_pos hh]
    rw [hh] at hhas
    have hq : posF m o.id < m.length := by
      by_cases h : posF m o.id < m.length
      · exact h
      · rw [dif_neg h] at hhas; cases hhas
    rw [dif_pos hq] at hhas
    have hid := of_decide_eq_true hhas.symm
    have hsp : m = m.take (posF m o.id) ++ (m[posF m o.id] :: m.drop (posF m o.id + 1)) := by
      conv => lhs; rw [← List.take_append_drop (posF m o.id) m, List.drop_eq_getElem_cons hq]
    refine ⟨_, _, rfl, hlo, fun p hp => ?_, ?_, fun P hP => ?_⟩
    · obtain ⟨i, hi, rfl⟩ := List.getElem_of_mem hp
      rw [List.length_drop] at hi
      rw [List.getElem_drop]
      refine ⟨List.getElem_mem _, ?_⟩
      have h := lt_id hv hq (j := posF m o.id + 1 + i) (by omega) (by omega)
      rw [hid] at h
      exact h
    · conv => rhs; rw [hsp]
      exact List.Sublist.append (List.Sublist.refl _) (List.sublist_cons_self _ _)
    · conv => lhs; rw [hsp]
      rw [List.filter_append, List.filter_cons, hP _ (List.getElem_mem hq) hid, if_neg (by decide)]
  · rw [if_neg hh]
    have hh' : hasF m o.id = false := by simpa using hh
    refine ⟨_, _, rfl, hlo, fun p hp => ?_, ?_, fun P hP => ?_⟩
    · obtain ⟨i, hi, rfl⟩ := List.getElem_of_mem hp
      rw [List.length_drop] at hi
      rw [List.getElem_drop]
      refine ⟨List.getElem_mem _, lt_of_not (pos_hi hv _ (by omega)) fun e => ?_⟩
      unfold hasF at hh'
      rw [List.any_eq_false] at hh'
      exact hh' _ (List.getElem_mem _) (decide_eq_true e)
    · rw [List.take_append_drop]
      exact List.Sublist.refl _
    · rw [← List.filter_append, List.take_append_drop]
theorem put_valid {m : List Obj} (hv : mapV m = true) {o : Obj} (ho : objV o = true) (hl : m.length < 1000000) : mapV (putF m o) = true := by
  obtain ⟨pre, post, e, h1, h2, h3, _⟩ := put_mid hv o
  have hv' := hv
  unfold mapV at hv
  simp only [Bool.and_eq_true, decide_eq_true_eq] at hv
  obtain ⟨c1, c2, c3⟩ := chain_iff.1 hv.1
  have hpw := c3.sublist h3
  rw [List.pairwise_append] at hpw
  rw [e]
  unfold mapV
  simp only [Bool.and_eq_true, decide_eq_true_eq]
  refine ⟨chain_iff.2 ⟨fun p hp => ?_, fun p hp => ?_, ?_⟩, ?_⟩
  · simp only [List.mem_append, List.mem_singleton] at hp
    rcases hp with (hp | rfl) | hp
    · exact c1 p (h1 p hp).1
    · exact ho
    · exact c1 p (h2 p hp).1
  · simp only [List.mem_append, List.mem_singleton] at hp
    rcases hp with (hp | rfl) | hp
    · exact c2 p (h1 p hp).1
    · exact lt_nil (obj_name ho)
    · exact c2 p (h2 p hp).1
  · rw [List.pairwise_append, List.pairwise_append]
    refine ⟨⟨hpw.1, List.pairwise_singleton _ _, fun p hp x hx => ?_⟩, hpw.2.1, fun p hp x hx => ?_⟩
    · rw [List.mem_singleton.1 hx]
      exact (h1 p hp).2
    · rcases List.mem_append.1 hp with hp | hp
      · exact hpw.2.2 p hp x hx
      · rw [List.mem_singleton.1 hp]
        exact (h2 x hx).2
  · have := h3.length_le
    simp only [List.length_append, List.length_cons, List.length_nil] at this ⊢
    omega
theorem put_fit {m : List Obj} (hv : mapV m = true) (hm : MapFit m) {o : Obj} (ho : ObjFit o) (hl : m.length < 1000000) : MapFit (putF m o) ∧ (putF m o).length ≤ m.length + 1 := by
  obtain ⟨pre, post, e, h1, h2, h3, _⟩ := put_mid hv o
  have := h3.length_le
  rw [e]
  simp only [List.length_append] at this
  refine ⟨⟨?_, fun p hp => ?_⟩, ?_⟩
  · simp only [List.length_append, List.length_cons, List.length_nil]
    omega
  · simp only [List.mem_append, List.mem_singleton] at hp
    rcases hp with (hp | rfl) | hp
    · exact hm.obj p (h1 p hp).1
    · exact ho
    · exact hm.obj p (h2 p hp).1
  · simp only [List.length_append, List.length_cons, List.length_nil]
    omega
theorem put_same {m : List Obj} (hv : mapV m = true) {o : Obj} (ho : objV o = true) (hl : m.length < 1000000) (name : ByteArray) (h1 : pOf name (ownF o).1 (ownF o).2 = false) (h2 : ∀ p ∈ m, p.id = o.id → pOf name (ownF p).1 (ownF p).2 = false) : ofF (putF m o) name = ofF m name := by
  unfold ofF
  rw [wantF_valid hv, wantF_valid (put_valid hv ho hl)]
  obtain ⟨pre, post, e, _, _, _, h4⟩ := put_mid hv o
  rw [h4 _ h2, e, List.filter_append, List.filter_append, List.filter_cons, if_neg (by rw [h1]; decide), List.filter_nil, List.append_nil]
theorem own_no {o : Obj} {name : ByteArray} (h : pOf name (ownF o).1 (ownF o).2 = true) : (tagG o.tags viewS).2 = false ∨ nameF (tagG o.tags viewS).1 = false ∨ (tagG o.tags viewS).1 = name := by
  unfold ownF pOf at h
  cases h1 : (tagG o.tags viewS).2
  · exact .inl rfl
  · cases h2 : nameF (tagG o.tags viewS).1
    · exact .inr (.inl rfl)
    · rw [h1, h2] at h
      exact .inr (.inr (by simpa using h))
theorem own_yes {o : Obj} {name : ByteArray} (h1 : (tagG o.tags viewS).2 = true) (h2 : nameF (tagG o.tags viewS).1 = true) (h3 : (tagG o.tags viewS).1 ≠ name) : pOf name (ownF o).1 (ownF o).2 = false := by
  cases h : pOf name (ownF o).1 (ownF o).2 with
  | false => rfl
  | true =>
    rcases own_no h with h | h | h
    · rw [h1] at h; cases h
    · rw [h2] at h; cases h
    · exact absurd h h3
end Go.Pv
