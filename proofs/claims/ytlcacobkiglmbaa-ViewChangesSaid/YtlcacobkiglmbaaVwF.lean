/- Views: what the law says of them. -/
import Derived.Test.YtlcacobkiglmbaaVwE
import Derived.Test.YtlcacobkiglmbaaOrdV
set_option linter.unusedVariables false
set_option linter.unusedSimpArgs false
namespace Go.Pv
open Go

theorem wantF_valid {m : List Obj} (h : mapV m = true) (p : ByteArray → Bool → Bool) : wantF m p = m.filter fun o => p (ownF o).1 (ownF o).2 := by
  unfold wantF
  rw [if_pos h]
theorem own_name {o : Obj} (h : (ownF o).2 = true) : nameF (ownF o).1 = true := by
  unfold ownF at h ⊢
  simp only [Bool.and_eq_true] at h
  exact h.2
theorem name_nil : nameF ⟨#[]⟩ = false := by rfl
theorem mem_dis {m : List Obj} (h : mapV m = true) {o : Obj} (ho : o ∈ m) : memB o.id (disF m) = (ownF o).2 := by
  unfold disF memB
  rw [wantF_valid h, Bool.eq_iff_iff, List.any_eq_true]
  constructor
  · rintro ⟨y, hy, he⟩
    obtain ⟨p, hp, rfl⟩ := List.mem_map.1 hy
    obtain ⟨hp1, hp2⟩ := List.mem_filter.1 hp
    have := id_inj h ho hp1 (of_decide_eq_true he)
    subst this
    exact hp2
  · intro hb
    exact ⟨o.id, List.mem_map.2 ⟨o, List.mem_filter.2 ⟨ho, hb⟩, rfl⟩, by simp⟩
theorem without_com {m : List Obj} (h : mapV m = true) (name : ByteArray) : woF (ofF m name) (disF m) = comF m := by
  unfold woF ofF comF
  rw [wantF_valid h, wantF_valid h, List.filter_filter]
  apply List.filter_congr
  intro o ho
  rw [mem_dis h ho]
  unfold pOf pCom
  cases (ownF o).2 <;> rfl
theorem of_nil {m : List Obj} (h : mapV m = true) : ofF m ⟨#[]⟩ = comF m := by
  unfold ofF comF
  rw [wantF_valid h, wantF_valid h]
  apply List.filter_congr
  intro o ho
  unfold pOf pCom
  cases hb : (ownF o).2 with
  | false => rfl
  | true =>
    have hn := own_name hb
    have : (ownF o).1 ≠ ⟨#[]⟩ := fun e => by rw [e, name_nil] at hn; cases hn
    rw [decide_eq_false this]
    rfl
theorem of_of {m : List Obj} (h : mapV m = true) (one two : ByteArray) : ofF (ofF m one) two = if one = two then ofF m one else comF m := by
  have hv : mapV (ofF m one) = true := by
    unfold ofF
    rw [wantF_valid h]
    exact mapV_filter h _
  have e : ofF (ofF m one) two = (ofF m one).filter fun o => pOf two (ownF o).1 (ownF o).2 := wantF_valid hv _
  rw [e]
  unfold ofF comF
  rw [wantF_valid h, wantF_valid h, List.filter_filter]
  split
  · rename_i he
    subst he
    apply List.filter_congr
    intro o ho
    rw [Bool.and_self]
  · rename_i hne
    apply List.filter_congr
    intro o ho
    unfold pOf pCom
    cases (ownF o).2 with
    | false => rfl
    | true =>
      simp only [Bool.not_true, Bool.false_or]
      rw [← Bool.decide_and]
      exact decide_eq_false fun hh => hne (hh.2.symm.trans hh.1)
theorem ofF_fit {m : List Obj} (h : MapFit m) (p : ByteArray → Bool → Bool) : MapFit (wantF m p) := by
  refine ⟨Nat.lt_of_le_of_lt (wantF_le _ _) h.len, fun o ho => ?_⟩
  unfold wantF at ho
  split at ho
  · exact h.obj o (List.mem_filter.1 ho).1
  · cases ho
end Go.Pv
