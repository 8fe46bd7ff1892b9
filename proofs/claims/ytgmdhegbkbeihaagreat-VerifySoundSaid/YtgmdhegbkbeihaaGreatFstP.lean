/- What is found is the first: the plain law. -/
import Derived.Test.YtgmdhegbkbeihaaGreatEvU
set_option linter.unusedVariables false
set_option linter.unusedSimpArgs false
set_option maxRecDepth 4000
set_option maxHeartbeats 1000000
namespace Go.Pv
open Go

def keyE (κ : Int) (e : Edit) : ByteArray := if κ = 4 then e.obj.id else e.id
def clsE (κ : Int) (a b : Edit) : Bool := if κ = 4 then (decide (a.obj.x = b.obj.x) && decide (a.obj.y = b.obj.y)) && decide (a.obj.tags = b.obj.tags) else true
theorem tog_iff {κ : Int} {a b : Edit} : togE κ a b = true ↔ keyE κ a ≠ keyE κ b ∧ clsE κ a b = true := by
  unfold togE keyE clsE
  by_cases c : κ = 4
  · simp only [if_pos c, Bool.and_eq_true, Bool.not_eq_true', decide_eq_false_iff_not, ne_eq]
  · simp only [if_neg c, Bool.not_eq_true', decide_eq_false_iff_not, ne_eq, and_true]
theorem cls_iff {κ : Int} {a b : Edit} : clsE κ a b = true ↔ (κ = 4 → a.obj.x = b.obj.x ∧ a.obj.y = b.obj.y ∧ a.obj.tags = b.obj.tags) := by
  unfold clsE
  by_cases c : κ = 4
  · rw [if_pos c]
    simp only [Bool.and_eq_true, decide_eq_true_eq, c, true_implies, and_assoc]
  · rw [if_neg c]
    simp only [c, false_implies]
theorem cls_refl (κ : Int) (a : Edit) : clsE κ a a = true := cls_iff.2 fun _ => ⟨rfl, rfl, rfl⟩
theorem cls_symm {κ : Int} {a b : Edit} (h : clsE κ a b = true) : clsE κ b a = true := cls_iff.2 fun c => by
  obtain ⟨h1, h2, h3⟩ := cls_iff.1 h c
  exact ⟨h1.symm, h2.symm, h3.symm⟩
theorem cls_trans {κ : Int} {a b c : Edit} (h : clsE κ a b = true) (h' : clsE κ b c = true) : clsE κ a c = true := cls_iff.2 fun e => by
  obtain ⟨h1, h2, h3⟩ := cls_iff.1 h e
  obtain ⟨g1, g2, g3⟩ := cls_iff.1 h' e
  exact ⟨h1.trans g1, h2.trans g2, h3.trans g3⟩
theorem nodup_le {α : Type} [DecidableEq α] : ∀ (a b : List α), a.Pairwise (· ≠ ·) → (∀ x ∈ a, x ∈ b) → a.length ≤ b.length
  | [], b, _, _ => Nat.zero_le _
  | x :: a, b, h, hs => by
    obtain ⟨h1, h2⟩ := List.pairwise_cons.1 h
    have hx : x ∈ b := hs x List.mem_cons_self
    have hl : (b.erase x).length + 1 = b.length := by
      have := List.length_erase_of_mem hx
      have : 0 < b.length := List.length_pos_of_mem hx
      omega
    have := nodup_le a (b.erase x) h2 fun y hy => (List.mem_erase_of_ne (fun e => h1 y hy e.symm)).2 (hs y (List.mem_cons_of_mem _ hy))
    rw [List.length_cons]
    omega
section
variable {m : List Obj} {l : List Edit} {κ : Int} {M fro : Nat}
theorem fitsE_eq (m : List Obj) (κ : Int) (x : Edit) (b : List Edit) : fitsE m κ x b = (showE m κ x && b.all fun y => togE κ y x) := rfl
theorem firstS_le (fits : Edit → List Edit → Bool) (l : List Edit) (M fro : Nat) : ∀ n, (firstS fits l M fro n).length ≤ M
  | 0 => Nat.zero_le _
  | n + 1 => by
    have ih := firstS_le fits l M fro n
    simp only [firstS]
    split
    · rename_i h
      have := h.1
      simp
      omega
    · exact ih
theorem firstS_pre (fits : Edit → List Edit → Bool) (l : List Edit) (M fro n : Nat) : ∀ d, ∃ t, firstS fits l M fro (n + d) = firstS fits l M fro n ++ t
  | 0 => ⟨[], by simp⟩
  | d + 1 => by
    obtain ⟨t, ht⟩ := firstS_pre fits l M fro n d
    rw [← Nat.add_assoc]
    simp only [firstS]
    split
    · exact ⟨t ++ [fro + (n + d)], by rw [ht, List.append_assoc]⟩
    · exact ⟨t, ht⟩
theorem firstS_head (hs : showE m κ (atE l fro) = true) (hM : 0 < M) (n : Nat) : ∃ t, firstS (fitsE m κ) l M fro (n + 1) = fro :: t := by
  have h1 : firstS (fitsE m κ) l M fro 1 = [fro] := by
    simp [firstS, fitsE, hs, hM]
  obtain ⟨t, ht⟩ := firstS_pre (fitsE m κ) l M fro 1 n
  rw [Nat.add_comm, ht, h1]
  exact ⟨t, rfl⟩
/-- What may be among the evidence that begins with an edit. -/
def Sh (m : List Obj) (l : List Edit) (κ : Int) (fro i : Nat) : Prop := showE m κ (atE l i) = true ∧ clsE κ (atE l fro) (atE l i) = true
theorem firstS_sh (hs : showE m κ (atE l fro) = true) (hM : 0 < M) : ∀ n, ∀ i ∈ firstS (fitsE m κ) l M fro n, Sh m l κ fro i
  | 0, i, h => by cases h
  | n + 1, i, h => by
    have ih := firstS_sh hs hM n
    by_cases hin : i ∈ firstS (fitsE m κ) l M fro n
    · exact ih i hin
    · have hf : i = fro + n ∧ fitsE m κ (atE l i) ((firstS (fitsE m κ) l M fro n).map (atE l)) = true := by
        simp only [firstS] at h
        split at h
        · rename_i hh
          rcases List.mem_append.1 h with h | h
          · exact absurd h hin
          · have e := List.mem_singleton.1 h
            exact ⟨e, by rw [e]; exact hh.2⟩
        · exact absurd h hin
      obtain ⟨e, hf⟩ := hf
      rw [fitsE_eq, Bool.and_eq_true, List.all_eq_true] at hf
      refine ⟨hf.1, ?_⟩
      cases n with
      | zero => rw [e]; exact cls_refl _ _
      | succ n =>
        obtain ⟨t, ht⟩ := firstS_head (m := m) (l := l) (κ := κ) (M := M) hs hM n
        have := hf.2 (atE l fro) (List.mem_map.2 ⟨fro, by rw [ht]; exact List.mem_cons_self, rfl⟩)
        exact (tog_iff.1 this).2
theorem firstS_cover (hs : showE m κ (atE l fro) = true) (hM : 0 < M) : ∀ n, (firstS (fitsE m κ) l M fro n).length < M → ∀ i, fro ≤ i → i < fro + n → Sh m l κ fro i → ∃ j ∈ firstS (fitsE m κ) l M fro n, keyE κ (atE l j) = keyE κ (atE l i)
  | 0, _, i, h1, h2, _ => by omega
  | n + 1, hlt, i, h1, h2, hi => by
    obtain ⟨t, ht⟩ := firstS_pre (fitsE m κ) l M fro n 1
    have hlt' : (firstS (fitsE m κ) l M fro n).length < M := by
      rw [ht, List.length_append] at hlt
      omega
    by_cases hin : i < fro + n
    · obtain ⟨j, hj, hk⟩ := firstS_cover hs hM n hlt' i h1 hin hi
      exact ⟨j, by rw [ht]; exact List.mem_append_left _ hj, hk⟩
    · have e : i = fro + n := by omega
      by_cases hf : fitsE m κ (atE l (fro + n)) ((firstS (fitsE m κ) l M fro n).map (atE l)) = true
      · refine ⟨i, ?_, rfl⟩
        simp only [firstS]
        rw [if_pos ⟨hlt', hf⟩, e]
        simp
      · rw [fitsE_eq, ← e, hi.1, Bool.true_and, List.all_eq_true] at hf
        simp only [Classical.not_forall] at hf
        obtain ⟨y, hy, hno⟩ := hf
        obtain ⟨j, hj, rfl⟩ := List.mem_map.1 hy
        refine ⟨j, by rw [ht]; exact List.mem_append_left _ hj, ?_⟩
        have hc := cls_trans (cls_symm (firstS_sh hs hM n j hj).2) hi.2
        by_cases hk : keyE κ (atE l j) = keyE κ (atE l i)
        · exact hk
        · exact absurd (tog_iff.2 ⟨hk, hc⟩) hno
theorem firstS_many (hs : showE m κ (atE l fro) = true) (hM : 0 < M) (n : Nat) (h : List Nat) (hk : (h.map fun i => keyE κ (atE l i)).Pairwise (· ≠ ·)) (hb : ∀ i ∈ h, fro ≤ i ∧ i < fro + n ∧ Sh m l κ fro i) : min M h.length ≤ (firstS (fitsE m κ) l M fro n).length := by
  by_cases hlt : (firstS (fitsE m κ) l M fro n).length < M
  · have := nodup_le (h.map fun i => keyE κ (atE l i)) ((firstS (fitsE m κ) l M fro n).map fun i => keyE κ (atE l i)) hk fun x hx => by
      obtain ⟨i, hi, rfl⟩ := List.mem_map.1 hx
      obtain ⟨b1, b2, b3⟩ := hb i hi
      obtain ⟨j, hj, hjk⟩ := firstS_cover hs hM n hlt i b1 b2 b3
      exact List.mem_map.2 ⟨j, hj, hjk⟩
    rw [List.length_map, List.length_map] at this
    omega
  · omega
/-- What is taken is, place by place, not behind anything that may be taken. -/
theorem firstS_least (hs : showE m κ (atE l fro) = true) (hM : 0 < M) (h : List Nat) (hinc : h.Pairwise (· < ·)) (hk : (h.map fun i => keyE κ (atE l i)).Pairwise (· ≠ ·)) (hb : ∀ i ∈ h, fro ≤ i ∧ i < l.length ∧ Sh m l κ fro i) (hlen : h.length = M) :
    (firstF (fitsE m κ) l M fro).length = M ∧ ∀ p (h1 : p < (firstF (fitsE m κ) l M fro).length) (h2 : p < h.length), (firstF (fitsE m κ) l M fro)[p] ≤ h[p] := by
  have hN : ∀ i ∈ h, i < fro + (l.length - fro) := fun i hi => by have := hb i hi; omega
  have hfull : (firstF (fitsE m κ) l M fro).length = M := by
    have h1 := firstS_many hs hM (l.length - fro) h hk fun i hi => ⟨(hb i hi).1, hN i hi, (hb i hi).2.2⟩
    have h2 := firstS_le (fitsE m κ) l M fro (l.length - fro)
    unfold firstF
    omega
  refine ⟨hfull, fun p h1 h2 => ?_⟩
  have hp := hb h[p] (List.getElem_mem h2)
  have htk : ∀ i ∈ h.take (p + 1), i ≤ h[p] := fun i hi => by
    obtain ⟨q, hq, rfl⟩ := List.getElem_of_mem hi
    rw [List.getElem_take]
    rw [List.length_take] at hq
    by_cases e : q = p
    · subst e; exact Nat.le_refl _
    · exact Nat.le_of_lt (List.pairwise_iff_getElem.1 hinc q p (by omega) h2 (by omega))
  have h3 := firstS_many hs hM (h[p] + 1 - fro) (h.take (p + 1)) (by rw [List.map_take]; exact hk.sublist (List.take_sublist _ _)) fun i hi => by
    have a := htk i hi
    have b := hb i (List.mem_of_mem_take hi)
    exact ⟨b.1, by omega, b.2.2⟩
  rw [List.length_take] at h3
  obtain ⟨t, ht⟩ := firstS_pre (fitsE m κ) l M fro (h[p] + 1 - fro) (l.length - fro - (h[p] + 1 - fro))
  rw [show h[p] + 1 - fro + (l.length - fro - (h[p] + 1 - fro)) = l.length - fro by omega] at ht
  have hlt : p < (firstS (fitsE m κ) l M fro (h[p] + 1 - fro)).length := by omega
  have hget : (firstF (fitsE m κ) l M fro)[p] = (firstS (fitsE m κ) l M fro (h[p] + 1 - fro))[p] := by
    have : (firstF (fitsE m κ) l M fro)[p]? = (firstS (fitsE m κ) l M fro (h[p] + 1 - fro))[p]? := by
      unfold firstF
      rw [ht, List.getElem?_append_left hlt]
    rw [List.getElem?_eq_getElem h1, List.getElem?_eq_getElem hlt] at this
    exact Option.some.inj this
  rw [hget]
  have := firstS_mem (fitsE m κ) l M fro (h[p] + 1 - fro) _ (List.getElem_mem hlt)
  omega
end
def behindF : List Int → List Int → Bool
  | x :: a, y :: b => if x = y then behindF a b else decide (y < x)
  | [], _ => false
  | _ :: _, [] => true
theorem behind_least : ∀ (a b : List Nat), a.length = b.length → (∀ p (h1 : p < a.length) (h2 : p < b.length), a[p] ≤ b[p]) → behindF (a.map Int.ofNat) (b.map Int.ofNat) = false
  | [], b, _, _ => rfl
  | x :: a, [], h, _ => by simp at h
  | x :: a, y :: b, h, hp => by
    simp only [List.map_cons, behindF]
    split
    · exact behind_least a b (by simpa using h) fun p h1 h2 => hp (p + 1) (by simpa using h1) (by simpa using h2)
    · have := hp 0 (by simp) (by simp)
      simp only [List.getElem_cons_zero] at this
      rw [decide_eq_false_iff_not]
      simp only [Int.ofNat_eq_natCast]
      omega
theorem setM_len_le {α : Type} (x : ByteArray) (v : α) : ∀ m : List (ByteArray × α), (setM x v m).length ≤ m.length + 1
  | [] => Nat.le_refl _
  | p :: m => by
    have := setM_len_le x v m
    simp only [setM]
    split
    · simp
    · simp only [List.length_cons]; omega
theorem setM_len_some {α : Type} {x : ByteArray} (v : α) : ∀ {m : List (ByteArray × α)}, lookM x m ≠ none → (setM x v m).length = m.length
  | [], h => absurd rfl h
  | p :: m, h => by
    simp only [lookM] at h
    simp only [setM]
    split
    · rfl
    · rename_i hne
      rw [if_neg hne] at h
      rw [List.length_cons, List.length_cons, setM_len_some v h]
theorem seenM_conv : ∀ (l : List ByteArray) (m : List (ByteArray × Bool)), (seenM l m).length = l.length + m.length → l.Pairwise (· ≠ ·) ∧ ∀ x ∈ l, lookM x m = none
  | [], m, _ => ⟨.nil, fun x h => by cases h⟩
  | x :: l, m, h => by
    simp only [seenM, List.length_cons] at h
    have h1 := seenM_len_le l (setM x true m)
    have h2 := setM_len_le x true m
    have h3 : (setM x true m).length = m.length + 1 := by omega
    have hx : lookM x m = none := by
      by_cases c : lookM x m = none
      · exact c
      · have := setM_len_some true c
        omega
    obtain ⟨h4, h5⟩ := seenM_conv l (setM x true m) (by omega)
    have h6 : ∀ y ∈ l, x ≠ y ∧ lookM y m = none := fun y hy => by
      have := h5 y hy
      rw [lookM_set] at this
      by_cases c : y = x
      · rw [if_pos c] at this; cases this
      · rw [if_neg c] at this; exact ⟨fun e => c e.symm, this⟩
    refine ⟨List.pairwise_cons.2 ⟨fun y hy => (h6 y hy).1, h4⟩, fun y hy => ?_⟩
    rcases List.mem_cons.1 hy with rfl | hy
    · exact hx
    · exact (h6 y hy).2
theorem pairwise_of_succ (h : List Nat) (hs : ∀ i (h1 : i + 1 < h.length), h[i] < h[i + 1]) : h.Pairwise (· < ·) := by
  rw [List.pairwise_iff_getElem]
  have : ∀ d i (hi : i + d + 1 < h.length), h[i] < h[i + d + 1] := by
    intro d
    induction d with
    | zero => intro i hi; exact hs i hi
    | succ d ih =>
      intro i hi
      have a := ih i (by omega)
      have b := hs (i + d + 1) (by omega)
      exact Nat.lt_trans a b
  intro i j hi hj hij
  have := this (j - i - 1) i (by omega)
  have e : i + (j - i - 1) + 1 = j := by omega
  simpa only [e] using this
/-- Evidence that holds, as indices. -/
structure HList (m : List Obj) (l : List Edit) (κ : Int) (h : List Nat) : Prop where
  len : h.length = manyE κ
  inc : h.Pairwise (· < ·)
  lt : ∀ i ∈ h, i < l.length
  show_ : ∀ i ∈ h, showE m κ (atE l i) = true
  key : (h.map fun i => keyE κ (atE l i)).Pairwise (· ≠ ·)
  cls : ∀ i ∈ h, clsE κ (atE l (h.getD 0 0)) (atE l i) = true
theorem holds_list {m : List Obj} {l : List Edit} {κ : Int} {es : List Int} (h : holdsF m l ⟨κ, es⟩ = true) : 1 ≤ κ ∧ κ ≤ 4 ∧ ¬ (κ = 1 ∧ 2 * dropsF l ≤ l.length) ∧ ∃ f : List Nat, es = f.map Int.ofNat ∧ HList m l κ f := by
  unfold holdsF at h
  simp only [Bool.and_eq_true, decide_eq_true_eq, Bool.not_eq_true'] at h
  obtain ⟨⟨h1, h4⟩, hlen, hd, hok, hids⟩ := h
  rw [List.all_eq_true] at hok
  have hX : ∀ i (hi : i < es.length), 0 ≤ es[i] ∧ es[i] < l.length ∧ (i = 0 ∨ es.getD (i - 1) 0 < es[i]) ∧ showE m κ (atE l es[i].toNat) = true ∧ (κ = 4 → alikeX l es es[i] = true) := by
    intro i hi
    have := hok i (List.mem_range.2 hi)
    unfold okI okX at this
    have hgd : es.getD i 0 = es[i] := by rw [List.getD_eq_getElem?_getD, List.getElem?_eq_getElem hi]; rfl
    rw [hgd] at this
    simp only [Bool.and_eq_true, decide_eq_true_eq, Bool.or_eq_true, Bool.not_eq_true', decide_eq_false_iff_not] at this
    obtain ⟨a, b, c, d, e⟩ := this
    exact ⟨a, b, c, d, fun hk => e.resolve_left fun hn => hn hk⟩
  have hes : es = (es.map Int.toNat).map Int.ofNat := by
    rw [List.map_map]
    conv => lhs; rw [← List.map_id es]
    refine List.map_congr_left fun x hx => ?_
    obtain ⟨i, hi, rfl⟩ := List.getElem_of_mem hx
    have := (hX i hi).1
    simp only [id_eq, Function.comp_apply]
    exact (Int.toNat_of_nonneg this).symm
  refine ⟨h1, h4, fun c => ?_, es.map Int.toNat, hes, ?_⟩
  · rw [decide_eq_true c.1, decide_eq_true c.2] at hd
    cases hd
  · refine ⟨by rw [List.length_map]; exact hlen, pairwise_of_succ _ fun i hi => ?_, fun i hi => ?_, fun i hi => ?_, ?_, fun i hi => ?_⟩
    · rw [List.length_map] at hi
      rw [List.getElem_map, List.getElem_map]
      obtain ⟨a, _, c, _⟩ := hX (i + 1) hi
      have hgd : es.getD (i + 1 - 1) 0 = es[i] := by rw [Nat.add_sub_cancel, List.getD_eq_getElem?_getD, List.getElem?_eq_getElem (by omega)]; rfl
      rw [hgd] at c
      have a' := (hX i (by omega)).1
      omega
    · obtain ⟨x, hx, rfl⟩ := List.mem_map.1 hi
      obtain ⟨j, hj, rfl⟩ := List.getElem_of_mem hx
      have := hX j hj
      omega
    · obtain ⟨x, hx, rfl⟩ := List.mem_map.1 hi
      obtain ⟨j, hj, rfl⟩ := List.getElem_of_mem hx
      exact (hX j hj).2.2.2.1
    · unfold idsL at hids
      have := (seenM_conv (es.map (keyI l κ)) [] (by rw [hids]; simp)).1
      rw [List.map_map]
      exact this
    · obtain ⟨x, hx, rfl⟩ := List.mem_map.1 hi
      obtain ⟨j, hj, rfl⟩ := List.getElem_of_mem hx
      refine cls_iff.2 fun c => ?_
      have := (hX j hj).2.2.2.2 c
      unfold alikeX at this
      simp only [Bool.and_eq_true, decide_eq_true_eq] at this
      obtain ⟨⟨a, b⟩, d⟩ := this
      have h0 : (es.map Int.toNat).getD 0 0 = (es.getD 0 0).toNat := by
        rw [List.getD_eq_getElem?_getD, List.getD_eq_getElem?_getD, List.getElem?_map]
        cases es[0]? <;> rfl
      rw [h0]
      exact ⟨a.symm, b.symm, d.symm⟩
theorem many_pos (κ : Int) : 0 < manyE κ := by
  unfold manyE
  split
  · omega
  · split <;> omega
theorem kind_first {m : List Obj} {l : List Edit} {κ : Int} {h : List Nat} (hd : ¬ (κ = 1 ∧ 2 * dropsF l ≤ l.length)) (H : HList m l κ h) : ∃ f : List Nat, kindE m l κ = some ⟨κ, f.map Int.ofNat⟩ ∧ behindF (f.map Int.ofNat) (h.map Int.ofNat) = false := by
  have hp := many_pos κ
  have hl0 : 0 < h.length := by rw [H.len]; exact hp
  have hg0 : h.getD 0 0 = h[0] := by rw [List.getD_eq_getElem?_getD, List.getElem?_eq_getElem hl0]; rfl
  have hge : ∀ i ∈ h, h[0] ≤ i := fun i hi => by
    obtain ⟨q, hq, rfl⟩ := List.getElem_of_mem hi
    by_cases e : q = 0
    · subst e; exact Nat.le_refl _
    · exact Nat.le_of_lt (List.pairwise_iff_getElem.1 H.inc 0 q hl0 hq (by omega))
  have hs0 := H.show_ _ (List.getElem_mem hl0)
  have hlt0 := H.lt _ (List.getElem_mem hl0)
  have L0 := firstS_least (m := m) (l := l) (κ := κ) (M := manyE κ) (fro := h[0]) hs0 hp h H.inc H.key (fun i hi => ⟨hge i hi, H.lt i hi, H.show_ i hi, by rw [← hg0]; exact H.cls i hi⟩) H.len
  have hfull0 : fullE m l κ h[0] = true := decide_eq_true L0.1
  have hstop0 : stopE m l κ h[0] = true := by
    unfold stopE
    rw [hs0, hfull0, Bool.or_true]
    rfl
  have hk : kindE m l κ = (match (List.range l.length).find? (stopE m l κ) with
      | none => none
      | some i => if fullE m l κ i = true then some ⟨κ, (firstE m l κ i).map Int.ofNat⟩ else none) := by unfold kindE; rw [if_neg hd]; rfl
  rcases hfd : (List.range l.length).find? (stopE m l κ) with _ | i
  · have := List.find?_eq_none.1 hfd h[0] (List.mem_range.2 hlt0)
    exact absurd hstop0 this
  · rw [hfd] at hk
    rw [List.find?_eq_some_iff_getElem] at hfd
    obtain ⟨hst, j, hj, hji, hmin⟩ := hfd
    simp at hj hji
    subst hji
    have hle : j ≤ h[0] := by
      by_cases c : h[0] < j
      · have := hmin h[0] c
        simp [hstop0] at this
      · omega
    dsimp only at hk
    have hsj : showE m κ (atE l j) = true := by
      unfold stopE at hst
      rw [Bool.and_eq_true] at hst
      exact hst.1
    by_cases c4 : κ = 4 ∧ j ≠ h[0]
    · have hfj : fullE m l κ j = true := by
        unfold stopE at hst
        rw [hsj, decide_eq_true c4.1] at hst
        exact hst
      rw [if_pos hfj] at hk
      refine ⟨_, hk, ?_⟩
      obtain ⟨t, ht⟩ := firstS_head (m := m) (l := l) (κ := κ) (M := manyE κ) hsj hp (l.length - j - 1)
      have e : firstE m l κ j = j :: t := by
        unfold firstE firstF
        rw [← ht]
        congr 1
        omega
      obtain ⟨y, t', hh⟩ : ∃ y t', h = y :: t' := by
        cases h with
        | nil => simp at hl0
        | cons y t' => exact ⟨y, t', rfl⟩
      subst hh
      simp only [List.getElem_cons_zero] at c4 hle
      rw [e]
      simp only [List.map_cons, behindF]
      have hne : ¬ (Int.ofNat j = Int.ofNat y) := fun e => c4.2 (Int.ofNat.inj e)
      rw [if_neg hne, decide_eq_false_iff_not]
      simp only [Int.ofNat_eq_natCast]
      omega
    · have L := firstS_least (m := m) (l := l) (κ := κ) (M := manyE κ) (fro := j) hsj hp h H.inc H.key (fun i hi => ⟨Nat.le_trans hle (hge i hi), H.lt i hi, H.show_ i hi, by
        by_cases c : κ = 4
        · have : j = h[0] := by
            by_cases d : j = h[0]
            · exact d
            · exact absurd ⟨c, d⟩ c4
          rw [this, ← hg0]
          exact H.cls i hi
        · exact cls_iff.2 fun e => absurd e c⟩) H.len
      have hfj : fullE m l κ j = true := decide_eq_true L.1
      rw [if_pos hfj] at hk
      exact ⟨_, hk, behind_least _ _ (by rw [H.len]; exact L.1) L.2⟩
theorem find_first {m : List Obj} {l : List Edit} {e : Evid} (h : holdsF m l e = true) : (findE m l).kind ≠ 0 ∧ (findE m l).kind ≤ e.kind ∧ ((findE m l).kind = e.kind → behindF (findE m l).edits e.edits = false) := by
  obtain ⟨κ, es⟩ := e
  obtain ⟨h1, h4, hd, f, rfl, H⟩ := holds_list h
  obtain ⟨g, hg, hb⟩ := kind_first hd H
  rcases findE_cases m l with ⟨_, hn⟩ | ⟨κ', a1, a4, hk, hn⟩
  · rw [hn κ h1 h4] at hg
    cases hg
  · obtain ⟨_, i, _, _, _, _, he⟩ := kindE_some hk
    have hkd : (findE m l).kind = κ' := by rw [he]
    have hle : κ' ≤ κ := by
      by_cases c : κ < κ'
      · rw [hn κ h1 c] at hg
        cases hg
      · omega
    rw [hkd]
    refine ⟨by omega, hle, fun e => ?_⟩
    dsimp only at e
    subst e
    rw [hg] at hk
    have := Option.some.inj hk
    rw [← this]
    exact hb
end Go.Pv
