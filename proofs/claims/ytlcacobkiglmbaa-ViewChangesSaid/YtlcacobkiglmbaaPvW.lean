/- Reading data, with what its sizes say. -/
import Derived.Test.YtlcacobkiglmbaaPvU
import Derived.SizedLaws
set_option linter.unusedVariables false
set_option linter.unusedSimpArgs false
namespace Go.Pv
open Go

/-- Nothing in the data is longer than the form's reach. -/
def Lite {H : Type} (P : Program) (t : TypeId) (d : DataW H) : Prop := (DataW.weights P t d).all (· ≤ reachBytes) = true
/-- What reads as data of a type is some value of a kind, and where nothing is too long, it is small. -/
def OpensW {H : Type} (enc : TypeId × Value → H) (P : Program) (w : World) (t : TypeId) {α : Type} (f : α → List A) (Sm : α → Prop) : Prop :=
  ∀ fuel cs d, DataW.trod enc P w 0 (fun _ => true) true fuel t cs = some d → ∃ x, RelL w (E0 w) (f x) cs ∧ (Lite P t d.1 → Sm x)
section
variable {H : Type} {enc : TypeId × Value → H} {P : Program} {w : World} {t : TypeId}
theorem OpensW.of {α : Type} {f : α → List A} (h : Opens enc P w t f) : OpensW enc P w t f (fun _ => True) := fun fuel cs d hd => by
  obtain ⟨x, hx⟩ := h fuel cs d hd
  exact ⟨x, hx, fun _ => trivial⟩
theorem opensW_string (ht : P.underlying t = some .string) : OpensW enc P w t (fun s : ByteArray => [.str s]) (fun s => s.size ≤ reachBytes) := fun fuel cs d h => by
  obtain ⟨s, rfl, hd, _⟩ := DataW.trod_string ht h
  refine ⟨s, .single (.str s) rfl, fun hl => ?_⟩
  have e : d.1 = .lit (.string s.data.toList) := by rw [hd]
  unfold Lite at hl
  rw [e] at hl
  simp only [DataW.weights, List.all_cons, List.all_nil, Bool.and_true, decide_eq_true_eq] at hl
  simpa using hl
theorem weightsAll_mem {e : TypeId} {p : Nat → Bool} : ∀ {l : List (DataW H)}, (DataW.weightsAll P e l).all p = true → ∀ d ∈ l, (DataW.weights P e d).all p = true
  | [], _, d, hd => by cases hd
  | x :: l, h, d, hd => by
    simp only [DataW.weightsAll, List.all_append, Bool.and_eq_true] at h
    rcases List.mem_cons.1 hd with rfl | hd
    · exact h.1
    · exact weightsAll_mem h.2 d hd
theorem weightsEach_get {p : Nat → Bool} : ∀ {ts : List TypeId} {l : List (DataW H)}, (DataW.weightsEach P ts l).all p = true → ∀ (i : Nat) (t : TypeId) (d : DataW H), ts[i]? = some t → l[i]? = some d → (DataW.weights P t d).all p = true
  | [], l, h, i, t, d, h1, h2 => by cases h1
  | t0 :: ts, [], h, i, t, d, h1, h2 => by cases h2
  | t0 :: ts, x :: l, h, 0, t, d, h1, h2 => by
    cases h1
    cases h2
    simp only [DataW.weightsEach, List.all_append, Bool.and_eq_true] at h
    exact h.1
  | t0 :: ts, x :: l, h, i + 1, t, d, h1, h2 => by
    simp only [DataW.weightsEach, List.all_append, Bool.and_eq_true] at h
    exact weightsEach_get h.2 i t d h1 h2
theorem opensW_slice {e : TypeId} {α : Type} {f : α → List A} {Sm : α → Prop} {n : Nat} (ht : P.underlying t = some (.slice e)) (hn : P.cellsOf e = n) (hpos : 0 < n) (hf : ∀ x, (f x).length = n) (he : OpensW enc P w e f Sm) : OpensW enc P w t (fun xs : List α => [.sl n (xs.map f) .no]) (fun xs => ∀ x ∈ xs, Sm x) := fun fuel cs d h => by
  rcases DataW.trod_slice ht h with ⟨rfl, hd⟩ | ⟨a, len, cap, elems, rest, m, _, rfl, hd, _, hl, hm, hlen, hel, _, _⟩
  · exact ⟨[], .single (.sl n [] .no none 0 (fun _ _ => Go.undef) (by simp) (by simp [maxLen]) (by simp) (by simp) (by simp) (by simp) (by simp)) rfl, fun _ x hx => by cases hx⟩
  · have each : ∀ i, i < len → ∃ x : α, (∃ vs : List Value, w.cells? 0 (a.add (i * n)) n = some vs ∧ RelL w (E0 w) (f x) vs) ∧ ∀ y, elems[i]? = some y → Lite P e y.1 → Sm x := by
      intro i hi
      have h1 := hel i hi
      rw [hn, List.getElem?_eq_getElem (by omega), Option.bind_eq_some_iff] at h1
      obtain ⟨vs, h2, h3⟩ := h1
      obtain ⟨x, hx, hs⟩ := he m vs _ h3
      refine ⟨x, ⟨vs, h2, hx⟩, fun y hy => ?_⟩
      rw [List.getElem?_eq_getElem (by omega)] at hy
      cases hy
      exact hs
    obtain ⟨xs, hxl, hx⟩ := choose_list len each
    refine ⟨xs, .single ?_ rfl, fun hlite x hxm => ?_⟩
    rotate_left
    · obtain ⟨i, hi, rfl⟩ := List.getElem_of_mem hxm
      obtain ⟨_, hs⟩ := hx i xs[i] (List.getElem?_eq_getElem hi)
      have hi' : i < elems.length := by omega
      refine hs elems[i] (List.getElem?_eq_getElem hi') ?_
      unfold Lite at hlite ⊢
      rw [hd] at hlite
      simp only [DataW.weights, ht, List.all_cons, List.all_append, Bool.and_eq_true] at hlite
      exact weightsAll_mem hlite.2.1 _ (List.mem_map.2 ⟨elems[i], List.getElem_mem hi', rfl⟩)
    have hget : ∀ i j, i < len → j < n → ∃ b o, some a = some ⟨b, o, none⟩ ∧ w.cell? ⟨b, o + (i * n + j), none⟩ = some ((w.cell? ⟨a.block, a.off + (i * n + j), none⟩).getD Go.undef) := by
      intro i j hi hj
      obtain ⟨x, ⟨vs, h2, h3⟩, _⟩ := each 0 (by omega)
      have h4 := (cells_get h2).2 0 hpos
      have hsp : a.spot = none := by
        simp only [Nat.zero_mul, Addr.add, if_true] at h4
        unfold World.cell? at h4
        split at h4
        · split at h4
          · cases h4
          · rename_i hs
            simpa using hs
        · cases h4
      obtain ⟨x, ⟨vs, h2, h3⟩, _⟩ := each i hi
      have h5 := (cells_get h2).2 j hj
      have h6 : (a.add (i * n)).add j = ⟨a.block, a.off + (i * n + j), none⟩ := by
        obtain ⟨b, o, sp⟩ := a
        simp only at hsp
        subst hsp
        simp only [Addr.add]
        split <;> split <;> simp_all <;> omega
      rw [h6] at h5
      refine ⟨a.block, a.off, by rw [← hsp], ?_⟩
      rw [h5]
      rfl
    have hcell : ∀ (i : Nat) (vs : List Value), i < len → w.cells? 0 (a.add (i * n)) n = some vs → ∀ j, j < n → (w.cell? ⟨a.block, a.off + (i * n + j), none⟩).getD Go.undef = vs.getD j Go.undef := by
      intro i vs hi h2 j hj
      obtain ⟨b, o, hab, _⟩ := hget i j hi hj
      have h5 := (cells_get h2).2 j hj
      have h6 : (a.add (i * n)).add j = ⟨a.block, a.off + (i * n + j), none⟩ := by
        cases hab
        simp only [Addr.add]
        split <;> split <;> simp_all <;> omega
      rw [h6] at h5
      rw [h5]
      rfl
    have e : len = (xs.map f).length := by simp [hxl]
    rw [e]
    refine .sl n (xs.map f) .no (some a) cap (fun i j => (w.cell? ⟨a.block, a.off + (i * n + j), none⟩).getD Go.undef) (by omega) hm (by simp) (by simp) ?_ ?_ ?_
    · intro i c hc
      rw [List.getElem?_map, Option.map_eq_some_iff] at hc
      obtain ⟨x, _, rfl⟩ := hc
      exact hf x
    · intro i j hi hj
      have hi' : i < len := by omega
      obtain ⟨b, o, hab, hc⟩ := hget i j hi' hj
      refine ⟨b, o, hab, ⟨_, hc⟩, hc, ?_⟩
      obtain ⟨⟨vs, h2, h3⟩, _⟩ := hx i xs[i] (List.getElem?_eq_getElem (by omega))
      have := hcell i vs hi' h2 j hj
      rw [this]
      exact h3.one j (by rw [hf]; exact hj)
    · intro i c j x hc hxj
      rw [List.getElem?_map, Option.map_eq_some_iff] at hc
      obtain ⟨y, hy, rfl⟩ := hc
      have hi' : i < len := by rw [← hxl]; exact (List.getElem?_eq_some_iff.1 hy).1
      obtain ⟨⟨vs, h2, h3⟩, _⟩ := hx i y hy
      have hj : j < n := by rw [← hf y]; exact (List.getElem?_eq_some_iff.1 hxj).1
      rw [hcell i vs hi' h2 j hj]
      exact h3.rel j x hxj

theorem opensW_fields {l : List (TypeId × Nat × Nat)} (hl : fieldsOf P t = some l) {fuel : Nat} {cs : List Value} {d : DataW H × List MemPlace} (h : DataW.trod enc P w 0 (fun _ => true) true fuel t cs = some d) :
    cs.length = P.cellsOf t ∧ ∀ (i u o n : Nat), l[i]? = some (u, o, n) → ∃ m d', DataW.trod enc P w 0 (fun _ => true) true m u ((cs.drop o).take n) = some d' ∧ (Lite P t d.1 → Lite P u d'.1) := by
  unfold fieldsOf at hl
  split at hl
  · rename_i fs hu
    cases hl
    obtain ⟨xs, m, rfl, hd, h1, h2, h3⟩ := DataW.trod_struct hu h
    refine ⟨h1, fun i u o n hi => ?_⟩
    rw [List.getElem?_map, Option.map_eq_some_iff] at hi
    obtain ⟨f, hf, he⟩ := hi
    cases he
    have hf' : fs[i]? = some f := by simpa using hf
    have := h3 i f hf'
    have hlt : i < xs.length := by rw [h2]; exact (Array.getElem?_eq_some_iff.1 hf').1
    rw [List.getElem?_eq_getElem hlt] at this
    refine ⟨m, _, this, fun hlite => ?_⟩
    unfold Lite at hlite ⊢
    rw [hd] at hlite
    simp only [DataW.weights, hu] at hlite
    refine weightsEach_get hlite i _ _ ?_ ?_
    · rw [List.getElem?_map, hf]; rfl
    · rw [List.getElem?_map, List.getElem?_eq_getElem hlt]; rfl
  · cases hl
end
end Go.Pv
