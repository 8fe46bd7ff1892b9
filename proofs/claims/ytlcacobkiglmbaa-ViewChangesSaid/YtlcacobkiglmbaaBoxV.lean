/- Slices that the call owns: clone and insert. -/
import Derived.Test.YtlcacobkiglmbaaCmpV
import Derived.Lib.Overlaps
set_option linter.unusedVariables false
set_option linter.unusedSimpArgs false
set_option maxRecDepth 4000
set_option maxHeartbeats 4000000
namespace Go.Pv
open Go

/-! ### Cells -/
theorem ins_cells (cs P Q V : List A) (h : cs.take (P.length + Q.length) = P ++ Q) (hl : P.length + V.length + Q.length ≤ cs.length) :
    splice (splice cs (P.length + V.length) Q) P.length V = P ++ V ++ (Q ++ cs.drop (P.length + V.length + Q.length)) := by
  unfold splice
  have e1 : (cs.take (P.length + V.length)).length = P.length + V.length := by rw [List.length_take]; omega
  have e2 : (cs.take (P.length + V.length)).take P.length = P := by
    rw [List.take_take, Nat.min_eq_left (by omega)]
    have : (cs.take (P.length + Q.length)).take P.length = P := by rw [h]; exact List.take_left' rfl
    rw [List.take_take, Nat.min_eq_left (by omega)] at this
    exact this
  have e3 : (cs.take (P.length + V.length) ++ Q ++ cs.drop (P.length + V.length + Q.length)).take P.length = P := by
    rw [List.append_assoc, List.take_append_of_le_length (by omega), e2]
  have e4 : (cs.take (P.length + V.length) ++ Q ++ cs.drop (P.length + V.length + Q.length)).drop (P.length + V.length) = Q ++ cs.drop (P.length + V.length + Q.length) := by
    rw [List.append_assoc]
    exact List.drop_left' e1
  rw [e3, e4]
theorem ins_cells2 (cs P Q V : List A) (h : cs.take P.length = P) (hl : P.length + V.length + Q.length ≤ cs.length) :
    splice (splice cs P.length V) (P.length + V.length) Q = P ++ V ++ (Q ++ cs.drop (P.length + V.length + Q.length)) := by
  unfold splice
  rw [h]
  have e1 : (P ++ V).length = P.length + V.length := List.length_append
  have e3 : (P ++ V ++ cs.drop (P.length + V.length)).take (P.length + V.length) = P ++ V := List.take_left' e1
  have e4 : (P ++ V ++ cs.drop (P.length + V.length)).drop (P.length + V.length + Q.length) = cs.drop (P.length + V.length + Q.length) := by
    rw [← List.drop_drop, List.drop_left' e1, List.drop_drop]
  rw [e3, e4]
  simp only [List.append_assoc]
/-- The box of a call, and what it holds. -/
def BoxB (s : Hp) (id c : Nat) (xs : List (List A)) : Prop := ∃ cs, s id = some (.cells cs) ∧ xs.length ≤ c ∧ c ≤ maxLen ∧ cs.length = c * 6 ∧ cs.take (xs.length * 6) = flatS xs ∧ ∀ x ∈ xs, x.length = 6
theorem flatS_take_drop (xs : List (List A)) (i : Nat) : flatS (xs.take i) ++ flatS (xs.drop i) = flatS xs := by
  rw [← flatS_app, List.take_append_drop]
theorem run_overlaps_box {P : Program} (w : World) (tS tR e : TypeId) (ht : P.underlying tS = some (.slice e)) (size : Nat) (hz : ∀ w, (Go.sizeOf e).run P w = .ok size w) (a b : Addr) (la ca lb cb : Nat) (hne : a.block ≠ b.block)
    {cA cB : Array Value} {tA tB : TypeId} {fr : Nat × Nat} (hA : w.heap[a.block]? = some (.cells cA tA fr)) (hA0 : cA.size ≠ 0) (hB : w.heap[b.block]? = some (.cells cB tB (0, 0))) :
    (Extern.SlicesOverlaps.overlaps #[tS, tS] #[tR] #[.slice (some a) la ca, .slice (some b) lb cb]).run P w = .ok (.bool false) w := by
  have hnb : (a.block != b.block) = true := by simpa using hne
  have hnb' : (a.block == b.block) = false := by simpa using hne
  have hsa : w.shape? a.block = some (tA, cA.size) := by simp [World.shape?, hA]
  have hsb : w.shape? b.block = some (tB, cB.size) := by simp [World.shape?, hB]
  have hfb : w.frozen? b = false := by simp [World.frozen?, hB]
  have hfb2 : w.frozen? { block := b.block, off := cB.size } = false := by simp [World.frozen?, hB]
  obtain ⟨n, hn⟩ : ∃ n, cA.size = n + 1 := ⟨cA.size - 1, by omega⟩
  rw [hn] at hsa
  change Sem.run P (α := Value) (do
    let some t := (#[tS, tS] : Array TypeId)[0]? | stuck "slices.overlaps: no parameter types"
    let .slice elem ← underlying t | stuck "slices.overlaps: slice type expected"
    let size ← sizeOf elem
    match (some a : Option Addr), (some b : Option Addr) with
    | some a, some b =>
      if la = 0 ∨ lb = 0 ∨ size = 0 then pure (Value.bool false)
      else if a.block != b.block && (← frozen a) && (← frozen b) then unsupported .addressObserved
      else do
        if a.block != b.block then do
          noView a; noView b
          if ← mayBeOne a b then return Value.bool ((← choose (.extern "sameAddr.stringBytes" 2)) == 1)
        pure (Value.bool (a.block == b.block && a.off < b.off + lb * size && b.off < a.off + la * size))
    | _, _ => pure (Value.bool false)) w = _
  by_cases h0 : la = 0 ∨ lb = 0 ∨ size = 0
  · simp [run_underlying ht, hz, h0]
  · cases hfa : w.frozen? a
    · cases hfe : w.frozen? { block := a.block, off := n + 1 }
      · simp [run_underlying ht, hz, h0, hnb, hnb', frozen, noView, viewAt, mayBeOne, stringish, shape, Sem.run, hsa, hsb, hfa, hfe, hfb, hfb2]
      · simp [run_underlying ht, hz, h0, hnb, hnb', frozen, noView, viewAt, mayBeOne, stringish, shape, Sem.run, hsa, hsb, hfa, hfe, hfb, hfb2]
    · simp [run_underlying ht, hz, h0, hnb, hnb', frozen, noView, viewAt, mayBeOne, stringish, shape, Sem.run, hsa, hsb, hfa, hfb, hfb2]
theorem spec_overlaps (x : List A) (hx : x.length = 6) (id off n c : Nat) (cs : List A) (t : Tok) {s : Hp} {k : Nat → Tk} (hs : s id = some (.cells cs)) : Spec prg 92 [.sl 6 [x] t, .sb id off 6 n c] s k (.bool false) s k := by
  intro w E vs hS hvl hr
  have h0 := hr 0 _ rfl
  have h1 := hr 1 _ rfl
  have hv := args2 vs hvl
  generalize vs.getD 0 Go.undef = u at *
  generalize vs.getD 1 Go.undef = v at *
  subst hv
  obtain ⟨b, cur, ty, a1, a2, a3, a4, a5, a6⟩ := hS.cells id cs hs
  cases h1 with
  | sb _ _ _ _ _ b' o hb hn hm ho =>
    rw [a1] at hb
    cases hb
    cases h0 with
    | sl _ _ _ ad cc f q1 q2 q3 q4 q5 q6 q7 =>
      obtain ⟨b0, o0, e1, e2, e3, _⟩ := q6 0 0 (by simp) (by omega)
      subst e1
      have hne : b0 ≠ b := fun e => by subst e; exact a6 _ e2
      have hcA : ∃ cA tA fr, w.heap[b0]? = some (.cells cA tA fr) ∧ cA.size ≠ 0 := by
        unfold World.cell? at e3
        split at e3
        · rename_i cA tA fr hA
          refine ⟨cA, tA, fr, hA, ?_⟩
          simp only [Option.isSome_none, Bool.false_eq_true, if_false] at e3
          have := (Array.getElem?_eq_some_iff.1 e3).1
          omega
        · cases e3
      obtain ⟨cA, tA, fr, hA, hA0⟩ := hcA
      have hrun := run_callFunc_extern (P := prg) (f := 92) (fn := (prg.funcs[92]?).get!) (by kernel_rfl) (by kernel_rfl) (by kernel_rfl) (by kernel_rfl) (e := Extern.SlicesOverlaps.overlaps #[22, 22] #[4]) (by kernel_rfl) #[.slice (some ⟨b0, o0, none⟩) [x].length cc, .slice (some ⟨b, o, none⟩) n c] w
      rw [run_overlaps_box w 22 4 38 (by kernel_rfl) 6 Go.Proofs.Try.sizeOf38 ⟨b0, o0, none⟩ ⟨b, o, none⟩ _ _ _ _ hne hA hA0 a2] at hrun
      unfold CallsV
      rw [hrun]
      exact ⟨E, Reach.refl hS, .bool _⟩
end Go.Pv
