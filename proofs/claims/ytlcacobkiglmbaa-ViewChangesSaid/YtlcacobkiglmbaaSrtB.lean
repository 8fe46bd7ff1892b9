/- The library's sort of strings, as a contract on boxes. -/
import Derived.Test.YtlcacobkiglmbaaEvA
import Derived.Test.YtlcacobkiglmbaaSrt
set_option linter.unusedVariables false
set_option linter.unusedSimpArgs false
set_option maxRecDepth 4000
set_option maxHeartbeats 2000000
namespace Go.Pv
open Go

def rawB (b : ByteArray) : List UInt8 := b.data.toList
def ofRaw (l : List UInt8) : ByteArray := ⟨l.toArray⟩
theorem ofRaw_rawB (b : ByteArray) : ofRaw (rawB b) = b := rfl
theorem rawB_ofRaw (l : List UInt8) : rawB (ofRaw l) = l := rfl
noncomputable def sortB (xs : List ByteArray) : List ByteArray := ((xs.map rawB).mergeSort fun x y => decide (x ≤ y)).map ofRaw
theorem sortB_length (xs : List ByteArray) : (sortB xs).length = xs.length := by unfold sortB; simp
theorem sortB_perm (xs : List ByteArray) : List.Perm (sortB xs) xs := by
  have h := (List.mergeSort_perm (xs.map rawB) fun x y => decide (x ≤ y)).map ofRaw
  rw [List.map_map] at h
  have e : xs.map (ofRaw ∘ rawB) = xs := by
    have : (ofRaw ∘ rawB) = id := rfl
    rw [this, List.map_id]
  rw [e] at h
  exact h
theorem sortB_sorted (xs : List ByteArray) : (sortB xs).Pairwise fun a b => rawB a ≤ rawB b := by
  unfold sortB
  rw [List.pairwise_map]
  have := List.pairwise_mergeSort (le := fun x y : List UInt8 => decide (x ≤ y)) (fun a b c h1 h2 => by
    simp only [decide_eq_true_eq] at *
    exact List.le_trans h1 h2) (fun a b => by
    simp only [Bool.or_eq_true, decide_eq_true_eq]
    exact List.le_total a b) (xs.map rawB)
  exact this.imp fun h => by simpa [rawB_ofRaw] using h
theorem splice_self (cs : List A) (off : Nat) : splice cs off [] = cs := by
  unfold splice
  simp
theorem sort_world {w : World} {b : Nat} {cur : Array Value} {ty : TypeId} (h : w.heap[b]? = some (.cells cur ty (0, 0))) (off : Nat) (ts : List (List UInt8)) (hf : off + ts.length ≤ cur.size) (n : Nat) :
    Go.Sort.putRow Go.Proofs.encStr (Go.Sort.ahead w n) b off ts.toArray = Go.Sort.ahead (w.setRow b (cur.toList.take off ++ (ts.map Go.Proofs.encStr).toArray.toList ++ cur.toList.drop (off + (ts.map Go.Proofs.encStr).toArray.size)).toArray) n := by
  have hlt : b < w.heap.size := (Array.getElem?_eq_some_iff.1 h).1
  have hc : Go.Sort.putCells Go.Proofs.encStr off ts.toArray cur = (cur.toList.take off ++ (ts.map Go.Proofs.encStr).toArray.toList ++ cur.toList.drop (off + (ts.map Go.Proofs.encStr).toArray.size)).toArray := by
    apply Array.ext_getElem?
    intro j
    have hl : (cur.toList.take off).length = off := by simp; omega
    simp only [Go.Sort.putCells, Array.getElem?_mapIdx, List.getElem?_toArray, List.size_toArray, List.length_map]
    by_cases h1 : j < off
    · rw [List.append_assoc, List.getElem?_append_left (by omega), List.getElem?_take, if_pos h1, Array.getElem?_toList]
      cases cur[j]? with
      | none => rfl
      | some x => rw [Option.map_some, if_neg (by omega)]
    · by_cases h2 : j < off + ts.length
      · rw [List.append_assoc, List.getElem?_append_right (by omega), hl, List.getElem?_append_left (by simp; omega)]
        rw [Array.getElem?_eq_getElem (show j < cur.size by omega), Option.map_some, if_pos ⟨by omega, h2⟩]
        rw [getElem!_pos _ (j - off) (by simp; omega)]
        simp only [List.getElem_toArray, List.getElem?_map]
        rw [List.getElem?_eq_getElem (by omega)]
        rfl
      · rw [List.getElem?_append_right (by simp only [List.length_append, hl, List.length_map]; omega), List.getElem?_drop]
        simp only [List.length_append, hl, List.length_map, Array.getElem?_toList]
        rw [show off + ts.length + (j - (off + ts.length)) = j from by omega]
        cases cur[j]? with
        | none => rfl
        | some x => rw [Option.map_some, if_neg (by omega)]
  rw [← hc]
  unfold Go.Sort.putRow Go.Sort.mapBlock World.setRow Go.Sort.ahead
  have e : w.heap.modify b (Go.Sort.onCells (Go.Sort.putCells Go.Proofs.encStr off ts.toArray)) = w.heap.modify b (fun
      | .cells _ elem frozen => .cells (Go.Sort.putCells Go.Proofs.encStr off ts.toArray cur) elem frozen
      | o => o) := by
    apply Array.ext_getElem?
    intro j
    rw [Array.getElem?_modify, Array.getElem?_modify]
    split
    · rename_i e
      subst e
      rw [h]
      rfl
    · rfl
  exact congrArg (fun h => (⟨h, w.tape, w.drawn + n, w.os, w.output⟩ : World)) e
theorem args1 (vs : Array Value) (h : vs.size = 1) : vs = #[vs.getD 0 Go.undef] := by
  apply Array.ext
  · simp [h]
  · intro i h1 h2
    obtain rfl : i = 0 := by omega
    simp [Array.getD_eq_getD_getElem?, Array.getElem?_eq_getElem h1]
theorem agree_grow (w : World) (n : Nat) (os : Array Go.Obj) : Agree (fun _ => False) w (Go.Sort.grow (Go.Sort.ahead w n) os) := by
  refine ⟨rfl, rfl, rfl, ?_, fun k hk _ => ?_⟩
  · show w.heap.size ≤ (w.heap ++ os).size
    simp
  · show (w.heap ++ os)[k]? = w.heap[k]?
    rw [Array.getElem?_append_left hk]
theorem spec_sort (id off c : Nat) (cs : List A) (xs : List ByteArray) {s : Nat → Option Blk} {k : Nat → Tk} (hs : s id = some (.cells cs)) (hfit : off + xs.length ≤ cs.length) (hx : ∀ (j : Nat) (h : j < xs.length), cs[off + j]? = some (.str xs[j])) (hsz : xs.length < 4611686018427387904) (hn0 : 0 < xs.length) :
    Spec prg 79 [.sb id off 1 xs.length c] s k (.tup []) (upd s id (some (.cells (splice cs off ((sortB xs).map .str))))) k := by
  intro w E vs hS hvl hr
  obtain ⟨b, cur, ty, a1, a2, a3, a4, a5, a6⟩ := hS.cells id cs hs
  have h0 := hr 0 _ rfl
  have hvs : vs = #[vs.getD 0 Go.undef] := args1 vs hvl
  generalize vs.getD 0 Go.undef = v at *
  subst hvs
  cases h0 with
  | sb _ _ _ _ _ b' o hb hn hmx ho =>
    rw [a1] at hb
    cases hb
    have ho' : o = off := ho (by omega)
    subst ho'
    have hcell : ∀ (j : Nat) (h : j < xs.length), cur[o + j]? = some (.string xs[j]) := by
      intro j h
      have h1 := (a5 (o + j) _ (hx j h)).rel
      rw [Array.getElem?_eq_getElem (by omega)]
      rw [Array.getD_eq_getD_getElem?, Array.getElem?_eq_getElem (by omega)] at h1
      have h2 : cur[o + j] = .string xs[j] := relv_str h1
      rw [h2]
    have hH : Go.Sort.Holds Go.Proofs.encStr w b o (xs.map rawB).toArray := by
      intro j hj
      have hj' : j < xs.length := by simpa using hj
      refine ⟨?_, by simp [World.frozen?, a2]⟩
      unfold World.cell?
      simp only [a2, Option.isSome_none, Bool.false_eq_true, if_false]
      rw [hcell j hj', getElem!_pos _ j hj]
      simp only [List.getElem_toArray, List.getElem_map]
      rfl
    have hlt : b < w.heap.size := (Array.getElem?_eq_some_iff.1 a2).1
    have hsort := Go.Proofs.Try.slices_Sort_string b o c (xs.map rawB) w hH hlt (by simpa using hsz)
    rw [List.length_map] at hsort
    obtain ⟨fn, cd, q1, q2, q3⟩ : ∃ fn cd, prg.funcs[79]? = some fn ∧ (fn.name == "runtime.NumGoroutine") = false ∧ fn.body = some cd := ⟨_, _, Go.Proofs.Try.func79, by kernel_rfl, rfl⟩
    unfold CallsV
    rw [run_callFunc q1 q2 q3]
    refine Calls.mono hsort fun e w' h => ?_
    obtain ⟨rfl, n, os, rfl⟩ := h
    refine ⟨_, rfl, E, ?_, .tup [] #[] rfl (by simp)⟩
    have hsl : (((xs.map rawB).mergeSort fun x y => decide (x ≤ y))).length = xs.length := by simp
    have g1 : ∀ j, j < ((sortB xs).map A.str).length → ((((xs.map rawB).mergeSort fun x y => decide (x ≤ y)).map Go.Proofs.encStr).toArray.getD j Go.undef).oneCell' = true := by
      intro j hj
      simp only [List.length_map, sortB_length] at hj
      rw [Array.getD_eq_getD_getElem?, List.getElem?_toArray, List.getElem?_map, List.getElem?_eq_getElem (by simpa using hj)]
      rfl
    have g2 : ∀ j x, ((sortB xs).map A.str)[j]? = some x → RelP w E k x ((((xs.map rawB).mergeSort fun x y => decide (x ≤ y)).map Go.Proofs.encStr).toArray.getD j Go.undef) := by
      intro j x hxj
      unfold sortB at hxj
      rw [List.map_map, List.getElem?_map] at hxj
      obtain ⟨l, hl, rfl⟩ := Option.map_eq_some_iff.1 hxj
      rw [Array.getD_eq_getD_getElem?, List.getElem?_toArray, List.getElem?_map, hl]
      exact relp_of (.str _) (by simp)
    obtain ⟨w1, r1, r2⟩ := hS.store (P := prg) hs a1 o ((sortB xs).map A.str) _ (by simp [sortB]) (by rw [List.length_map, sortB_length]; exact hfit) g1 g2
    have hrun := run_storeCells_at prg b o ty ((((xs.map rawB).mergeSort fun x y => decide (x ≤ y)).map Go.Proofs.encStr).toArray).toList 0 cur w a2 (by simp; omega) (by
      intro v hv
      simp only [List.mem_map] at hv
      obtain ⟨l, _, rfl⟩ := hv
      rfl)
    rw [Array.length_toList, Nat.add_zero] at hrun
    rw [hrun] at r1
    have hw1 := (Result.ok.inj r1).2
    rw [sort_world a2 o _ (by omega) n, hw1]
    exact r2.trans (r2.S.agree (agree_grow w1 n os))
theorem spec_sort0 (e : Nat) (t : Tok) {s : Nat → Option Blk} {k : Nat → Tk} : Spec prg 79 [.sl e [] t] s k (.tup []) s k := by
  intro w E vs hS hvl hr
  have h0 := hr 0 _ rfl
  have hvs : vs = #[vs.getD 0 Go.undef] := args1 vs hvl
  generalize vs.getD 0 Go.undef = v at *
  subst hvs
  cases h0 with
  | sl _ _ _ ad c f h1 h2 h3 h4 h5 h6 h7 =>
    have hsort := Go.Proofs.Try.slices_Sort_string_none ad c w
    obtain ⟨fn, cd, q1, q2, q3⟩ : ∃ fn cd, prg.funcs[79]? = some fn ∧ (fn.name == "runtime.NumGoroutine") = false ∧ fn.body = some cd := ⟨_, _, Go.Proofs.Try.func79, by kernel_rfl, rfl⟩
    unfold CallsV
    rw [run_callFunc q1 q2 q3]
    refine Calls.mono hsort fun e w' h => ?_
    obtain ⟨rfl, rfl⟩ := h
    exact ⟨_, rfl, E, Reach.refl hS, .tup [] #[] rfl (by simp)⟩
end Go.Pv
