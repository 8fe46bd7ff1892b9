/- Loops over tables of slots. -/
import Derived.Test.YtlcacobkiglmbaaPvS
set_option linter.unusedVariables false
set_option linter.unusedSimpArgs false
namespace Go.Pv
open Go
/-- A table of 256 bytes, empty. -/
def zc256 : List A := List.replicate 256 (.int .u8 0)
section
variable {α : Type}
def LI (L : Nat → α → List (Nat × A)) (S : Nat → α → Hp) (K : Nat → α → Nat → Tk) (F : Nat → α → Prop) (N : Nat) : Nat → St → Prop := upI (fun j st => ∃ a, st = ⟨tab (L j a), S j a, K j a⟩ ∧ F j a) N
/-- A loop that counts up: the slots, the boxes, the tokens, and what is known, round by round. -/
theorem loop_L {P : Program} {x : PC} {Q : PX → St → Prop} {t : Nat → A} {s : Hp} {k : Nat → Tk} (N : Nat) (L : Nat → α → List (Nat × A)) (S : Nat → α → Hp) (K : Nat → α → Nat → Tk) (F : Nat → α → Prop) (a0 : α) (hs : SExt (S 0 a0) s) (hk : K 0 a0 = k) (ht : TabLe t (L 0 a0)) (hf : F 0 a0)
    (h : ∀ j a, j ≤ N → F j a → pwp P x (nextQ (LI L S K F N) (N - j) Q) ⟨tab (L j a), S j a, K j a⟩) : pwp P (.loop x) Q ⟨t, s, k⟩ := by
  refine loop_tab N (fun j st => ∃ a, st = ⟨tab (L j a), S j a, K j a⟩ ∧ F j a) ⟨_, ?_, a0, rfl, hf⟩ ?_
  · rw [hk]; exact St.le_tab _ hs ht
  · rintro j _ hj ⟨a, rfl, hf⟩
    exact h j a hj hf
theorem next_L {L : Nat → α → List (Nat × A)} {S : Nat → α → Hp} {K : Nat → α → Nat → Tk} {F : Nat → α → Prop} {N j : Nat} {Q : PX → St → Prop} {t : Nat → A} {s' : Hp} {k' : Nat → Tk} (hj : j < N) (a : α) (hs : SExt (S (j + 1) a) s') (hk : K (j + 1) a = k') (ht : TabLe t (L (j + 1) a)) (hf : F (j + 1) a) :
    nextQ (LI L S K F N) (N - j) Q .normal ⟨t, s', k'⟩ :=
  nextU_in hj (by rw [← hk]; exact St.le_tab _ hs ht) ⟨a, rfl, hf⟩
end
theorem filter_take {α : Type} (p : α → Bool) (l : List α) {j : Nat} (h : j < l.length) : (l.take (j + 1)).filter p = (l.take j).filter p ++ (if p l[j] then [l[j]] else []) := by
  rw [List.take_succ_eq_append_getElem h, List.filter_append]
  congr 1
  cases hp : p l[j] <;> simp [hp]
theorem all_take {α : Type} (p : α → Bool) (l : List α) {j : Nat} (h : j < l.length) : (l.take (j + 1)).all p = ((l.take j).all p && p l[j]) := by
  rw [List.take_succ_eq_append_getElem h, List.all_append]
  simp
/-- The rules of one run of the rewriting. -/
theorem sZ : type_of% (And.intro @pvZ (And.intro @lz (And.intro @nz (And.intro @rr_one (And.intro @upd_apply (And.intro @upd_upd (And.intro @Option.map_none.{0,0} (And.intro @Option.map_some.{0,0} (And.intro @eq_self.{1} (And.intro @true_or (And.intro @or_true (And.intro @Nat.sub_zero @Int.le_refl)))))))))))) := And.intro @pvZ (And.intro @lz (And.intro @nz (And.intro @rr_one (And.intro @upd_apply (And.intro @upd_upd (And.intro @Option.map_none.{0,0} (And.intro @Option.map_some.{0,0} (And.intro @eq_self.{1} (And.intro @true_or (And.intro @or_true (And.intro @Nat.sub_zero @Int.le_refl)))))))))))
end Go.Pv
