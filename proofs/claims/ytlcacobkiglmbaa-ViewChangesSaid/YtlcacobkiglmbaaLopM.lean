/- Loops with a measure, over tables of slots. -/
import Derived.Test.YtlcacobkiglmbaaPvV
set_option linter.unusedVariables false
namespace Go.Pv
open Go
section
variable {α : Type}
def MI (L : α → List (Nat × A)) (S : α → Hp) (K : α → Nat → Tk) (F : α → Prop) (μ : α → Nat) : Nat → St → Prop := fun m st => ∃ a, m = μ a ∧ st = ⟨tab (L a), S a, K a⟩ ∧ F a
theorem loop_M {P : Program} {x : PC} {Q : PX → St → Prop} {t : Nat → A} {s : Hp} {k : Nat → Tk} (μ : α → Nat) (L : α → List (Nat × A)) (S : α → Hp) (K : α → Nat → Tk) (F : α → Prop) (a0 : α) (hs : SExt (S a0) s) (hk : K a0 = k) (ht : TabLe t (L a0)) (hf : F a0)
    (h : ∀ a, F a → pwp P x (nextQ (MI L S K F μ) (μ a) Q) ⟨tab (L a), S a, K a⟩) : pwp P (.loop x) Q ⟨t, s, k⟩ := by
  refine ⟨MI L S K F μ, ⟨_, μ a0, ?_, a0, rfl, rfl, hf⟩, ?_⟩
  · rw [hk]; exact St.le_tab _ hs ht
  · rintro _ _ ⟨a, rfl, rfl, hf⟩
    have := h a hf
    have e : nextQ (MI L S K F μ) (μ a) Q = fun e st' => match e with
      | .normal => ∃ st2 m', m' < μ a ∧ St.le st' st2 ∧ MI L S K F μ m' st2
      | e => Q e st' := by funext e st'; cases e <;> rfl
    rw [e] at this
    exact this
theorem next_M {L : α → List (Nat × A)} {S : α → Hp} {K : α → Nat → Tk} {F : α → Prop} {μ : α → Nat} {Q : PX → St → Prop} {n : Nat} {t : Nat → A} {s' : Hp} {k' : Nat → Tk} (a : α) (hlt : μ a < n) (hs : SExt (S a) s') (hk : K a = k') (ht : TabLe t (L a)) (hf : F a) :
    nextQ (MI L S K F μ) n Q .normal ⟨t, s', k'⟩ := ⟨_, _, hlt, by rw [← hk]; exact St.le_tab _ hs ht, a, rfl, rfl, hf⟩
end
end Go.Pv
