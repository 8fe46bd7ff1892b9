/-
  No cell of these rows narrows 'for every input' (looked for: loops, veiled, ifaces, maps, wideKeys, modest, calm, conditions, laid).
  DERIVED. THE GIVEN ROWS OF THIS SEAT. 3 by the template 'for every input the law returns true; each argument reads behind the call as it read before'; 0 by the template 'total and deterministic' (their statements: YtgmdhegbkbeihaaTotals.lean).
  GIVEN WITH THE SEED: the statements are not yours to turn. If you find one false, say at which input.
  Laid BY PROGRAM, IN A SANDBOX (cutbox-rows.mjs): the forced cells as the released guide's own fill.sh prints them over the translation c1b4cfe9a06674cc… (all of the seat's roots in one cut). By AI agents, Wed Nov 11 2026. No macro, syntax, notation, axiom, sorry.
-/
import Derived.Test.YtgmdhegbkbeihaaChecked
import GoSem.Claim
import GoSem.ClaimJoined
import GoSem.ClaimMapViews
import Derived.JoinedTies
import Derived.KernelRfl
namespace Go.Proofs.Ytgmdhegbkbeihaa
/- THE CELL 'sum', in the pinned program and in every row, IS THE sha256 OF THE DUMP (.gsa) THAT YtgmdhegbkbeihaaProg.lean LOADS. Nothing in Lean hashes anything: it is a label: what it is worth is what the hold of that sum in a sandbox is worth. -/
noncomputable def Try.pinned : Pinned := { name := "ytgmdhegbkbeihaa", sum := "c1b4cfe9a06674ccf4db5b8292fd61416af335843e0f0c3fd80c3fe15ab0cfba", checked := Try.checked }
namespace Rows
def none {H : Type} : Left H := { results := [], args := [] }

/-- 'planispherelaw32.VerifyMatchesReference': WHATEVER THE INPUT: true; the input reads as it did. -/
def verifyMatchesReferenceSpec : ChangeSpec := { name := "verifyMatchesReference", fn := fun _ => fun
  | [d1, d2, d3] => { results := [.lit (.bool true)], args := [d1, d2, d3] }
  | _ => none }
def verifyMatchesReferenceRow : OpenClaim := { program := "ytgmdhegbkbeihaa", sum := "c1b4cfe9a06674ccf4db5b8292fd61416af335843e0f0c3fd80c3fe15ab0cfba", func := "planisphere/planispherelaw32.VerifyMatchesReference", spec := "verifyMatchesReference", unfollowed := true, recurses := true, apart := false }
def VerifyMatchesReferenceSaid : Prop := verifyMatchesReferenceRow.holds Try.pinned (OpenSpec.ofChange verifyMatchesReferenceSpec)

/-- ITS FALSE NEIGHBOUR: 'it returns false'. Refute it at one input. -/
def verifyMatchesReferenceWrong : ChangeSpec := { name := "verifyMatchesReference", fn := fun _ => fun
  | [d1, d2, d3] => { results := [.lit (.bool false)], args := [d1, d2, d3] }
  | _ => none }
def VerifyMatchesReferenceWrongFalsely : Prop := verifyMatchesReferenceRow.holds Try.pinned (OpenSpec.ofChange verifyMatchesReferenceWrong)

/-- 'planispherelaw32.VerifyExact': WHATEVER THE INPUT: true; the input reads as it did. -/
def verifyExactSpec : ChangeSpec := { name := "verifyExact", fn := fun _ => fun
  | [d1, d2, d3, d4] => { results := [.lit (.bool true)], args := [d1, d2, d3, d4] }
  | _ => none }
def verifyExactRow : OpenClaim := { program := "ytgmdhegbkbeihaa", sum := "c1b4cfe9a06674ccf4db5b8292fd61416af335843e0f0c3fd80c3fe15ab0cfba", func := "planisphere/planispherelaw32.VerifyExact", spec := "verifyExact", unfollowed := true, recurses := true, apart := false }
def VerifyExactSaid : Prop := verifyExactRow.holds Try.pinned (OpenSpec.ofChange verifyExactSpec)

/-- ITS FALSE NEIGHBOUR: 'it returns false'. Refute it at one input. -/
def verifyExactWrong : ChangeSpec := { name := "verifyExact", fn := fun _ => fun
  | [d1, d2, d3, d4] => { results := [.lit (.bool false)], args := [d1, d2, d3, d4] }
  | _ => none }
def VerifyExactWrongFalsely : Prop := verifyExactRow.holds Try.pinned (OpenSpec.ofChange verifyExactWrong)

/-- 'planispherelaw32.VerifyOthers': WHATEVER THE INPUT: true; the input reads as it did. -/
def verifyOthersSpec : ChangeSpec := { name := "verifyOthers", fn := fun _ => fun
  | [d1, d2, d3, d4] => { results := [.lit (.bool true)], args := [d1, d2, d3, d4] }
  | _ => none }
def verifyOthersRow : OpenClaim := { program := "ytgmdhegbkbeihaa", sum := "c1b4cfe9a06674ccf4db5b8292fd61416af335843e0f0c3fd80c3fe15ab0cfba", func := "planisphere/planispherelaw32.VerifyOthers", spec := "verifyOthers", unfollowed := true, recurses := true, apart := false }
def VerifyOthersSaid : Prop := verifyOthersRow.holds Try.pinned (OpenSpec.ofChange verifyOthersSpec)

/-- ITS FALSE NEIGHBOUR: 'it returns false'. Refute it at one input. -/
def verifyOthersWrong : ChangeSpec := { name := "verifyOthers", fn := fun _ => fun
  | [d1, d2, d3, d4] => { results := [.lit (.bool false)], args := [d1, d2, d3, d4] }
  | _ => none }
def VerifyOthersWrongFalsely : Prop := verifyOthersRow.holds Try.pinned (OpenSpec.ofChange verifyOthersWrong)

/- THE SECOND FORM. 'bulk': how many values and letters a reading holds, each counted each time it is reached (what is shared counts as often as it is met; a slice's spare places count too). A statement '..UptoSaid' is the law's where the arguments, and the package variables that the reading takes, are together of bulk at most 1048576: NARROWER than '..Said'. Prove '..Said' where nothing that the law and all that it calls make is longer than what came in: it says more and counts as full. Else prove '..UptoSaid'. A law counts once. -/
mutual
def uptoBulk {H : Type} : DataW H → Nat
  | .lit (.string bytes) => bytes.length + 1
  | .lit _ => 1
  | .nil => 1
  | .ptr d => uptoBulk d + 1
  | .slice elems spare => uptoBulkAll elems + uptoBulkAll spare + 1
  | .agg parts => uptoBulkAll parts + 1
  | .iface _ d => uptoBulk d + 1
  | .map entries => uptoBulkEntries entries + 1
  | .held _ => 1
def uptoBulkAll {H : Type} : List (DataW H) → Nat
  | [] => 0
  | d :: r => uptoBulk d + uptoBulkAll r
def uptoBulkEntries {H : Type} : List (Lit × DataW H) → Nat
  | [] => 0
  | x :: r => uptoBulkEntry x + uptoBulkEntries r
def uptoBulkEntry {H : Type} : Lit × DataW H → Nat
  | (.string bytes, d) => bytes.length + uptoBulk d + 1
  | (_, d) => uptoBulk d + 1
 end
def uptoSmall : (H : Type) → List (DataW H) → Bool := fun _ ds => decide (uptoBulkAll ds ≤ 1048576)
def OpenSpec.upto (s : _root_.Go.ChangeSpec) : _root_.Go.OpenSpec := { _root_.Go.OpenSpec.ofChange s with cond := some uptoSmall }

/-- 'planispherelaw32.VerifyMatchesReference', WHERE WHAT IT READS IS OF BULK AT MOST 1048576: true; the input reads as it did. -/
def verifyMatchesReferenceUptoRow : OpenClaim := { program := "ytgmdhegbkbeihaa", sum := "c1b4cfe9a06674ccf4db5b8292fd61416af335843e0f0c3fd80c3fe15ab0cfba", func := "planisphere/planispherelaw32.VerifyMatchesReference", spec := "verifyMatchesReference", unfollowed := true, recurses := true, apart := false, narrowed := true }
def VerifyMatchesReferenceUptoSaid : Prop := verifyMatchesReferenceUptoRow.holds Try.pinned (OpenSpec.upto verifyMatchesReferenceSpec)

/-- 'planispherelaw32.VerifyExact', WHERE WHAT IT READS IS OF BULK AT MOST 1048576: true; the input reads as it did. -/
def verifyExactUptoRow : OpenClaim := { program := "ytgmdhegbkbeihaa", sum := "c1b4cfe9a06674ccf4db5b8292fd61416af335843e0f0c3fd80c3fe15ab0cfba", func := "planisphere/planispherelaw32.VerifyExact", spec := "verifyExact", unfollowed := true, recurses := true, apart := false, narrowed := true }
def VerifyExactUptoSaid : Prop := verifyExactUptoRow.holds Try.pinned (OpenSpec.upto verifyExactSpec)

/-- 'planispherelaw32.VerifyOthers', WHERE WHAT IT READS IS OF BULK AT MOST 1048576: true; the input reads as it did. -/
def verifyOthersUptoRow : OpenClaim := { program := "ytgmdhegbkbeihaa", sum := "c1b4cfe9a06674ccf4db5b8292fd61416af335843e0f0c3fd80c3fe15ab0cfba", func := "planisphere/planispherelaw32.VerifyOthers", spec := "verifyOthers", unfollowed := true, recurses := true, apart := false, narrowed := true }
def VerifyOthersUptoSaid : Prop := verifyOthersUptoRow.holds Try.pinned (OpenSpec.upto verifyOthersSpec)

end Rows
end Go.Proofs.Ytgmdhegbkbeihaa
