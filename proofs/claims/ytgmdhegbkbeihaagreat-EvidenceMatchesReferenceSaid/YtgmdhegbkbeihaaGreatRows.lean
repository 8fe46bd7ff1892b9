/-
  No cell of these rows narrows 'for every input' (looked for: loops, veiled, ifaces, maps, wideKeys, modest, calm, conditions, laid).
  DERIVED. THE GIVEN ROWS OF THIS SEAT. 7 by the template 'for every input the law returns true; each argument reads behind the call as it read before'; 0 by the template 'total and deterministic' (their statements: YtgmdhegbkbeihaaGreatTotals.lean).
  GIVEN WITH THE SEED: the statements are not yours to turn. If you find one false, say at which input.
  Laid BY PROGRAM, IN A SANDBOX (cutbox-rows.mjs): the forced cells as the released guide's own fill.sh prints them over the translation 2721302854b7afa6… (all of the seat's roots in one cut). By AI agents, Wed Nov 11 2026. No macro, syntax, notation, axiom, sorry.
-/
import Derived.Test.YtgmdhegbkbeihaaGreatChecked
import GoSem.Claim
import GoSem.ClaimJoined
import GoSem.ClaimMapViews
import Derived.JoinedTies
import Derived.KernelRfl
namespace Go.Proofs.YtgmdhegbkbeihaaGreat
/- THE CELL 'sum', in the pinned program and in every row, IS THE sha256 OF THE DUMP (.gsa) THAT YtgmdhegbkbeihaaGreatProg.lean LOADS. Nothing in Lean hashes anything: it is a label: what it is worth is what the hold of that sum in a sandbox is worth. -/
noncomputable def Tryz.pinned : Pinned := { name := "ytgmdhegbkbeihaagreat", sum := "2721302854b7afa61266579868b7a7c797f6f6244e8b169268579cecc5ac8bf1", checked := Tryz.checked }
namespace Rows
def none {H : Type} : Left H := { results := [], args := [] }

/-- 'planispherelaw31.EvidenceMatchesReference': WHATEVER THE INPUT: true; the input reads as it did. -/
def evidenceMatchesReferenceSpec : ChangeSpec := { name := "evidenceMatchesReference", fn := fun _ => fun
  | [d1, d2] => { results := [.lit (.bool true)], args := [d1, d2] }
  | _ => none }
def evidenceMatchesReferenceRow : OpenClaim := { program := "ytgmdhegbkbeihaagreat", sum := "2721302854b7afa61266579868b7a7c797f6f6244e8b169268579cecc5ac8bf1", func := "planisphere/planispherelaw31.EvidenceMatchesReference", spec := "evidenceMatchesReference", inPlace := ["internal/bytealg.IndexByteString", "internal/bytealg.abigen_runtime_cmpstring", "slices.overlaps[planisphere/api.Tag]", "slices.overlaps[planisphere/api.Object]"], unfollowed := true, recurses := true, apart := false }
def EvidenceMatchesReferenceSaid : Prop := evidenceMatchesReferenceRow.holds Tryz.pinned (OpenSpec.ofChange evidenceMatchesReferenceSpec)

/-- ITS FALSE NEIGHBOUR: 'it returns false'. Refute it at one input. -/
def evidenceMatchesReferenceWrong : ChangeSpec := { name := "evidenceMatchesReference", fn := fun _ => fun
  | [d1, d2] => { results := [.lit (.bool false)], args := [d1, d2] }
  | _ => none }
def EvidenceMatchesReferenceWrongFalsely : Prop := evidenceMatchesReferenceRow.holds Tryz.pinned (OpenSpec.ofChange evidenceMatchesReferenceWrong)

/-- 'planispherelaw31.EvidenceHolds': WHATEVER THE INPUT: true; the input reads as it did. -/
def evidenceHoldsSpec : ChangeSpec := { name := "evidenceHolds", fn := fun _ => fun
  | [d1, d2] => { results := [.lit (.bool true)], args := [d1, d2] }
  | _ => none }
def evidenceHoldsRow : OpenClaim := { program := "ytgmdhegbkbeihaagreat", sum := "2721302854b7afa61266579868b7a7c797f6f6244e8b169268579cecc5ac8bf1", func := "planisphere/planispherelaw31.EvidenceHolds", spec := "evidenceHolds", inPlace := ["internal/bytealg.IndexByteString", "internal/bytealg.abigen_runtime_cmpstring", "slices.overlaps[planisphere/api.Tag]", "slices.overlaps[planisphere/api.Object]"], unfollowed := true, recurses := true, apart := false }
def EvidenceHoldsSaid : Prop := evidenceHoldsRow.holds Tryz.pinned (OpenSpec.ofChange evidenceHoldsSpec)

/-- ITS FALSE NEIGHBOUR: 'it returns false'. Refute it at one input. -/
def evidenceHoldsWrong : ChangeSpec := { name := "evidenceHolds", fn := fun _ => fun
  | [d1, d2] => { results := [.lit (.bool false)], args := [d1, d2] }
  | _ => none }
def EvidenceHoldsWrongFalsely : Prop := evidenceHoldsRow.holds Tryz.pinned (OpenSpec.ofChange evidenceHoldsWrong)

/-- 'planispherelaw31.EvidenceFirst': WHATEVER THE INPUT: true; the input reads as it did. -/
def evidenceFirstSpec : ChangeSpec := { name := "evidenceFirst", fn := fun _ => fun
  | [d1, d2, d3] => { results := [.lit (.bool true)], args := [d1, d2, d3] }
  | _ => none }
def evidenceFirstRow : OpenClaim := { program := "ytgmdhegbkbeihaagreat", sum := "2721302854b7afa61266579868b7a7c797f6f6244e8b169268579cecc5ac8bf1", func := "planisphere/planispherelaw31.EvidenceFirst", spec := "evidenceFirst", inPlace := ["internal/bytealg.IndexByteString", "internal/bytealg.abigen_runtime_cmpstring", "slices.overlaps[planisphere/api.Tag]", "slices.overlaps[planisphere/api.Object]"], unfollowed := true, recurses := true, apart := false }
def EvidenceFirstSaid : Prop := evidenceFirstRow.holds Tryz.pinned (OpenSpec.ofChange evidenceFirstSpec)

/-- ITS FALSE NEIGHBOUR: 'it returns false'. Refute it at one input. -/
def evidenceFirstWrong : ChangeSpec := { name := "evidenceFirst", fn := fun _ => fun
  | [d1, d2, d3] => { results := [.lit (.bool false)], args := [d1, d2, d3] }
  | _ => none }
def EvidenceFirstWrongFalsely : Prop := evidenceFirstRow.holds Tryz.pinned (OpenSpec.ofChange evidenceFirstWrong)

/-- 'planispherelaw31.EvidenceFurther': WHATEVER THE INPUT: true; the input reads as it did. -/
def evidenceFurtherSpec : ChangeSpec := { name := "evidenceFurther", fn := fun _ => fun
  | [d1, d2, d3] => { results := [.lit (.bool true)], args := [d1, d2, d3] }
  | _ => none }
def evidenceFurtherRow : OpenClaim := { program := "ytgmdhegbkbeihaagreat", sum := "2721302854b7afa61266579868b7a7c797f6f6244e8b169268579cecc5ac8bf1", func := "planisphere/planispherelaw31.EvidenceFurther", spec := "evidenceFurther", inPlace := ["internal/bytealg.IndexByteString", "internal/bytealg.abigen_runtime_cmpstring", "slices.overlaps[planisphere/api.Tag]", "slices.overlaps[planisphere/api.Object]"], unfollowed := true, recurses := true, apart := false }
def EvidenceFurtherSaid : Prop := evidenceFurtherRow.holds Tryz.pinned (OpenSpec.ofChange evidenceFurtherSpec)

/-- ITS FALSE NEIGHBOUR: 'it returns false'. Refute it at one input. -/
def evidenceFurtherWrong : ChangeSpec := { name := "evidenceFurther", fn := fun _ => fun
  | [d1, d2, d3] => { results := [.lit (.bool false)], args := [d1, d2, d3] }
  | _ => none }
def EvidenceFurtherWrongFalsely : Prop := evidenceFurtherRow.holds Tryz.pinned (OpenSpec.ofChange evidenceFurtherWrong)

/-- 'planispherelaw32.VerifyFound': WHATEVER THE INPUT: true; the input reads as it did. -/
def verifyFoundSpec : ChangeSpec := { name := "verifyFound", fn := fun _ => fun
  | [d1, d2] => { results := [.lit (.bool true)], args := [d1, d2] }
  | _ => none }
def verifyFoundRow : OpenClaim := { program := "ytgmdhegbkbeihaagreat", sum := "2721302854b7afa61266579868b7a7c797f6f6244e8b169268579cecc5ac8bf1", func := "planisphere/planispherelaw32.VerifyFound", spec := "verifyFound", inPlace := ["internal/bytealg.IndexByteString", "internal/bytealg.abigen_runtime_cmpstring", "slices.overlaps[planisphere/api.Tag]", "slices.overlaps[planisphere/api.Object]"], unfollowed := true, recurses := true, apart := false }
def VerifyFoundSaid : Prop := verifyFoundRow.holds Tryz.pinned (OpenSpec.ofChange verifyFoundSpec)

/-- ITS FALSE NEIGHBOUR: 'it returns false'. Refute it at one input. -/
def verifyFoundWrong : ChangeSpec := { name := "verifyFound", fn := fun _ => fun
  | [d1, d2] => { results := [.lit (.bool false)], args := [d1, d2] }
  | _ => none }
def VerifyFoundWrongFalsely : Prop := verifyFoundRow.holds Tryz.pinned (OpenSpec.ofChange verifyFoundWrong)

/-- 'planispherelaw32.VerifySound': WHATEVER THE INPUT: true; the input reads as it did. -/
def verifySoundSpec : ChangeSpec := { name := "verifySound", fn := fun _ => fun
  | [d1, d2, d3] => { results := [.lit (.bool true)], args := [d1, d2, d3] }
  | _ => none }
def verifySoundRow : OpenClaim := { program := "ytgmdhegbkbeihaagreat", sum := "2721302854b7afa61266579868b7a7c797f6f6244e8b169268579cecc5ac8bf1", func := "planisphere/planispherelaw32.VerifySound", spec := "verifySound", inPlace := ["internal/bytealg.IndexByteString", "internal/bytealg.abigen_runtime_cmpstring", "slices.overlaps[planisphere/api.Tag]", "slices.overlaps[planisphere/api.Object]"], unfollowed := true, recurses := true, apart := false }
def VerifySoundSaid : Prop := verifySoundRow.holds Tryz.pinned (OpenSpec.ofChange verifySoundSpec)

/-- ITS FALSE NEIGHBOUR: 'it returns false'. Refute it at one input. -/
def verifySoundWrong : ChangeSpec := { name := "verifySound", fn := fun _ => fun
  | [d1, d2, d3] => { results := [.lit (.bool false)], args := [d1, d2, d3] }
  | _ => none }
def VerifySoundWrongFalsely : Prop := verifySoundRow.holds Tryz.pinned (OpenSpec.ofChange verifySoundWrong)

/-- 'planispherelaw31.EvidenceOthers': WHATEVER THE INPUT: true; the input reads as it did. -/
def evidenceOthersSpec : ChangeSpec := { name := "evidenceOthers", fn := fun _ => fun
  | [d1, d2] => { results := [.lit (.bool true)], args := [d1, d2] }
  | _ => none }
def evidenceOthersRow : OpenClaim := { program := "ytgmdhegbkbeihaagreat", sum := "2721302854b7afa61266579868b7a7c797f6f6244e8b169268579cecc5ac8bf1", func := "planisphere/planispherelaw31.EvidenceOthers", spec := "evidenceOthers", inPlace := ["internal/bytealg.IndexByteString", "internal/bytealg.abigen_runtime_cmpstring", "slices.overlaps[planisphere/api.Tag]", "slices.overlaps[planisphere/api.Object]"], unfollowed := true, recurses := true, apart := false }
def EvidenceOthersSaid : Prop := evidenceOthersRow.holds Tryz.pinned (OpenSpec.ofChange evidenceOthersSpec)

/-- ITS FALSE NEIGHBOUR: 'it returns false'. Refute it at one input. -/
def evidenceOthersWrong : ChangeSpec := { name := "evidenceOthers", fn := fun _ => fun
  | [d1, d2] => { results := [.lit (.bool false)], args := [d1, d2] }
  | _ => none }
def EvidenceOthersWrongFalsely : Prop := evidenceOthersRow.holds Tryz.pinned (OpenSpec.ofChange evidenceOthersWrong)

/- THE SECOND FORM. 'bulk': how many values and letters a reading holds, each counted each time it is reached (what is shared counts as often as it is met; a slice's spare places count too). A statement '..UptoSaid' is the law's where the arguments, and the package variables that the reading takes, are together of bulk at most 1048576: NARROWER than '..Said'. Prove '..Said' where nothing that the law and all that it calls make is longer than what came in: it says more and counts as full. Else prove '..UptoSaid'. A law counts once. -/
mutual
def uptoBulk {H : Type} : DataW H → Nat
  | .lit (.string bytes) => bytes.length + 1
  | .lit _ => 1
  | .nil => 1
  | .ptr d => uptoBulk d + 1
  | .slice elems spare => uptoBulkAll elems + uptoBulkAll spare + 1
  | .agg parts => uptoBulkAll parts + 1
  | .iface _ d => uptoBulk d + 1
  | .map entries => uptoBulkEntries entries + 1
  | .held _ => 1
def uptoBulkAll {H : Type} : List (DataW H) → Nat
  | [] => 0
  | d :: r => uptoBulk d + uptoBulkAll r
def uptoBulkEntries {H : Type} : List (Lit × DataW H) → Nat
  | [] => 0
  | x :: r => uptoBulkEntry x + uptoBulkEntries r
def uptoBulkEntry {H : Type} : Lit × DataW H → Nat
  | (.string bytes, d) => bytes.length + uptoBulk d + 1
  | (_, d) => uptoBulk d + 1
 end
def uptoSmall : (H : Type) → List (DataW H) → Bool := fun _ ds => decide (uptoBulkAll ds ≤ 1048576)
def OpenSpec.upto (s : _root_.Go.ChangeSpec) : _root_.Go.OpenSpec := { _root_.Go.OpenSpec.ofChange s with cond := some uptoSmall }

/-- 'planispherelaw31.EvidenceMatchesReference', WHERE WHAT IT READS IS OF BULK AT MOST 1048576: true; the input reads as it did. -/
def evidenceMatchesReferenceUptoRow : OpenClaim := { program := "ytgmdhegbkbeihaagreat", sum := "2721302854b7afa61266579868b7a7c797f6f6244e8b169268579cecc5ac8bf1", func := "planisphere/planispherelaw31.EvidenceMatchesReference", spec := "evidenceMatchesReference", inPlace := ["internal/bytealg.IndexByteString", "internal/bytealg.abigen_runtime_cmpstring", "slices.overlaps[planisphere/api.Tag]", "slices.overlaps[planisphere/api.Object]"], unfollowed := true, recurses := true, apart := false, narrowed := true }
def EvidenceMatchesReferenceUptoSaid : Prop := evidenceMatchesReferenceUptoRow.holds Tryz.pinned (OpenSpec.upto evidenceMatchesReferenceSpec)

/-- 'planispherelaw31.EvidenceHolds', WHERE WHAT IT READS IS OF BULK AT MOST 1048576: true; the input reads as it did. -/
def evidenceHoldsUptoRow : OpenClaim := { program := "ytgmdhegbkbeihaagreat", sum := "2721302854b7afa61266579868b7a7c797f6f6244e8b169268579cecc5ac8bf1", func := "planisphere/planispherelaw31.EvidenceHolds", spec := "evidenceHolds", inPlace := ["internal/bytealg.IndexByteString", "internal/bytealg.abigen_runtime_cmpstring", "slices.overlaps[planisphere/api.Tag]", "slices.overlaps[planisphere/api.Object]"], unfollowed := true, recurses := true, apart := false, narrowed := true }
def EvidenceHoldsUptoSaid : Prop := evidenceHoldsUptoRow.holds Tryz.pinned (OpenSpec.upto evidenceHoldsSpec)

/-- 'planispherelaw31.EvidenceFirst', WHERE WHAT IT READS IS OF BULK AT MOST 1048576: true; the input reads as it did. -/
def evidenceFirstUptoRow : OpenClaim := { program := "ytgmdhegbkbeihaagreat", sum := "2721302854b7afa61266579868b7a7c797f6f6244e8b169268579cecc5ac8bf1", func := "planisphere/planispherelaw31.EvidenceFirst", spec := "evidenceFirst", inPlace := ["internal/bytealg.IndexByteString", "internal/bytealg.abigen_runtime_cmpstring", "slices.overlaps[planisphere/api.Tag]", "slices.overlaps[planisphere/api.Object]"], unfollowed := true, recurses := true, apart := false, narrowed := true }
def EvidenceFirstUptoSaid : Prop := evidenceFirstUptoRow.holds Tryz.pinned (OpenSpec.upto evidenceFirstSpec)

/-- 'planispherelaw31.EvidenceFurther', WHERE WHAT IT READS IS OF BULK AT MOST 1048576: true; the input reads as it did. -/
def evidenceFurtherUptoRow : OpenClaim := { program := "ytgmdhegbkbeihaagreat", sum := "2721302854b7afa61266579868b7a7c797f6f6244e8b169268579cecc5ac8bf1", func := "planisphere/planispherelaw31.EvidenceFurther", spec := "evidenceFurther", inPlace := ["internal/bytealg.IndexByteString", "internal/bytealg.abigen_runtime_cmpstring", "slices.overlaps[planisphere/api.Tag]", "slices.overlaps[planisphere/api.Object]"], unfollowed := true, recurses := true, apart := false, narrowed := true }
def EvidenceFurtherUptoSaid : Prop := evidenceFurtherUptoRow.holds Tryz.pinned (OpenSpec.upto evidenceFurtherSpec)

/-- 'planispherelaw32.VerifyFound', WHERE WHAT IT READS IS OF BULK AT MOST 1048576: true; the input reads as it did. -/
def verifyFoundUptoRow : OpenClaim := { program := "ytgmdhegbkbeihaagreat", sum := "2721302854b7afa61266579868b7a7c797f6f6244e8b169268579cecc5ac8bf1", func := "planisphere/planispherelaw32.VerifyFound", spec := "verifyFound", inPlace := ["internal/bytealg.IndexByteString", "internal/bytealg.abigen_runtime_cmpstring", "slices.overlaps[planisphere/api.Tag]", "slices.overlaps[planisphere/api.Object]"], unfollowed := true, recurses := true, apart := false, narrowed := true }
def VerifyFoundUptoSaid : Prop := verifyFoundUptoRow.holds Tryz.pinned (OpenSpec.upto verifyFoundSpec)

/-- 'planispherelaw32.VerifySound', WHERE WHAT IT READS IS OF BULK AT MOST 1048576: true; the input reads as it did. -/
def verifySoundUptoRow : OpenClaim := { program := "ytgmdhegbkbeihaagreat", sum := "2721302854b7afa61266579868b7a7c797f6f6244e8b169268579cecc5ac8bf1", func := "planisphere/planispherelaw32.VerifySound", spec := "verifySound", inPlace := ["internal/bytealg.IndexByteString", "internal/bytealg.abigen_runtime_cmpstring", "slices.overlaps[planisphere/api.Tag]", "slices.overlaps[planisphere/api.Object]"], unfollowed := true, recurses := true, apart := false, narrowed := true }
def VerifySoundUptoSaid : Prop := verifySoundUptoRow.holds Tryz.pinned (OpenSpec.upto verifySoundSpec)

/-- 'planispherelaw31.EvidenceOthers', WHERE WHAT IT READS IS OF BULK AT MOST 1048576: true; the input reads as it did. -/
def evidenceOthersUptoRow : OpenClaim := { program := "ytgmdhegbkbeihaagreat", sum := "2721302854b7afa61266579868b7a7c797f6f6244e8b169268579cecc5ac8bf1", func := "planisphere/planispherelaw31.EvidenceOthers", spec := "evidenceOthers", inPlace := ["internal/bytealg.IndexByteString", "internal/bytealg.abigen_runtime_cmpstring", "slices.overlaps[planisphere/api.Tag]", "slices.overlaps[planisphere/api.Object]"], unfollowed := true, recurses := true, apart := false, narrowed := true }
def EvidenceOthersUptoSaid : Prop := evidenceOthersUptoRow.holds Tryz.pinned (OpenSpec.upto evidenceOthersSpec)

end Rows
end Go.Proofs.YtgmdhegbkbeihaaGreat
