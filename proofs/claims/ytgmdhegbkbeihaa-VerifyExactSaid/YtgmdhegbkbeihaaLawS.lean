/- The arguments of the laws of the layer verify. -/
import Derived.Test.YtgmdhegbkbeihaaPvU
import Derived.Test.YtgmdhegbkbeihaaLawR
set_option linter.unusedVariables false
set_option linter.unusedSimpArgs false
set_option maxRecDepth 4000
namespace Go.Pv
open Go

section
variable {H : Type} {enc : TypeId × Value → H} {w : World}
theorem opens_strs : Opens enc prg w 34 (fun l : List ByteArray => [.sl 1 (l.map encStr) .no]) := opens_slice (e := 9) (f := encStr) (by kernel_rfl) (by kernel_rfl) (by decide) (fun _ => rfl) (opens_string (by kernel_rfl))
theorem opens_ints : Opens enc prg w 26 (fun l : List Int => [.sl 1 (l.map encInt) .no]) := opens_slice (e := 3) (f := encInt) (by kernel_rfl) (by kernel_rfl) (by decide) (fun _ => rfl) (opens_int (by kernel_rfl))
theorem opens_tag : Opens enc prg w 59 encTag := fun fuel cs d h => by
  obtain ⟨h0, hf⟩ := opens_fields (l := [(9, 0, 1), (9, 1, 1)]) (by kernel_rfl) h
  have hn : cs.length = 2 := h0.trans (by kernel_rfl)
  obtain ⟨m0, d0, q0⟩ := hf 0 _ _ _ rfl
  obtain ⟨m1, d1, q1⟩ := hf 1 _ _ _ rfl
  obtain ⟨x0, r0⟩ := opens_string (by kernel_rfl) m0 _ _ q0
  obtain ⟨x1, r1⟩ := opens_string (by kernel_rfl) m1 _ _ q1
  exact ⟨⟨x0, x1⟩, (r0.app r1 rfl).whole hn⟩
theorem opens_tags : Opens enc prg w 35 (fun l : List Tag => [.sl 2 (l.map encTag) .no]) := opens_slice (e := 59) (f := encTag) (by kernel_rfl) (by kernel_rfl) (by decide) (fun _ => rfl) opens_tag
theorem opens_point : Opens enc prg w 33 (fun p : Int × Int => [.int .i64 p.1, .int .i64 p.2]) := fun fuel cs d h => by
  obtain ⟨h0, hf⟩ := opens_fields (l := [(3, 0, 1), (3, 1, 1)]) (by kernel_rfl) h
  have hn : cs.length = 2 := h0.trans (by kernel_rfl)
  obtain ⟨m0, d0, q0⟩ := hf 0 _ _ _ rfl
  obtain ⟨m1, d1, q1⟩ := hf 1 _ _ _ rfl
  obtain ⟨x0, r0⟩ := opens_int (by kernel_rfl) m0 _ _ q0
  obtain ⟨x1, r1⟩ := opens_int (by kernel_rfl) m1 _ _ q1
  exact ⟨⟨x0, x1⟩, (r0.app r1 rfl).whole hn⟩
theorem opens_obj : Opens enc prg w 37 encObj := fun fuel cs d h => by
  obtain ⟨h0, hf⟩ := opens_fields (l := [(9, 0, 1), (3, 1, 1), (33, 2, 2), (34, 4, 1), (35, 5, 1)]) (by kernel_rfl) h
  have hn : cs.length = 6 := h0.trans (by kernel_rfl)
  obtain ⟨m0, d0, q0⟩ := hf 0 _ _ _ rfl
  obtain ⟨m1, d1, q1⟩ := hf 1 _ _ _ rfl
  obtain ⟨m2, d2, q2⟩ := hf 2 _ _ _ rfl
  obtain ⟨m3, d3, q3⟩ := hf 3 _ _ _ rfl
  obtain ⟨m4, d4, q4⟩ := hf 4 _ _ _ rfl
  obtain ⟨x0, r0⟩ := opens_string (by kernel_rfl) m0 _ _ q0
  obtain ⟨x1, r1⟩ := opens_int (by kernel_rfl) m1 _ _ q1
  obtain ⟨x2, r2⟩ := opens_point m2 _ _ q2
  obtain ⟨x3, r3⟩ := opens_strs m3 _ _ q3
  obtain ⟨x4, r4⟩ := opens_tags m4 _ _ q4
  exact ⟨⟨x0, x1, x2.1, x2.2, x3, x4⟩, ((((r0.app r1 rfl).app r2 rfl).app r3 rfl).app r4 rfl).whole hn⟩
theorem opens_objs : Opens enc prg w 22 (fun l : List Obj => [.sl 6 (l.map encObj) .no]) := opens_slice (e := 37) (f := encObj) (by kernel_rfl) (by kernel_rfl) (by decide) (fun _ => rfl) opens_obj
theorem opens_map : Opens enc prg w 24 encMap := fun fuel cs d h => by
  obtain ⟨h0, hf⟩ := opens_fields (l := [(22, 0, 1)]) (by kernel_rfl) h
  have hn : cs.length = 1 := h0.trans (by kernel_rfl)
  obtain ⟨m0, d0, q0⟩ := hf 0 _ _ _ rfl
  obtain ⟨x0, r0⟩ := opens_objs m0 _ _ q0
  exact ⟨x0, r0.whole hn⟩
theorem opens_evid : Opens enc prg w 28 encEvid := fun fuel cs d h => by
  obtain ⟨h0, hf⟩ := opens_fields (l := [(3, 0, 1), (26, 1, 1)]) (by kernel_rfl) h
  have hn : cs.length = 2 := h0.trans (by kernel_rfl)
  obtain ⟨m0, d0, q0⟩ := hf 0 _ _ _ rfl
  obtain ⟨m1, d1, q1⟩ := hf 1 _ _ _ rfl
  obtain ⟨x0, r0⟩ := opens_int (by kernel_rfl) m0 _ _ q0
  obtain ⟨x1, r1⟩ := opens_ints m1 _ _ q1
  exact ⟨⟨x0, x1⟩, (r0.app r1 rfl).whole hn⟩
theorem opens_edit : Opens enc prg w 39 encEdit := fun fuel cs d h => by
  obtain ⟨h0, hf⟩ := opens_fields (l := [(3, 0, 1), (9, 1, 1), (9, 2, 1), (9, 3, 1), (33, 4, 2), (9, 6, 1), (9, 7, 1), (34, 8, 1), (37, 9, 6)]) (by kernel_rfl) h
  have hn : cs.length = 15 := h0.trans (by kernel_rfl)
  obtain ⟨m0, d0, q0⟩ := hf 0 _ _ _ rfl
  obtain ⟨m1, d1, q1⟩ := hf 1 _ _ _ rfl
  obtain ⟨m2, d2, q2⟩ := hf 2 _ _ _ rfl
  obtain ⟨m3, d3, q3⟩ := hf 3 _ _ _ rfl
  obtain ⟨m4, d4, q4⟩ := hf 4 _ _ _ rfl
  obtain ⟨m5, d5, q5⟩ := hf 5 _ _ _ rfl
  obtain ⟨m6, d6, q6⟩ := hf 6 _ _ _ rfl
  obtain ⟨m7, d7, q7⟩ := hf 7 _ _ _ rfl
  obtain ⟨m8, d8, q8⟩ := hf 8 _ _ _ rfl
  obtain ⟨x0, r0⟩ := opens_int (by kernel_rfl) m0 _ _ q0
  obtain ⟨x1, r1⟩ := opens_string (by kernel_rfl) m1 _ _ q1
  obtain ⟨x2, r2⟩ := opens_string (by kernel_rfl) m2 _ _ q2
  obtain ⟨x3, r3⟩ := opens_string (by kernel_rfl) m3 _ _ q3
  obtain ⟨x4, r4⟩ := opens_point m4 _ _ q4
  obtain ⟨x5, r5⟩ := opens_string (by kernel_rfl) m5 _ _ q5
  obtain ⟨x6, r6⟩ := opens_string (by kernel_rfl) m6 _ _ q6
  obtain ⟨x7, r7⟩ := opens_strs m7 _ _ q7
  obtain ⟨x8, r8⟩ := opens_obj m8 _ _ q8
  exact ⟨⟨x0, x1, x2, x3, x4.1, x4.2, x5, x6, x7, x8⟩, ((((((((r0.app r1 rfl).app r2 rfl).app r3 rfl).app r4 rfl).app r5 rfl).app r6 rfl).app r7 rfl).app r8 rfl).whole hn⟩
theorem opens_edits : Opens enc prg w 25 (fun l : List Edit => [.sl 15 (l.map encEdit) .no]) := opens_slice (e := 39) (f := encEdit) (by kernel_rfl) (by kernel_rfl) (by decide) (fun _ => rfl) opens_edit
end
end Go.Pv
