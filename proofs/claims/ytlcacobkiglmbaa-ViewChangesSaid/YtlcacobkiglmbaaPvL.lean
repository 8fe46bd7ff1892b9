/- Each operation of the program that has a compact form does what that form says: comparisons, calls, slices, maps. -/
import Derived.Test.YtlcacobkiglmbaaPvK
set_option linter.unusedVariables false
set_option linter.unusedSimpArgs false
namespace Go.Pv
open Go
section
variable {P : Program} {st : St} {K : A → St → Prop} {a : Act} {w : World} {E : Env} {N : Value → World → Prop}

/-! ### '==' of values with parts -/
/-- The basic types of a type's cells, where '==' goes cell by cell. -/
inductive EqT where
  | two (f g : Basic)
  | strs (n : Nat)
def EqT.bs : EqT → List Basic
  | .two f g => [f, g]
  | .strs n => List.replicate n .str
def eqT (P : Program) (t : TypeId) : Option EqT :=
  match P.underlying t with
  | some (.struct fs) =>
    if h : fs.size = 2 then
      match basicT P fs[0].type, basicT P fs[1].type with
      | some bf, some bg => if fs[0].offset = 0 && fs[1].offset = 1 && fs[0].name != "_" && fs[1].name != "_" && !P.stoodInHeld t && !P.eqGuardType P.depth t then some (.two bf bg) else none
      | _, _ => none
    else none
  | some (.array n e) =>
    match basicT P e, sizeT P e with
    | some .str, some 1 => if (n = 3 || n = 4) && !P.eqGuardType P.depth t then some (.strs n) else none
    | _, _ => none
  | _ => none
theorem eq_strs {t e : TypeId} {n : Nat} (hu : P.underlying t = some (.array n e)) (hb : basicT P e = some .str) (hz : sizeT P e = some 1) (hn : n = 3 ∨ n = 4) {cs ds : List A} {us vs : Array Value} (hx : Rel w E (.agg cs) (.agg us)) (hy : Rel w E (.agg ds) (.agg vs))
    (hf : fitBs (List.replicate n .str) cs = true) {r : Bool} (he : eqCells cs ds = some r) : (Op.equal t (.agg us) (.agg vs)).run P w = .ok r w := by
  cases hx with
  | agg _ _ s1 o1 r1 =>
  cases hy with
  | agg _ _ s2 o2 r2 =>
    have hz' : ∀ w, (sizeOf e).run P w = .ok 1 w := fun w => run_sizeOf hz w
    have one : ∀ (cs : List A) (b : Basic) (bs : List Basic), fitBs (b :: bs) cs = true → ∃ c cs', cs = c :: cs' ∧ fitB b c = true ∧ fitBs bs cs' = true := by
      intro cs b bs h
      cases cs with
      | nil => simp [fitBs] at h
      | cons c cs' => simp only [fitBs, Bool.and_eq_true] at h; exact ⟨c, cs', rfl, h.1, h.2⟩
    have onen : ∀ (cs : List A), fitBs [] cs = true → cs = [] := by
      intro cs h
      cases cs with
      | nil => rfl
      | cons c cs' => simp [fitBs] at h
    have dcons : ∀ (c : A) (cs ds : List A) (r : Bool), eqCells (c :: cs) ds = some r → ∃ d ds' q r', ds = d :: ds' ∧ eqCells [c] [d] = some q ∧ eqCells cs ds' = some r' ∧ r = (q && r') := by
      intro c cs ds r h
      cases ds with
      | nil => cases c <;> simp [eqCells] at h
      | cons d ds' =>
        rw [eqCells_cons] at h
        obtain ⟨q, hq, h⟩ := Option.bind_eq_some_iff.1 h
        obtain ⟨r', hr', rfl⟩ := Option.map_eq_some_iff.1 h
        exact ⟨d, ds', q, r', rfl, hq, hr', rfl⟩
    have dnil : ∀ (ds : List A) (r : Bool), eqCells [] ds = some r → ds = [] ∧ r = true := by
      intro ds r h
      cases ds with
      | nil => simp [eqCells] at h; exact ⟨rfl, h⟩
      | cons d ds' => simp [eqCells] at h
    have gu : ∀ (us : Array Value) (j : Nat), j < us.size → us[j]? = some (us.getD j Go.undef) := fun us j hj => by rw [Array.getD_eq_getD_getElem?, Array.getElem?_eq_getElem hj]; rfl
    rcases hn with rfl | rfl
    · obtain ⟨c0, cs, rfl, f0, hf⟩ := one _ _ _ hf
      obtain ⟨c1, cs, rfl, f1, hf⟩ := one _ _ _ hf
      obtain ⟨c2, cs, rfl, f2, hf⟩ := one _ _ _ hf
      obtain rfl := onen _ hf
      obtain ⟨d0, ds, q0, r0, rfl, e0, he1, rfl⟩ := dcons _ _ _ _ he
      obtain ⟨d1, ds, q1, r1', rfl, e1, he2, rfl⟩ := dcons _ _ _ _ he1
      obtain ⟨d2, ds, q2, r2', rfl, e2, he3, rfl⟩ := dcons _ _ _ _ he2
      obtain ⟨rfl, rfl⟩ := dnil _ _ he3
      have a0 := gu us 0 (by rw [s1]; simp); have a1 := gu us 1 (by rw [s1]; simp); have a2 := gu us 2 (by rw [s1]; simp)
      have b0 := gu vs 0 (by rw [s2]; simp); have b1 := gu vs 1 (by rw [s2]; simp); have b2 := gu vs 2 (by rw [s2]; simp)
      have hc0 := r1 0 c0 rfl; have hc1 := r1 1 c1 rfl; have hc2 := r1 2 c2 rfl
      have hd0 := r2 0 d0 rfl; have hd1 := r2 1 d1 rfl; have hd2 := r2 2 d2 rfl
      generalize us.getD 0 Go.undef = u0 at a0 hc0
      generalize us.getD 1 Go.undef = u1 at a1 hc1
      generalize us.getD 2 Go.undef = u2 at a2 hc2
      generalize vs.getD 0 Go.undef = v0 at b0 hd0
      generalize vs.getD 1 Go.undef = v1 at b1 hd1
      generalize vs.getD 2 Go.undef = v2 at b2 hd2
      unfold Op.equal Op.maxDepth Op.equalIn
      simp only [run_underlying hu, Sem.run_bind, Result.andThen_ok, hz']
      simp [List.range', run_part_one hb us 0 _ a0, run_part_one hb vs 0 _ b0, run_part_one hb us 1 _ a1, run_part_one hb vs 1 _ b1, run_part_one hb us 2 _ a2, run_part_one hb vs 2 _ b2,
        equalIn_basic hb 9998 hc0 hd0 f0 e0, equalIn_basic hb 9998 hc1 hd1 f1 e1, equalIn_basic hb 9998 hc2 hd2 f2 e2]
      cases q0 <;> cases q1 <;> cases q2 <;> simp
    · obtain ⟨c0, cs, rfl, f0, hf⟩ := one _ _ _ hf
      obtain ⟨c1, cs, rfl, f1, hf⟩ := one _ _ _ hf
      obtain ⟨c2, cs, rfl, f2, hf⟩ := one _ _ _ hf
      obtain ⟨c3, cs, rfl, f3, hf⟩ := one _ _ _ hf
      obtain rfl := onen _ hf
      obtain ⟨d0, ds, q0, r0, rfl, e0, he1, rfl⟩ := dcons _ _ _ _ he
      obtain ⟨d1, ds, q1, r1', rfl, e1, he2, rfl⟩ := dcons _ _ _ _ he1
      obtain ⟨d2, ds, q2, r2', rfl, e2, he3, rfl⟩ := dcons _ _ _ _ he2
      obtain ⟨d3, ds, q3, r3', rfl, e3, he4, rfl⟩ := dcons _ _ _ _ he3
      obtain ⟨rfl, rfl⟩ := dnil _ _ he4
      have a0 := gu us 0 (by rw [s1]; simp); have a1 := gu us 1 (by rw [s1]; simp); have a2 := gu us 2 (by rw [s1]; simp); have a3 := gu us 3 (by rw [s1]; simp)
      have b0 := gu vs 0 (by rw [s2]; simp); have b1 := gu vs 1 (by rw [s2]; simp); have b2 := gu vs 2 (by rw [s2]; simp); have b3 := gu vs 3 (by rw [s2]; simp)
      have hc0 := r1 0 c0 rfl; have hc1 := r1 1 c1 rfl; have hc2 := r1 2 c2 rfl; have hc3 := r1 3 c3 rfl
      have hd0 := r2 0 d0 rfl; have hd1 := r2 1 d1 rfl; have hd2 := r2 2 d2 rfl; have hd3 := r2 3 d3 rfl
      generalize us.getD 0 Go.undef = u0 at a0 hc0
      generalize us.getD 1 Go.undef = u1 at a1 hc1
      generalize us.getD 2 Go.undef = u2 at a2 hc2
      generalize us.getD 3 Go.undef = u3 at a3 hc3
      generalize vs.getD 0 Go.undef = v0 at b0 hd0
      generalize vs.getD 1 Go.undef = v1 at b1 hd1
      generalize vs.getD 2 Go.undef = v2 at b2 hd2
      generalize vs.getD 3 Go.undef = v3 at b3 hd3
      unfold Op.equal Op.maxDepth Op.equalIn
      simp only [run_underlying hu, Sem.run_bind, Result.andThen_ok, hz']
      simp [List.range', run_part_one hb us 0 _ a0, run_part_one hb vs 0 _ b0, run_part_one hb us 1 _ a1, run_part_one hb vs 1 _ b1, run_part_one hb us 2 _ a2, run_part_one hb vs 2 _ b2, run_part_one hb us 3 _ a3, run_part_one hb vs 3 _ b3,
        equalIn_basic hb 9998 hc0 hd0 f0 e0, equalIn_basic hb 9998 hc1 hd1 f1 e1, equalIn_basic hb 9998 hc2 hd2 f2 e2, equalIn_basic hb 9998 hc3 hd3 f3 e3]
      cases q0 <;> cases q1 <;> cases q2 <;> cases q3 <;> simp
theorem eqCells_length : ∀ (cs ds : List A) (r : Bool), eqCells cs ds = some r → ds.length = cs.length
  | [], [], _, _ => rfl
  | [], _ :: _, _, h => by simp [eqCells] at h
  | c :: cs, [], _, h => by cases c <;> simp [eqCells] at h
  | c :: cs, d :: ds, r, h => by
    rw [eqCells_cons] at h
    obtain ⟨q, hq, h⟩ := Option.bind_eq_some_iff.1 h
    obtain ⟨r', hr', rfl⟩ := Option.map_eq_some_iff.1 h
    simp [eqCells_length cs ds r' hr']
theorem eqT_sound {t : TypeId} {q : EqT} (h : eqT P t = some q) {cs ds : List A} {us vs : Array Value} (hx : Rel w E (.agg cs) (.agg us)) (hy : Rel w E (.agg ds) (.agg vs)) (hf : fitBs q.bs cs = true) {r : Bool} (he : eqCells cs ds = some r) :
    (Op.equal t (.agg us) (.agg vs)).run P w = .ok r w ∧ P.eqGuardType P.depth t = false := by
  unfold eqT at h
  split at h
  · rename_i fs hu0
    split at h
    case isFalse => cases h
    rename_i hsz
    have hfs : fs = #[fs[0], fs[1]] := by
      apply Array.ext
      · simpa using hsz
      · intro i h1 h2
        match i, h2 with
        | 0, _ => rfl
        | 1, _ => rfl
        | i + 2, h2 => exact absurd h1 (by omega)
    have hu : P.underlying t = some (.struct #[fs[0], fs[1]]) := by rw [← hfs]; exact hu0
    split at h
    · rename_i bf bg h1 h2
      split at h
      · rename_i hc
        cases h
        simp only [Bool.and_eq_true, decide_eq_true_eq, bne_iff_ne, ne_eq, Bool.not_eq_true'] at hc
        obtain ⟨⟨⟨⟨⟨o1, o2⟩, n1⟩, n2⟩, hs⟩, hg⟩ := hc
        match cs, hf with
        | [c0, c1], hf =>
          simp only [EqT.bs, fitBs, Bool.and_true, Bool.and_eq_true] at hf
          match ds, he with
          | [d0, d1], he => exact ⟨eq_two hu h1 h2 o1 o2 n1 n2 hs hx hy hf.1 hf.2 he, hg⟩
          | [], he => exact absurd (eqCells_length _ _ _ he) (by simp)
          | [d0], he => exact absurd (eqCells_length _ _ _ he) (by simp)
          | d0 :: d1 :: d2 :: ds, he => exact absurd (eqCells_length _ _ _ he) (by simp)
        | [], hf => simp [EqT.bs, fitBs] at hf
        | [c0], hf => simp [EqT.bs, fitBs] at hf
        | c0 :: c1 :: c2 :: cs, hf => simp [EqT.bs, fitBs] at hf
      · cases h
    · cases h
  · rename_i n e hu
    split at h
    · rename_i h1 h2
      split at h
      · rename_i hc
        cases h
        simp only [Bool.and_eq_true, Bool.or_eq_true, decide_eq_true_eq, Bool.not_eq_true'] at hc
        exact ⟨eq_strs hu h1 h2 hc.1 hx hy hf he, hc.2⟩
      · cases h
    · cases h
  · cases h
theorem binOp_eql_bool (t : TypeId) (b c : Bool) : binOp .eql t (.bool b) (.bool c) = (do pure (.bool (← Op.equal t (.bool b) (.bool c)))) := rfl
theorem binOp_neq_bool (t : TypeId) (b c : Bool) : binOp .neq t (.bool b) (.bool c) = (do pure (.bool (!(← Op.equal t (.bool b) (.bool c))))) := rfl
theorem binOp_eql_ptr (t : TypeId) (b c : Option Addr) : binOp .eql t (.pointer b) (.pointer c) = (do pure (.bool (← Op.equal t (.pointer b) (.pointer c)))) := rfl
theorem binOp_neq_ptr (t : TypeId) (b c : Option Addr) : binOp .neq t (.pointer b) (.pointer c) = (do pure (.bool (!(← Op.equal t (.pointer b) (.pointer c))))) := rfl
theorem binOp_eql_agg (t : TypeId) (b c : Array Value) : binOp .eql t (.agg b) (.agg c) = (do pure (.bool (← Op.equal t (.agg b) (.agg c)))) := rfl
theorem binOp_neq_agg (t : TypeId) (b c : Array Value) : binOp .neq t (.agg b) (.agg c) = (do pure (.bool (!(← Op.equal t (.agg b) (.agg c))))) := rfl
theorem run_equal_bool {t : TypeId} (ht : P.underlying t = some .bool) (b c : Bool) : (Op.equal t (.bool b) (.bool c)).run P w = .ok (decide (b = c)) w := by
  have hq : (b == c) = decide (b = c) := by rw [Bool.eq_iff_iff]; simp
  unfold Op.equal Op.maxDepth Op.equalIn
  simp [run_underlying ht, hq]
theorem run_equal_nil_nil {t e : TypeId} (ht : P.underlying t = some (.pointer e)) : (Op.equal t (.pointer none) (.pointer none)).run P w = .ok true w := by
  unfold Op.equal Op.maxDepth Op.equalIn
  simp [run_underlying ht]
theorem run_equal_some_nil {t e : TypeId} (ht : P.underlying t = some (.pointer e)) (a : Addr) : (Op.equal t (.pointer (some a)) (.pointer none)).run P w = .ok false w := by
  unfold Op.equal Op.maxDepth Op.equalIn
  simp [run_underlying ht]
theorem run_equal_nil_some {t e : TypeId} (ht : P.underlying t = some (.pointer e)) (a : Addr) : (Op.equal t (.pointer none) (.pointer (some a))).run P w = .ok false w := by
  unfold Op.equal Op.maxDepth Op.equalIn
  simp [run_underlying ht]
theorem run_eqGuard_agg {op : BinOp} {t : TypeId} {X Y : Operand} {us vs : Array Value} (hg : P.eqGuardType P.depth t = false) : (eqGuard op t X Y (.agg us) (.agg vs)).run P w = .ok () w := by
  unfold eqGuard
  cases op <;> simp [hg]

theorem snd_eqs {T1 T2 t : TypeId} {q : EqT} {neq : Bool} {X Y : Operand} {x y : Opd} (hx : opdA P T1 X = some x) (hy : opdA P T2 Y = some y) (hq : eqT P t = some q)
    (hs : step P (.eqs q.bs neq x y) st K) (hS : InvS w E st.s st.k) (hT : Tm w E st a) (hA : After P st w E K N) :
    Good P w N ((do eqGuard (if neq then .neq else .eql) t X Y (a.eval X) (a.eval Y); binOp (if neq then .neq else .eql) t (a.eval X) (a.eval Y) : Sem Value) >>= fun r => pure (.value r)) := by
  have hrx := (opdA_rel hx hT).rel
  have hry := (opdA_rel hy hT).rel
  simp only [step] at hs
  split at hs
  · rename_i cs ds he1 he2
    obtain ⟨hf, hs⟩ := hs
    split at hs
    · rename_i b hb
      rw [he1] at hrx
      rw [he2] at hry
      generalize a.eval X = X' at hrx
      generalize a.eval Y = Y' at hry
      cases hrx with
      | agg _ us q1 q2 q3 =>
      cases hry with
      | agg _ vs p1 p2 p3 =>
        obtain ⟨h1, h2⟩ := eqT_sound hq (.agg _ us q1 q2 q3) (.agg _ vs p1 p2 p3) hf hb
        refine good_v (v := .bool (if neq then !b else b)) (w' := w) ?_ (hA.same hS hs (relp_of (.bool _) (by simp)))
        cases neq <;> simp [run_eqGuard_agg h2, binOp_eql_agg, binOp_neq_agg, h1]
    · exact hs.elim
  · exact hs.elim

theorem snd_eqb {T1 T2 t : TypeId} {neq : Bool} {X Y : Operand} {x y : Opd} (hx : opdA P T1 X = some x) (hy : opdA P T2 Y = some y) (ht : P.underlying t = some .bool)
    (hs : step P (.eqb neq x y) st K) (hS : InvS w E st.s st.k) (hT : Tm w E st a) (hA : After P st w E K N) :
    Good P w N ((do eqGuard (if neq then .neq else .eql) t X Y (a.eval X) (a.eval Y); binOp (if neq then .neq else .eql) t (a.eval X) (a.eval Y) : Sem Value) >>= fun r => pure (.value r)) := by
  simp only [step] at hs
  split at hs
  · rename_i b c he1 he2
    rw [rel_bool (opdA_rel hx hT).rel he1, rel_bool (opdA_rel hy hT).rel he2]
    refine good_v (v := .bool (if neq then !decide (b = c) else decide (b = c))) (w' := w) ?_ (hA.same hS hs (relp_of (.bool _) (by simp)))
    cases neq <;> simp [eqGuard_at_bool, binOp_eql_bool, binOp_neq_bool, run_equal_bool ht]
  · exact hs.elim

theorem snd_eqn {T1 T2 t e : TypeId} {neq : Bool} {X Y : Operand} {x y : Opd} (hx : opdA P T1 X = some x) (hy : opdA P T2 Y = some y) (ht : P.underlying t = some (.pointer e)) 
    (hs : step P (.eqn neq x y) st K) (hS : InvS w E st.s st.k) (hT : Tm w E st a) (hA : After P st w E K N) :
    Good P w N ((do eqGuard (if neq then .neq else .eql) t X Y (a.eval X) (a.eval Y); binOp (if neq then .neq else .eql) t (a.eval X) (a.eval Y) : Sem Value) >>= fun r => pure (.value r)) := by
  have hrx := (opdA_rel hx hT).rel
  have hry := (opdA_rel hy hT).rel
  simp only [step] at hs
  split at hs <;> rename_i he1 he2 <;> first
    | (rw [he1] at hrx; rw [he2] at hry
       generalize a.eval X = X' at hrx
       generalize a.eval Y = Y' at hry
       cases hrx; cases hry
       first
         | (refine good_v (v := .bool !neq) (w' := w) ?_ (hA.same hS hs (relp_of (.bool _) (by simp)))
            cases neq <;> simp [eqGuard_at_pointer, binOp_eql_ptr, binOp_neq_ptr, run_equal_nil_nil ht, run_equal_some_nil ht, run_equal_nil_some ht]; done)
         | (refine good_v (v := .bool neq) (w' := w) ?_ (hA.same hS hs (relp_of (.bool _) (by simp)))
            cases neq <;> simp [eqGuard_at_pointer, binOp_eql_ptr, binOp_neq_ptr, run_equal_nil_nil ht, run_equal_some_nil ht, run_equal_nil_some ht]; done))
    | exact hs.elim


end
end Go.Pv
