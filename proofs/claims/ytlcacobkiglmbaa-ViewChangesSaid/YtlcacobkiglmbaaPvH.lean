/- Each operation of the program that has a compact form does what that form says, operation by operation. -/
import Derived.Test.YtlcacobkiglmbaaPvG
set_option linter.unusedVariables false
set_option linter.unusedSimpArgs false
namespace Go.Pv
open Go
section
variable {P : Program} {st : St} {K : A → St → Prop} {a : Act} {w : World} {E : Env} {N : Value → World → Prop}

theorem rel_int {x : A} {k : IntKind} {n : Int} {v : Value} (h : Rel w E x v) (hx : x = .int k n) : v = .int k n := by subst hx; cases h; rfl
theorem rel_bool {x : A} {b : Bool} {v : Value} (h : Rel w E x v) (hx : x = .bool b) : v = .bool b := by subst hx; cases h; rfl
theorem rel_str {x : A} {s : ByteArray} {v : Value} (h : Rel w E x v) (hx : x = .str s) : v = .string s := by subst hx; cases h; rfl

theorem snd_mv {T : TypeId} {X : Operand} {x : Opd} (hx : opdA P T X = some x) (hs : step P (.mv x) st K) (hS : InvS w E st.s st.k) (hT : Tm w E st a) (hA : After P st w E K N) :
    Good P w N (pure (.value (a.eval X))) := good_value rfl (hA.same hS hs (opdA_rel hx hT))

theorem snd_pick {Tc T : TypeId} {C X Y : Operand} {c x y : Opd} (hc : opdA P Tc C = some c) (hx : opdA P T X = some x) (hy : opdA P T Y = some y) (hs : step P (.pick c x y) st K) (hS : InvS w E st.s st.k) (hT : Tm w E st a) (hA : After P st w E K N) :
    Good P w N (do pure (.value (if ← asBool (a.eval C) then a.eval X else a.eval Y))) := by
  simp only [step] at hs
  split at hs
  · rename_i t he
    have := rel_bool (opdA_rel hc hT).rel he
    rw [this]
    cases t
    · exact good_value (by simp [asBool]; rfl) (hA.same hS hs (by simpa using opdA_rel hy hT))
    · exact good_value (by simp [asBool]; rfl) (hA.same hS hs (by simpa using opdA_rel hx hT))
  · exact hs.elim

/-- The constants of a type's zero value. -/
def okZero (P : Program) : List A → List Value → Bool
  | [], [] => true
  | .int k n :: r, .int k' n' :: r' => decide (k = k') && decide (n = n') && okZero P r r'
  | .bool b :: r, .bool b' :: r' => decide (b = b') && okZero P r r'
  | .str s :: r, .string s' :: r' => decide (s = s') && okZero P r r'
  | .sl _ [] .nil :: r, .slice none 0 0 :: r' => okZero P r r'
  | .nilptr :: r, .pointer none :: r' => okZero P r r'
  | .nilfn :: r, .nilFunc :: r' => okZero P r r'
  | .nilmap :: r, .map none :: r' => okZero P r r'
  | _, _ => false
theorem okZero_rel : ∀ (cs : List A) (vs : List Value), okZero P cs vs = true → vs.length = cs.length ∧ (∀ j, j < cs.length → (vs.toArray.getD j Go.undef).oneCell' = true) ∧
    ∀ j x, cs[j]? = some x → RelP w E st.k x (vs.toArray.getD j Go.undef)
  | [], [], _ => ⟨rfl, by simp, by simp⟩
  | c :: r, v :: r', h => by
    have key : okZero P r r' = true ∧ v.oneCell' = true ∧ RelP w E st.k c v := by
      unfold okZero at h
      split at h <;> rename_i h1 h2 <;> first | (cases h1; done) | skip
      · rename_i k n _ k' n' _
        injection h1 with h1 h1'; injection h2 with h2 h2'; subst h1 h1' h2 h2'
        simp only [Bool.and_eq_true, decide_eq_true_eq] at h
        obtain ⟨⟨rfl, rfl⟩, h⟩ := h
        exact ⟨h, rfl, relp_of (.int ..) (by simp)⟩
      · injection h1 with h1 h1'; injection h2 with h2 h2'; subst h1 h1' h2 h2'
        simp only [Bool.and_eq_true, decide_eq_true_eq] at h
        obtain ⟨rfl, h⟩ := h
        exact ⟨h, rfl, relp_of (.bool _) (by simp)⟩
      · injection h1 with h1 h1'; injection h2 with h2 h2'; subst h1 h1' h2 h2'
        simp only [Bool.and_eq_true, decide_eq_true_eq] at h
        obtain ⟨rfl, h⟩ := h
        exact ⟨h, rfl, relp_of (.str _) (by simp)⟩
      · injection h1 with h1 h1'; injection h2 with h2 h2'; subst h1 h1' h2 h2'
        exact ⟨h, rfl, relp_of (.sl _ [] .nil none 0 (fun _ _ => Go.undef) (by simp) (by simp [maxLen]) (by simp) (by simp) (by simp) (by simp) (by simp)) (by simp)⟩
      · injection h1 with h1 h1'; injection h2 with h2 h2'; subst h1 h1' h2 h2'
        exact ⟨h, rfl, relp_of .nilptr (by simp)⟩
      · injection h1 with h1 h1'; injection h2 with h2 h2'; subst h1 h1' h2 h2'
        exact ⟨h, rfl, relp_of .nilfn (by simp)⟩
      · injection h1 with h1 h1'; injection h2 with h2 h2'; subst h1 h1' h2 h2'
        exact ⟨h, rfl, relp_of .nilmap (by simp)⟩
      · cases h
    obtain ⟨h1, h2, h3⟩ := key
    obtain ⟨g1, g2, g3⟩ := okZero_rel r r' h1
    refine ⟨by simp [g1], fun j hj => ?_, fun j x hx => ?_⟩
    · cases j with
      | zero => simpa [Array.getD_eq_getD_getElem?] using h2
      | succ j => simpa [Array.getD_eq_getD_getElem?] using g2 j (by simpa using hj)
    · cases j with
      | zero => simp at hx; subst hx; simpa [Array.getD_eq_getD_getElem?] using h3
      | succ j => simpa [Array.getD_eq_getD_getElem?] using g3 j x (by simpa using hx)
  | [], _ :: _, h => by simp [okZero] at h
  | c :: _, [], h => by
    unfold okZero at h
    split at h <;> simp_all

theorem snd_new {e : TypeId} {z : List A} {i : TypeInfo} {v0 : Value} (hi : P.info? e = some i) (hz : i.zero = some v0) (ok : okZero P z v0.cells.toList = true) (hs : step P (.new z) st K) (hS : InvS w E st.s st.k) (hA : After P st w E K N) :
    Good P w N (do pure (.value (← Instr.alloc e true (.tuple #[])))) := by
  obtain ⟨id, h1, h2, _⟩ := hS.fresh
  obtain ⟨g1, g2, g3⟩ := okZero_rel (P := P) (w := w) (E := E) (st := st) z v0.cells.toList ok
  have hb := hS.box h1 v0.cells e z (by simpa using g1) (by simpa using g2) (by simpa using g3)
  refine good_v (v := .pointer (some ⟨w.heap.size, 0, none⟩)) (w' := w.alloc (.cells v0.cells e)) (by simp [Instr.alloc, zeroValue, typeInfo, hi, hz, newVar, newRow]) ?_
  exact hA _ _ _ _ _ _ (hs id h2) hb (relp_of (.ptr id 0 w.heap.size (by simp [upd])) (by simp))

theorem snd_box {T e : TypeId} {X : Operand} {x : Opd} (hx : opdA P T X = some x) (hs : step P (.box x) st K) (hS : InvS w E st.s st.k) (hT : Tm w E st a) (hA : After P st w E K N) :
    Good P w N (do pure (.value (← Instr.box e (a.eval X)))) := by
  obtain ⟨id, h1, h2, _⟩ := hS.fresh
  obtain ⟨hso, hk⟩ := hs
  obtain ⟨g1, g2, g3⟩ := Rel.pcells (opdA_rel hx hT) hso
  have hb := hS.box h1 (a.eval X).cells e (ev st x).pcells g1 g2 g3
  refine good_v (v := .pointer (some ⟨w.heap.size, 0, none⟩)) (w' := w.alloc (.cells (a.eval X).cells e)) (by simp [Instr.box, newVar, newRow]) ?_
  exact hA _ _ _ _ _ _ (hk id h2) hb (relp_of (.ptr id 0 w.heap.size (by simp [upd])) (by simp))

theorem snd_load {T t : TypeId} {X : Operand} {x : Opd} {n : Option Nat} (hx : opdA P T X = some x) (ht : aggN P t = some n) (hs : step P (.load n x) st K) (hS : InvS w E st.s st.k) (hT : Tm w E st a) (hA : After P st w E K N) :
    Good P w N (do pure (.value (← Instr.loadAt t (a.eval X)))) := by
  have hr := (opdA_rel hx hT).rel
  simp only [step] at hs
  split at hs
  · rename_i cs off he
    rw [he] at hr
    generalize a.eval X = X' at hr
    cases hr with
    | el _ _ b o f ha hrr =>
      obtain ⟨v, y, h1, h2, h3, _⟩ := read_cells ht (fun j hj => (ha j hj).2) hrr hs
      exact good_v (by simpa [Instr.loadAt, Instr.sureAddr] using h1) (hA.same hS h2 (relp_strip h3))
  · rename_i id off he
    rw [he] at hr
    generalize a.eval X = X' at hr
    cases hr with
    | ptr _ _ b hb =>
      split at hs
      · rename_i cs hcs
        obtain ⟨b', cur, ty, c1, c2, c3, c4, c5, c6⟩ := hS.cells id cs hcs
        rw [hb] at c1
        cases c1
        obtain ⟨v, y, h1, h2, h3, h4⟩ := read_cells (P := P) (w := w) (E := E) (b := b) (o := 0) (f := fun j => cur.getD j Go.undef) ht
          (fun j hj => ⟨by rw [Nat.zero_add, cell_of_row w b j cur ty (0, 0) c2, Array.getD_eq_getD_getElem?, Array.getElem?_eq_getElem (by omega)]; rfl, c4 j hj⟩) (fun j x hx => (c5 j x hx).rel) hs
        rw [Nat.zero_add] at h1
        refine good_v (by simpa [Instr.loadAt, Instr.sureAddr] using h1) (hA.same hS h2 ⟨h3, ?_⟩)
        rcases h4 with ⟨j, e1, rfl⟩ | h4
        · exact (c5 j y e1).tok
        · exact fun esz xs g e he => absurd he (h4 esz xs g e)
      · exact hs.elim
  · exact hs.elim

theorem snd_store {T t : TypeId} {X Y : Operand} {x y : Opd} {n : Nat} (hx : opdA P T X = some x) (hy : opdA P t Y = some y) (ht : sizeT P t = some n) (hs : step P (.store n x y) st K) (hS : InvS w E st.s st.k) (hT : Tm w E st a) (hA : After P st w E K N) :
    Good P w N (do Instr.storeAt t (a.eval X) (a.eval Y); pure .skip) := by
  have hr := (opdA_rel hx hT).rel
  have hry := opdA_rel hy hT
  simp only [step] at hs
  split at hs
  · rename_i id off he
    rw [he] at hr
    generalize a.eval X = X' at hr
    cases hr with
    | ptr _ _ b hb =>
      split at hs
      · rename_i cs hcs
        obtain ⟨q1, q2, q3, q4⟩ := hs
        obtain ⟨g1, g2, g3⟩ := Rel.pcells hry q1
        obtain ⟨w', hrun, hreach⟩ := hS.store (P := P) hcs hb off (ev st y).pcells (a.eval Y).cells g1 (by omega) g2 g3
        refine good_u (w' := w') ?_ (hA _ _ _ _ _ _ q4 hreach (relp_of (.undef _) (by simp)))
        simp [Instr.storeAt, Instr.sureAddr, storeVar, run_sizeOf ht, g1, q2, hrun]
      · exact hs.elim
  · exact hs.elim

theorem snd_fld {T t : TypeId} {X : Operand} {x : Opd} {j m : Nat} {fs : Array Field} {f : Field} (hx : opdA P T X = some x) (hu : P.underlying t = some (.struct fs)) (hf : fs[j]? = some f) (hm : sizeT P f.type = some m) (hm0 : m ≠ 0)
    (hs : step P (.fld f.offset x) st K) (hS : InvS w E st.s st.k) (hT : Tm w E st a) (hA : After P st w E K N) : Good P w N (do pure (.value (← Instr.fieldAt t (a.eval X) j))) := by
  have hr := (opdA_rel hx hT).rel
  have run : ∀ b o, (Instr.fieldAt t (.pointer (some ⟨b, o, none⟩)) j).run P w = .ok (.pointer (some ⟨b, o + f.offset, none⟩)) w := by
    intro b o
    simp [Instr.fieldAt, run_underlying hu, hf, Instr.sureAddr, fieldPlace, run_sizeOf hm, hm0, add_lit0]
  simp only [step] at hs
  split at hs
  · rename_i cs o he
    rw [he] at hr
    generalize a.eval X = X' at hr
    cases hr with
    | el _ _ b o' g ha hrr =>
      refine good_v (run _ _) (hA.same hS hs (relp_of ?_ (by simp)))
      rw [Nat.add_assoc]
      exact .el cs (o + f.offset) b o' g ha hrr
  · rename_i id o he
    rw [he] at hr
    generalize a.eval X = X' at hr
    cases hr with
    | ptr _ _ b hb => exact good_v (run _ _) (hA.same hS hs (relp_of (.ptr id _ b hb) (by simp)))
  · exact hs.elim

theorem snd_idx {T T' t e : TypeId} {X I : Operand} {x i : Opd} {m : Nat} (hx : opdA P T X = some x) (hi : opdA P T' I = some i) (hu : P.underlying t = some (.slice e)) (hm' : sizeT P e = some m) (hm0 : m ≠ 0)
    (hs : step P (.idx m x i) st K) (hS : InvS w E st.s st.k) (hT : Tm w E st a) (hA : After P st w E K N) : Good P w N (do pure (.value (← Instr.indexAt t (a.eval X) (a.eval I)))) := by
  have hr := (opdA_rel hx hT).rel
  simp only [step] at hs
  split at hs
  · rename_i esz xs tk k n he hei
    obtain ⟨rfl, h0, hs⟩ := hs
    split at hs
    · rename_i cs hcs
      have hn : n.toNat < xs.length := (List.getElem?_eq_some_iff.1 hcs).1
      rw [rel_int (opdA_rel hi hT).rel hei]
      rw [he] at hr
      generalize a.eval X = X' at hr
      cases hr with
      | sl _ _ _ ad c f hc hmx hnn hfull hl ha hrr =>
        obtain ⟨b, o, rfl, _⟩ := ha n.toNat 0 hn (by omega)
        have hlen := hl _ cs hcs
        refine good_v (v := .pointer (some ⟨b, o + n.toNat * esz, none⟩)) (w' := w) ?_ (hA.same hS hs (relp_of (.el cs 0 b (o + n.toNat * esz) (f n.toNat) (fun j hj => ?_) (fun j y hy => hrr _ cs j y hcs hy)) (by simp)))
        · have hlt : n < (xs.length : Int) := by omega
          simp [Instr.indexAt, asIntOf, run_underlying hu, h0, hlt, run_sizeOf hm', add_lit0]
        · obtain ⟨b', o', e1, e2, e3, e4⟩ := ha n.toNat j hn (by omega)
          cases e1
          rw [Nat.add_assoc]
          exact ⟨e2, e3, e4⟩
    · exact hs.elim
  · rename_i id off esz n c k j he hei
    obtain ⟨rfl, h0, h1, hs⟩ := hs
    rw [rel_int (opdA_rel hi hT).rel hei]
    rw [he] at hr
    generalize a.eval X = X' at hr
    cases hr with
    | sb _ _ _ _ _ b o hb hn hm ho =>
      obtain rfl := ho (by omega)
      refine good_v (v := .pointer (some ⟨b, o + j.toNat * esz, none⟩)) (w' := w) ?_ (hA.same hS hs (relp_of (.ptr id _ b hb) (by simp)))
      simp [Instr.indexAt, asIntOf, run_underlying hu, h0, h1, run_sizeOf hm', add_lit0]
  · exact hs.elim

theorem snd_idxA {T T' t e : TypeId} {X I : Operand} {x i : Opd} {m len : Nat} (hx : opdA P T X = some x) (hi : opdA P T' I = some i) (hu : P.underlying t = some (.array len e)) (hm : sizeT P e = some m)
    (hs : step P (.idxA len m x i) st K) (hS : InvS w E st.s st.k) (hT : Tm w E st a) (hA : After P st w E K N) : Good P w N (do pure (.value (← Instr.indexAt t (a.eval X) (a.eval I)))) := by
  have hr := (opdA_rel hx hT).rel
  have run : ∀ b o k (n : Int), 0 ≤ n → n < len → (Instr.indexAt t (.pointer (some ⟨b, o, none⟩)) (.int k n)).run P w = .ok (.pointer (some ⟨b, o + n.toNat * m, none⟩)) w := by
    intro b o k n h1 h2
    simp [Instr.indexAt, asIntOf, run_underlying hu, Instr.sureAddr, h1, h2, run_sizeOf hm, add_lit0]
  simp only [step] at hs
  split at hs
  · rename_i id o k n he hei
    obtain ⟨h0, h1, hs⟩ := hs
    rw [rel_int (opdA_rel hi hT).rel hei]
    rw [he] at hr
    generalize a.eval X = X' at hr
    cases hr with
    | ptr _ _ b hb => exact good_v (run _ _ _ _ h0 h1) (hA.same hS hs (relp_of (.ptr id _ b hb) (by simp)))
  · rename_i cs o k n he hei
    obtain ⟨h0, h1, hs⟩ := hs
    rw [rel_int (opdA_rel hi hT).rel hei]
    rw [he] at hr
    generalize a.eval X = X' at hr
    cases hr with
    | el _ _ b o' g ha hrr =>
      refine good_v (run _ _ _ _ h0 h1) (hA.same hS hs (relp_of ?_ (by simp)))
      rw [Nat.add_assoc]
      exact .el cs _ b o' g ha hrr
  · exact hs.elim

theorem snd_getf {T t : TypeId} {X : Operand} {x : Opd} {j : Nat} {n : Option Nat} {fs : Array Field} {f : Field} (hx : opdA P T X = some x) (hu : P.underlying t = some (.struct fs)) (hf : fs[j]? = some f) (hn : aggN P f.type = some n)
    (hs : step P (.getf f.offset n x) st K) (hS : InvS w E st.s st.k) (hT : Tm w E st a) (hA : After P st w E K N) : Good P w N (do pure (.value (← Instr.field t (a.eval X) j))) := by
  have hr := (opdA_rel hx hT).rel
  simp only [step] at hs
  split at hs
  · rename_i cs he
    rw [he] at hr
    generalize a.eval X = X' at hr
    cases hr with
    | agg _ vs h1 h2 h3 =>
      obtain ⟨v, y, g1, g2, g3⟩ := read_part hn h1 h2 h3 hs
      exact good_v (by simp [Instr.field, run_underlying hu, hf, asAgg, g1]) (hA.same hS g2 (relp_strip g3))
  · exact hs.elim

theorem snd_geti {T T' t e : TypeId} {X I : Operand} {x i : Opd} {m len : Nat} {n : Option Nat} (hx : opdA P T X = some x) (hi : opdA P T' I = some i) (hu : P.underlying t = some (.array len e)) (hm : sizeT P e = some m) (hn : aggN P e = some n)
    (hs : step P (.geti len m n x i) st K) (hS : InvS w E st.s st.k) (hT : Tm w E st a) (hA : After P st w E K N) : Good P w N (do pure (.value (← Instr.index t (a.eval X) (a.eval I)))) := by
  have hr := (opdA_rel hx hT).rel
  simp only [step] at hs
  split at hs
  · rename_i cs k j he hei
    obtain ⟨h0, h1, hs⟩ := hs
    rw [rel_int (opdA_rel hi hT).rel hei]
    rw [he] at hr
    generalize a.eval X = X' at hr
    cases hr with
    | agg _ vs q1 q2 q3 =>
      obtain ⟨v, y, g1, g2, g3⟩ := read_part hn q1 q2 q3 hs
      exact good_v (by simp [Instr.index, asIntOf, run_underlying hu, h0, h1, run_sizeOf hm, g1]) (hA.same hS g2 (relp_strip g3))
  · exact hs.elim

theorem snd_gets {T T' t : TypeId} {X I : Operand} {x i : Opd} (hx : opdA P T X = some x) (hi : opdA P T' I = some i) (hu : P.underlying t = some .string)
    (hs : step P (.gets x i) st K) (hS : InvS w E st.s st.k) (hT : Tm w E st a) (hA : After P st w E K N) : Good P w N (do pure (.value (← Instr.index t (a.eval X) (a.eval I)))) := by
  simp only [step] at hs
  split at hs
  · rename_i s k n he hei
    obtain ⟨h0, h1, hs⟩ := hs
    rw [rel_int (opdA_rel hi hT).rel hei, rel_str (opdA_rel hx hT).rel he]
    refine good_v (v := .int .u8 s[n.toNat].toNat) (w' := w) ?_ (hA.same hS hs (relp_of (.int ..) (by simp)))
    have hg : s[n.toNat]? = some s[n.toNat] := getElem?_pos s n.toNat h1
    simp [Instr.index, asIntOf, run_underlying hu, h0, hg]
  · exact hs.elim

theorem snd_bin {T1 T2 t : TypeId} {op : BinOp} {X Y : Operand} {x y : Opd} (hx : opdA P T1 X = some x) (hy : opdA P T2 Y = some y)
    (hs : step P (.bin op x y) st K) (hS : InvS w E st.s st.k) (hT : Tm w E st a) (hA : After P st w E K N) : Good P w N ((do eqGuard op t X Y (a.eval X) (a.eval Y); binOp op t (a.eval X) (a.eval Y) : Sem Value) >>= fun r => pure (.value r)) := by
  simp only [step] at hs
  split at hs
  · rename_i v hv
    obtain ⟨r, h1, h2, h3⟩ := binA_sound (P := P) (X := X) (Y := Y) (t := t) (opdA_rel hx hT).rel (opdA_rel hy hT).rel hv
    exact good_v h1 (hA.same hS hs (relp_of h2 (fun esz xs g e => h3 _ _ _)))
  · exact hs.elim

theorem snd_un {T : TypeId} {op : UnOp} {X : Operand} {x : Opd} (hx : opdA P T X = some x)
    (hs : step P (.un op x) st K) (hS : InvS w E st.s st.k) (hT : Tm w E st a) (hA : After P st w E K N) : Good P w N (do pure (.value (← Op.unary op (a.eval X)))) := by
  simp only [step] at hs
  split at hs
  · rename_i b he
    rw [rel_bool (opdA_rel hx hT).rel he]
    exact good_v (v := .bool !b) (by simp [Op.unary]) (hA.same hS hs (relp_of (.bool _) (by simp)))
  · rename_i k n he
    rw [rel_int (opdA_rel hx hT).rel he]
    exact good_v (v := .int k (k.wrap (0 - n))) (by simp [Op.unary, Op.intArith]) (hA.same hS hs (relp_of (.int ..) (by simp)))
  · exact hs.elim

theorem snd_mkfn {T : TypeId} {f : FuncId} : ∀ {Xs : List Operand} {xs : List Opd}, Xs.mapM (opdA P T) = some xs → Tm w E st a →
    (Xs.map a.eval).length = xs.length ∧ ∀ j x, (xs.map fun x => (ev st x).strip)[j]? = some x → Rel w E x ((Xs.map a.eval).toArray.getD j Go.undef)
  | [], xs, h, _ => by
    simp at h; subst h
    exact ⟨rfl, by simp⟩
  | X :: Xs, xs, h, hT => by
    simp only [List.mapM_cons, Option.bind_eq_bind, Option.bind_eq_some_iff, Option.pure_def, Option.some.injEq] at h
    obtain ⟨y, hy, ys, hys, rfl⟩ := h
    obtain ⟨g1, g2⟩ := snd_mkfn (f := f) hys hT
    refine ⟨by simpa using g1, fun j x hx => ?_⟩
    cases j with
    | zero =>
      simp at hx; subst hx
      simpa [Array.getD_eq_getD_getElem?] using (opdA_rel hy hT).rel.strip
    | succ j =>
      have := g2 j x (by simpa using hx)
      simpa [Array.getD_eq_getD_getElem?] using this

end
end Go.Pv
