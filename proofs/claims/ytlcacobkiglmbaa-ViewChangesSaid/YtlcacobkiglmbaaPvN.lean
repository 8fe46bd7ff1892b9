/- The compact form of an operation, and that it says what the operation does. -/
import Derived.Test.YtlcacobkiglmbaaPvM
set_option linter.unusedVariables false
set_option linter.unusedSimpArgs false
namespace Go.Pv
open Go

/-- The cells of a type's zero value. -/
def zeroA (P : Program) : Nat → TypeId → Option (List A)
  | 0, _ => none
  | n + 1, t =>
    match P.underlying t with
    | some (.int k) => some [.int k 0]
    | some .bool => some [.bool false]
    | some .string => some [.str ⟨#[]⟩]
    | some (.slice _) => some [.sl (eszOf P t) [] .nil]
    | some (.pointer _) => some [.nilptr]
    | some (.func _ _ _) => some [.nilfn]
    | some (.map _ _) => some [.nilmap]
    | some (.struct fs) => (fs.toList.mapM fun f => zeroA P n f.type).map List.flatten
    | some (.array m e) => (zeroA P n e).map fun z => (List.replicate m z).flatten
    | _ => none
def oneA (P : Program) (t : TypeId) (z : List A) : Option A :=
  match aggN P t with
  | some none => match z with
    | [x] => some x
    | _ => none
  | some (some _) => some (.agg z)
  | none => none

def trBin (P : Program) (op : BinOp) (t : TypeId) (x y : Opd) : Option Ins :=
  match P.underlying t with
  | some (.int _) | some .string => some (.bin op x y)
  | some .bool => match op with
    | .eql => some (.eqb false x y)
    | .neq => some (.eqb true x y)
    | _ => none
  | some (.pointer _) => match op with
    | .eql => some (.eqn false x y)
    | .neq => some (.eqn true x y)
    | _ => none
  | some (.slice _) => match op, y with
    | .eql, .c (.sl _ [] .nil) => some (.isn false x)
    | .neq, .c (.sl _ [] .nil) => some (.isn true x)
    | _, _ => none
  | _ => match op with
    | .eql => (eqT P t).map fun q => .eqs q.bs false x y
    | .neq => (eqT P t).map fun q => .eqs q.bs true x y
    | _ => none

def trCall (P : Program) (q bx : Bool) (c : Call) : Option Ins :=
  match c.callee with
  | .value f => do
    let f ← opdA P 0 f
    if c.args.size = c.argTypes.size then
      let xs ← (c.args.toList.zip c.argTypes.toList).mapM fun z => opdA P z.2 z.1
      some (.call (q && !bx) f xs)
    else none
  | .builtin .len => match c.args.toList, c.argTypes.toList with
    | [X], [t] => match P.underlying t with
      | some (.slice _) => (opdA P t X).map (.len false)
      | some .string => (opdA P t X).map (.len true)
      | some (.array n _) => some (.clen n)
      | some (.map _ _) => (opdA P t X).map .mlen
      | _ => none
    | _, _ => none
  | .builtin .append => match c.args.toList, c.argTypes.toList with
    | [X, Y], [t, t'] => if t = t' then match P.underlying t with
      | some (.slice e) => do
        let x ← opdA P t X
        let y ← opdA P t Y
        let i ← P.info? e
        let z ← i.zero
        if z.cells.size = i.size && 0 < i.size && 0 < i.bytes then
          if bx then do
            let zA ← zeroA P 12 e
            if okZero P zA z.cells.toList then some (.appB i.size e i.bytes x y) else none
          else some (.app i.size e i.bytes x y)
        else none
      | _ => none else match P.underlying t, P.underlying t' with
      | some (.slice e), some (.int _) => do
        let x ← opdA P t X
        let y ← opdA P t' Y
        let i ← P.info? e
        let z ← i.zero
        let zA ← zeroA P 12 e
        if z.cells.size = i.size && 0 < i.size && 0 < i.bytes && okZero P zA z.cells.toList then some (.appZ i.size e i.bytes zA x y) else none
      | _, _ => none
    | _, _ => none
  | .builtin .cap => match c.args.toList, c.argTypes.toList with
    | [X], [t] => match P.underlying t with
      | some (.slice _) => (opdA P t X).map .capn
      | _ => none
    | _, _ => none
  | .builtin .copy => match c.args.toList, c.argTypes.toList with
    | [X, Y], [t, t'] => match P.underlying t with
      | some (.slice e) => do
        let m ← sizeT P e
        let x ← opdA P t X
        let y ← opdA P t' Y
        some (.cpy m x y)
      | _ => none
    | _, _ => none
  | .builtin .clear => match c.args.toList, c.argTypes.toList with
    | [X], [t] => match P.underlying t with
      | some (.slice e) => do
        let x ← opdA P t X
        let i ← P.info? e
        let z ← i.zero
        let zA ← zeroA P 12 e
        if okZero P zA z.cells.toList then some (.clr z.cells.size zA x) else none
      | _ => none
    | _, _ => none
  | .builtin .max => match c.args.toList with
    | [X, Y] => do
      let x ← opdA P 0 X
      let y ← opdA P 0 Y
      some (.mm true x y)
    | _ => none
  | .builtin .min => match c.args.toList with
    | [X, Y] => do
      let x ← opdA P 0 X
      let y ← opdA P 0 Y
      some (.mm false x y)
    | _ => none
  | _ => none

def trOp (P : Program) (q bx : Bool) (o : Oper) : Option Ins :=
  match o.op with
  | .move x | .assign x => (opdA P o.type x).map .mv
  | .pick c a b => do
    let c ← opdA P 0 c
    let a ← opdA P o.type a
    let b ← opdA P o.type b
    some (.pick c a b)
  | .alloc e => do
    let i ← P.info? e
    let v ← i.zero
    let z ← zeroA P 12 e
    if okZero P z v.cells.toList then some (.new z) else none
  | .box e x => (opdA P e x).map .box
  | .build t ps => match P.underlying t with
    | some (.struct fs) => do
      let pl ← placesOf P fs
      let i ← P.info? t
      let v ← i.zero
      let z ← zeroA P 12 t
      let ps ← ps.toList.mapM fun (q : Nat × Operand) => do let (o, n) ← pl[q.1]?; let x ← opdA P t q.2; pure (o, n, x)
      if okZero P z v.cells.toList then some (.build z ps) else none
    | some (.array _ e) => do
      let m ← sizeT P e
      let i ← P.info? t
      let v ← i.zero
      let z ← zeroA P 12 t
      let ps ← ps.toList.mapM fun (q : Nat × Operand) => do let (o, n) ← some (q.1 * m, m); let x ← opdA P t q.2; pure (o, n, x)
      if okZero P z v.cells.toList then some (.build z ps) else none
    | _ => none
  | .buildSlice t len ps => match P.underlying t with
    | some (.slice e) => do
      let i ← P.info? e
      let v ← i.zero
      let z ← zeroA P 12 e
      let xs ← ps.toList.mapM fun (q : Nat × Operand) => do let x ← opdA P e q.2; pure (q.1, x)
      if okZero P z v.cells.toList && i.size != 0 && z.length = i.size && len * i.size ≤ 16777216 && (len != 0 || ps.isEmpty) then some (.lit i.size e z len xs) else none
    | _ => none
  | .load t a => do
    let n ← aggN P t
    let x ← opdA P 0 a
    some (.load n x)
  | .store t a x => do
    let n ← sizeT P t
    let a ← opdA P 0 a
    let x ← opdA P t x
    some (.store n a x)
  | .fieldAddr t x j => match P.underlying t with
    | some (.struct fs) => do
      let f ← fs[j]?
      let m ← sizeT P f.type
      let x ← opdA P 0 x
      if m ≠ 0 then some (.fld f.offset x) else none
    | _ => none
  | .indexAddr t x i => match P.underlying t with
    | some (.slice e) => do
      let m ← sizeT P e
      let x ← opdA P t x
      let i ← opdA P 0 i
      if m ≠ 0 then some (.idx m x i) else none
    | some (.array len e) => do
      let m ← sizeT P e
      let x ← opdA P t x
      let i ← opdA P 0 i
      some (.idxA len m x i)
    | _ => none
  | .field t x j => match P.underlying t with
    | some (.struct fs) => do
      let f ← fs[j]?
      let n ← aggN P f.type
      let x ← opdA P 0 x
      some (.getf f.offset n x)
    | _ => none
  | .index t x i => match P.underlying t with
    | some (.array len e) => do
      let m ← sizeT P e
      let n ← aggN P e
      let x ← opdA P t x
      let i ← opdA P 0 i
      some (.geti len m n x i)
    | some .string => do
      let x ← opdA P t x
      let i ← opdA P 0 i
      some (.gets x i)
    | _ => none
  | .binOp op t x y _ => do
    let x ← opdA P t x
    let y ← opdA P t y
    trBin P op t x y
  | .unOp op _ x => (opdA P 0 x).map (.un op)
  | .convert s d x => match P.underlying s, P.underlying d with
    | some (.int _), some (.int k) => (opdA P 0 x).map (.conv k)
    | some .string, some .string => (opdA P 0 x).map .idc
    | _, _ => none
  | .makeFunc fn first caps => match fn with
    | .func f => if first.isEmpty then (caps.toList.mapM (opdA P 0)).map (.mkfn f) else none
    | _ => none
  | .makeMap _ r => match r with
    | none => some .mkmap
    | some _ => none
  | .lookup t m k ok => match P.underlying t with
    | some (.map kt et) => do
      let kb ← keyBas P kt
      let i ← P.info? et
      let v ← i.zero
      let z ← zeroA P 12 et
      let z ← oneA P et z
      let m ← opdA P 0 m
      let k ← opdA P kt k
      if okZeroV P z v then some (.look kb ok z m k) else none
    | _ => none
  | .mapUpdate t m k v | .insert t m k v => match P.underlying t with
    | some (.map kt et) => do
      let kb ← keyBas P kt
      let m ← opdA P 0 m
      let k ← opdA P kt k
      let v ← opdA P et v
      some (.mset kb m k v)
    | _ => none
  | .extract x j => (opdA P 0 x).map fun x => .ext x j
  | .slice t x lo hi mx => match P.underlying t with
    | some .string => do
      let x ← opdA P t x
      let lo ← optO P lo
      let hi ← optO P hi
      if mx.isNone then some (.cut x lo hi) else none
    | some (.slice e) => do
      let m ← sizeT P e
      let x ← opdA P t x
      let lo ← optO P lo
      let hi' ← optO P hi
      let mx' ← optO P mx
      if mx.isNone || hi.isSome then some (.slc m x lo hi' mx') else none
    | _ => none
  | .call c => trCall P q bx c
  | .nilCheck x => (opdA P 0 x).map .nilc
  | _ => none

section
variable {P : Program} {st : St} {K : A → St → Prop} {a : Act} {w : World} {E : Env} {N : Value → World → Prop}

theorem trBin_sound {op : BinOp} {t : TypeId} {X Y : Operand} {x y : Opd} {i : Ins} (hx : opdA P t X = some x) (hy : opdA P t Y = some y) (h : trBin P op t x y = some i)
    (hs : step P i st K) (hS : InvS w E st.s st.k) (hT : Tm w E st a) (hA : After P st w E K N) : Good P w N ((do eqGuard op t X Y (a.eval X) (a.eval Y); binOp op t (a.eval X) (a.eval Y) : Sem Value) >>= fun r => pure (.value r)) := by
  unfold trBin at h
  split at h
  · cases h; exact snd_bin hx hy hs hS hT hA
  · cases h; exact snd_bin hx hy hs hS hT hA
  · rename_i hu
    split at h <;> cases h
    · exact snd_eqb (neq := false) hx hy hu hs hS hT hA
    · exact snd_eqb (neq := true) hx hy hu hs hS hT hA
  · rename_i e hu
    split at h <;> cases h
    · exact snd_eqn (neq := false) hx hy hu hs hS hT hA
    · exact snd_eqn (neq := true) hx hy hu hs hS hT hA
  · rename_i e hu
    split at h <;> cases h
    · exact snd_isn (neg := false) hx hy hu hs hS hT hA
    · exact snd_isn (neg := true) hx hy hu hs hS hT hA
  · split at h
    · obtain ⟨q, hq, rfl⟩ := Option.map_eq_some_iff.1 h
      exact snd_eqs (neq := false) hx hy hq hs hS hT hA
    · obtain ⟨q, hq, rfl⟩ := Option.map_eq_some_iff.1 h
      exact snd_eqs (neq := true) hx hy hq hs hS hT hA
    · cases h

theorem trCall_sound {q bx : Bool} {c : Call} {ty : TypeId} {i : Ins} (h : trCall P q bx c = some i)
    (hs : step P i st K) (hS : InvS w E st.s st.k) (hT : Tm w E st a) (hA : After P st w E K N) : Good P w N (do let d ← resolve a.eval c ty; invoke d.target d.args) := by
  obtain ⟨callee, args, argTypes⟩ := c
  unfold trCall at h
  simp only at h
  split at h
  · simp only [Option.bind_eq_bind, Option.bind_eq_some_iff] at h
    obtain ⟨f', hf, h⟩ := h
    split at h
    · rename_i hl
      simp only [Option.bind_eq_some_iff, Option.some.injEq] at h
      obtain ⟨xs, hxs, rfl⟩ := h
      exact snd_call hf hxs hl hs hS hT hA
    · cases h
  · split at h
    · rename_i X t hargs htypes
      obtain rfl : args = #[X] := by rw [← Array.toList_inj]; exact hargs
      obtain rfl : argTypes = #[t] := by rw [← Array.toList_inj]; exact htypes
      have e : (do let d ← resolve a.eval { callee := .builtin .len, args := #[X], argTypes := #[t] } ty; invoke d.target d.args : Sem Next) = (do pure (.value (← Builtin.len_ #[t] ty #[a.eval X]))) := by
        simp [resolve, invoke, builtin]
      rw [e]
      split at h
      · rename_i hu; obtain ⟨x, hx, rfl⟩ := Option.map_eq_some_iff.1 h; exact snd_lens hx hu hs hS hT hA
      · rename_i hu; obtain ⟨x, hx, rfl⟩ := Option.map_eq_some_iff.1 h; exact snd_lenb hx hu hs hS hT hA
      · rename_i hu; cases h; exact snd_clen hu hs hS hA
      · rename_i hu; obtain ⟨x, hx, rfl⟩ := Option.map_eq_some_iff.1 h; exact snd_mlen hx hu hs hS hT hA
      · cases h
    · cases h
  · split at h
    · rename_i X Y t t' hargs htypes
      split at h
      · rename_i htt
        subst htt
        obtain rfl : args = #[X, Y] := by rw [← Array.toList_inj]; exact hargs
        obtain rfl : argTypes = #[t, t] := by rw [← Array.toList_inj]; exact htypes
        have e : (do let d ← resolve a.eval { callee := .builtin .append, args := #[X, Y], argTypes := #[t, t] } ty; invoke d.target d.args : Sem Next) = (do pure (.value (← Builtin.append_ #[t, t] ty #[a.eval X, a.eval Y]))) := by
          simp [resolve, invoke, builtin]
        rw [e]
        split at h
        · rename_i el hu
          simp only [Option.bind_eq_bind, Option.bind_eq_some_iff] at h
          obtain ⟨x, hx, y, hy, inf, hi, z, hz, h⟩ := h
          split at h
          · rename_i hc
            simp only [Bool.and_eq_true, decide_eq_true_eq] at hc
            split at h
            · simp only [Option.bind_eq_some_iff] at h
              obtain ⟨zA, hzA, h⟩ := h
              split at h
              · rename_i hok
                cases h
                exact snd_appB hx hy hu hi hz rfl rfl hc.1.1 hc.1.2 hc.2 hok hs hS hT hA
              · cases h
            · cases h
              exact snd_app hx hy hu hi hz rfl rfl hc.1.1 hc.1.2 hc.2 hs hS hT hA
          · cases h
        · cases h
      · obtain rfl : args = #[X, Y] := by rw [← Array.toList_inj]; exact hargs
        obtain rfl : argTypes = #[t, t'] := by rw [← Array.toList_inj]; exact htypes
        have e : (do let d ← resolve a.eval { callee := .builtin .append, args := #[X, Y], argTypes := #[t, t'] } ty; invoke d.target d.args : Sem Next) = (do pure (.value (← Builtin.append_ #[t, t'] ty #[a.eval X, a.eval Y]))) := by
          simp [resolve, invoke, builtin]
        rw [e]
        split at h
        · rename_i el ik hu hu2
          simp only [Option.bind_eq_bind, Option.bind_eq_some_iff] at h
          obtain ⟨x, hx, y, hy, inf, hi, z, hz, zA, hzA, h⟩ := h
          split at h
          · rename_i hc
            simp only [Bool.and_eq_true, decide_eq_true_eq] at hc
            cases h
            exact snd_appZ hx hy hu hu2 hi hz rfl rfl hc.1.1.1 hc.1.1.2 hc.1.2 hc.2 hs hS hT hA
          · cases h
        · cases h
    · cases h
  · split at h
    · rename_i X t hargs htypes
      obtain rfl : args = #[X] := by rw [← Array.toList_inj]; exact hargs
      obtain rfl : argTypes = #[t] := by rw [← Array.toList_inj]; exact htypes
      have e : (do let d ← resolve a.eval { callee := .builtin .cap, args := #[X], argTypes := #[t] } ty; invoke d.target d.args : Sem Next) = (do pure (.value (← Builtin.cap_ #[t] ty #[a.eval X]))) := by
        simp [resolve, invoke, builtin]
      rw [e]
      split at h
      · rename_i hu; obtain ⟨x, hx, rfl⟩ := Option.map_eq_some_iff.1 h; exact snd_cap hx hu hs hS hT hA
      · cases h
    · cases h
  · split at h
    · rename_i X Y t t' hargs htypes
      obtain rfl : args = #[X, Y] := by rw [← Array.toList_inj]; exact hargs
      obtain rfl : argTypes = #[t, t'] := by rw [← Array.toList_inj]; exact htypes
      have e : (do let d ← resolve a.eval { callee := .builtin .copy, args := #[X, Y], argTypes := #[t, t'] } ty; invoke d.target d.args : Sem Next) = (do pure (.value (← Builtin.copy_ #[t, t'] ty #[a.eval X, a.eval Y]))) := by
        simp [resolve, invoke, builtin]
      rw [e]
      split at h
      · rename_i el hu
        simp only [Option.bind_eq_bind, Option.bind_eq_some_iff, Option.some.injEq] at h
        obtain ⟨m, hm, x, hx, y, hy, rfl⟩ := h
        exact snd_cpy hx hy hu hm hs hS hT hA
      · cases h
    · cases h
  · split at h
    · rename_i X t hargs htypes
      obtain rfl : args = #[X] := by rw [← Array.toList_inj]; exact hargs
      obtain rfl : argTypes = #[t] := by rw [← Array.toList_inj]; exact htypes
      have e : (do let d ← resolve a.eval { callee := .builtin .clear, args := #[X], argTypes := #[t] } ty; invoke d.target d.args : Sem Next) = (do pure (.value (← Builtin.clear_ #[t] ty #[a.eval X]))) := by
        simp [resolve, invoke, builtin]
      rw [e]
      split at h
      · rename_i el hu
        simp only [Option.bind_eq_bind, Option.bind_eq_some_iff] at h
        obtain ⟨x, hx, inf, hi, z, hz, zA, hzA, h⟩ := h
        split at h
        · rename_i hc
          cases h
          exact snd_clr hx hu hi hz rfl hc hs hS hT hA
        · cases h
      · cases h
    · cases h
  · split at h
    · rename_i X Y hargs
      obtain rfl : args = #[X, Y] := by rw [← Array.toList_inj]; exact hargs
      simp only [Option.bind_eq_bind, Option.bind_eq_some_iff, Option.some.injEq] at h
      obtain ⟨x, hx, y, hy, rfl⟩ := h
      have e : (do let d ← resolve a.eval { callee := .builtin .max, args := #[X, Y], argTypes := argTypes } ty; invoke d.target d.args : Sem Next) = (do pure (.value (← Builtin.max_ argTypes ty #[a.eval X, a.eval Y]))) := by
        simp [resolve, invoke, builtin]
      rw [e]
      exact snd_mm (ts := argTypes) (ty := ty) (big := true) hx hy hs hS hT hA
    · cases h
  · split at h
    · rename_i X Y hargs
      obtain rfl : args = #[X, Y] := by rw [← Array.toList_inj]; exact hargs
      simp only [Option.bind_eq_bind, Option.bind_eq_some_iff, Option.some.injEq] at h
      obtain ⟨x, hx, y, hy, rfl⟩ := h
      have e : (do let d ← resolve a.eval { callee := .builtin .min, args := #[X, Y], argTypes := argTypes } ty; invoke d.target d.args : Sem Next) = (do pure (.value (← Builtin.min_ argTypes ty #[a.eval X, a.eval Y]))) := by
        simp [resolve, invoke, builtin]
      rw [e]
      exact snd_mm (ts := argTypes) (ty := ty) (big := false) hx hy hs hS hT hA
    · cases h
  · cases h

theorem trOp_sound {q bx : Bool} {o : Oper} {i : Ins} (h : trOp P q bx o = some i) (hs : step P i st K) (hS : InvS w E st.s st.k) (hT : Tm w E st a) (hA : After P st w E K N) : Good P w N (execOp a.eval o) := by
  obtain ⟨dst, op, type, pos, after, guard⟩ := o
  unfold trOp at h
  cases op <;> simp only at h <;> simp only [execOp] <;> try (cases h; done)
  case move x => obtain ⟨x', hx, rfl⟩ := Option.map_eq_some_iff.1 h; exact snd_mv hx hs hS hT hA
  case assign x => obtain ⟨x', hx, rfl⟩ := Option.map_eq_some_iff.1 h; exact snd_mv hx hs hS hT hA
  case pick c x y =>
    simp only [Option.bind_eq_bind, Option.bind_eq_some_iff, Option.some.injEq] at h
    obtain ⟨c', hc, x', hx, y', hy, rfl⟩ := h
    exact snd_pick hc hx hy hs hS hT hA
  case alloc e =>
    simp only [Option.bind_eq_bind, Option.bind_eq_some_iff] at h
    obtain ⟨inf, hi, v, hv, z, hz, h⟩ := h
    split at h
    · rename_i hok; cases h; exact snd_new hi hv hok hs hS hA
    · cases h
  case box e x => obtain ⟨x', hx, rfl⟩ := Option.map_eq_some_iff.1 h; exact snd_box hx hs hS hT hA
  case build t ps =>
    split at h
    · rename_i fs hu
      simp only [Option.bind_eq_bind, Option.bind_eq_some_iff] at h
      obtain ⟨pl, hpl, inf, hi, v, hv, z, hz, qs, hqs, h⟩ := h
      split at h
      · rename_i hok; cases h; exact snd_buildS hu hpl hi hv hok hqs hs hS hT hA
      · cases h
    · rename_i m e hu
      simp only [Option.bind_eq_bind, Option.bind_eq_some_iff] at h
      obtain ⟨n, hn, inf, hi, v, hv, z, hz, qs, hqs, h⟩ := h
      split at h
      · rename_i hok; cases h; exact snd_buildA hu hn hi hv hok hqs hs hS hT hA
      · cases h
    · cases h
  case buildSlice t len ps =>
    split at h
    · rename_i e hu
      simp only [Option.bind_eq_bind, Option.bind_eq_some_iff] at h
      obtain ⟨inf, hi, v, hv, z, hz, qs, hqs, h⟩ := h
      split at h
      · rename_i hok
        cases h
        simp only [Bool.and_eq_true, decide_eq_true_eq, bne_iff_ne, ne_eq, Bool.or_eq_true] at hok
        obtain ⟨⟨⟨⟨h1, h2⟩, h3⟩, h4⟩, h5⟩ := hok
        exact snd_lit hu hi rfl h2 hv h1 h3 h4 (fun h0 => by simpa using h5.resolve_left (fun h => h h0)) hqs hs hS hT hA
      · cases h
    · cases h
  case load t x =>
    simp only [Option.bind_eq_bind, Option.bind_eq_some_iff, Option.some.injEq] at h
    obtain ⟨n, hn, x', hx, rfl⟩ := h
    exact snd_load hx hn hs hS hT hA
  case store t x y =>
    simp only [Option.bind_eq_bind, Option.bind_eq_some_iff, Option.some.injEq] at h
    obtain ⟨n, hn, x', hx, y', hy, rfl⟩ := h
    exact snd_store hx hy hn hs hS hT hA
  case fieldAddr t x j =>
    split at h
    · rename_i fs hu
      simp only [Option.bind_eq_bind, Option.bind_eq_some_iff] at h
      obtain ⟨f, hf, m, hm, x', hx, h⟩ := h
      split at h
      · rename_i hm0; cases h; exact snd_fld hx hu hf hm hm0 hs hS hT hA
      · cases h
    · cases h
  case indexAddr t x j =>
    split at h
    · rename_i e hu
      simp only [Option.bind_eq_bind, Option.bind_eq_some_iff] at h
      obtain ⟨m, hm, x', hx, j', hj, h⟩ := h
      split at h
      · rename_i hm0; cases h; exact snd_idx hx hj hu hm hm0 hs hS hT hA
      · cases h
    · rename_i n e hu
      simp only [Option.bind_eq_bind, Option.bind_eq_some_iff, Option.some.injEq] at h
      obtain ⟨m, hm, x', hx, j', hj, rfl⟩ := h
      exact snd_idxA hx hj hu hm hs hS hT hA
    · cases h
  case field t x j =>
    split at h
    · rename_i fs hu
      simp only [Option.bind_eq_bind, Option.bind_eq_some_iff, Option.some.injEq] at h
      obtain ⟨f, hf, n, hn, x', hx, rfl⟩ := h
      exact snd_getf hx hu hf hn hs hS hT hA
    · cases h
  case index t x j =>
    split at h
    · rename_i n e hu
      simp only [Option.bind_eq_bind, Option.bind_eq_some_iff, Option.some.injEq] at h
      obtain ⟨m, hm, k, hk, x', hx, j', hj, rfl⟩ := h
      exact snd_geti hx hj hu hm hk hs hS hT hA
    · rename_i hu
      simp only [Option.bind_eq_bind, Option.bind_eq_some_iff, Option.some.injEq] at h
      obtain ⟨x', hx, j', hj, rfl⟩ := h
      exact snd_gets hx hj hu hs hS hT hA
    · cases h
  case binOp op t x y yt =>
    simp only [Option.bind_eq_bind, Option.bind_eq_some_iff] at h
    obtain ⟨x', hx, y', hy, h⟩ := h
    exact trBin_sound hx hy h hs hS hT hA
  case unOp op t x => obtain ⟨x', hx, rfl⟩ := Option.map_eq_some_iff.1 h; exact snd_un hx hs hS hT hA
  case convert s d x =>
    split at h
    · rename_i k' k h1 h2
      obtain ⟨x', hx, rfl⟩ := Option.map_eq_some_iff.1 h
      exact snd_conv hx (by rw [h1]; rfl) h2 hs hS hT hA
    · rename_i h1 h2
      obtain ⟨x', hx, rfl⟩ := Option.map_eq_some_iff.1 h
      exact snd_idc hx (by rw [h1]; rfl) h2 hs hS hT hA
    · cases h
  case makeFunc fn first caps =>
    split at h
    · rename_i f
      split at h
      · rename_i hf
        obtain ⟨xs, hxs, rfl⟩ := Option.map_eq_some_iff.1 h
        obtain rfl : first = #[] := by simpa using hf
        obtain ⟨h1, h2⟩ := snd_mkfn (f := f) hxs hT
        refine good_v (v := .func (.func f) #[] (caps.map a.eval)) (w' := w) (by simp [Instr.makeFunc]) (hA.same hS hs (relp_of (.fn f _ _ ?_ ?_) (by simp)))
        · simpa using h1
        · intro j x hx
          have := h2 j x hx
          simpa [Array.getD_eq_getD_getElem?] using this
      · cases h
    · cases h
  case makeMap t r =>
    cases r with
    | none => cases h; exact snd_mkmap hs hS hA
    | some r => cases h
  case lookup t m k ok =>
    split at h
    · rename_i kt et hu
      simp only [Option.bind_eq_bind, Option.bind_eq_some_iff] at h
      obtain ⟨kb, hkb, inf, hi, v, hv, z0, hz0, z, hz, m', hm, k', hk, h⟩ := h
      split at h
      · rename_i hok; cases h; exact snd_look hm hk hu hi hv hok hkb hs hS hT hA
      · cases h
    · cases h
  case mapUpdate t m k v =>
    split at h
    · rename_i kt et hu
      simp only [Option.bind_eq_bind, Option.bind_eq_some_iff, Option.some.injEq] at h
      obtain ⟨kb, hkb, m', hm, k', hk, v', hv, rfl⟩ := h
      exact snd_mset hm hk hv hu hkb hs hS hT hA
    · cases h
  case insert t m k v =>
    split at h
    · rename_i kt et hu
      simp only [Option.bind_eq_bind, Option.bind_eq_some_iff, Option.some.injEq] at h
      obtain ⟨kb, hkb, m', hm, k', hk, v', hv, rfl⟩ := h
      exact snd_mset hm hk hv hu hkb hs hS hT hA
    · cases h
  case extract x j => obtain ⟨x', hx, rfl⟩ := Option.map_eq_some_iff.1 h; exact snd_ext hx hs hS hT hA
  case slice t x lo hi mx =>
    split at h
    · rename_i hu
      simp only [Option.bind_eq_bind, Option.bind_eq_some_iff] at h
      obtain ⟨x', hx, lo', hlo, hi', hhi, h⟩ := h
      split at h
      · rename_i hm
        cases h
        obtain rfl : mx = none := by simpa using hm
        exact snd_cut hx hlo hhi hu hs hS hT hA
      · cases h
    · rename_i e hu
      simp only [Option.bind_eq_bind, Option.bind_eq_some_iff] at h
      obtain ⟨m, hm, x', hx, lo', hlo, hi', hhi, mx', hmx, h⟩ := h
      split at h
      · rename_i hc
        cases h
        exact snd_slc hx hlo hhi hmx hu hm (fun h1 => by
          simp only [Bool.or_eq_true] at hc
          rcases hc with hc | hc
          · cases mx <;> simp at hc h1
          · exact hc) hs hS hT hA
      · cases h
    · cases h
  case call c => exact trCall_sound h hs hS hT hA
  case nilCheck x => obtain ⟨x', hx, rfl⟩ := Option.map_eq_some_iff.1 h; exact snd_nilc hx hs hS hT hA

end
end Go.Pv
