/- An operation, its types looked up once: what it does to the abstract heap. -/
import Derived.Test.YtfcfdmpgmnnfeaaGreatDoorAdsB
set_option linter.unusedSimpArgs false
set_option linter.unusedVariables false
namespace Go.Ads
noncomputable section

def plain1 : Value → Bool
  | .bool _ | .int _ _ | .string _ | .pointer none | .slice none _ _ | .map none | .nilFunc | .nilIface => true
  | _ => false
def plainL : List Value → Bool
  | [] => true
  | v :: l => plain1 v && plainL l
def plainV : Value → Bool
  | .agg cs => plainL cs.toList
  | .iface _ v => plain1 v
  | .tuple cs => plainL cs.toList
  | v => plain1 v

theorem plain1_rel {ρ : Ren} {v : Value} (h : plain1 v = true) : VRel ρ v v := by
  unfold plain1 at h
  split at h <;> first | exact .bool _ | exact .int _ _ | exact .string _ | exact .nilp | exact .nils _ _ | exact .nilm | exact .nilFunc | exact .nilIface | cases h
theorem plainL_rel {ρ : Ren} : ∀ {l : List Value}, plainL l = true → VRels ρ l l := by
  intro l
  induction l with
  | nil => intro _; exact .nil
  | cons v l ih =>
    intro h
    simp only [plainL, Bool.and_eq_true] at h
    exact .cons (plain1_rel h.1) (ih h.2)
theorem plainV_rel {ρ : Ren} {v : Value} (h : plainV v = true) : VRel ρ v v := by
  unfold plainV at h
  split at h
  · exact .agg (plainL_rel h)
  · exact .iface _ (plain1_rel h)
  · exact .tuple (plainL_rel h)
  · exact plain1_rel h

def okOp (gs : List Nat) : Operand → Bool
  | .tmp _ => true
  | .const v => plainV v
  | .global g => gs.contains g
  | .func _ => true

def okOps (gs : List Nat) : List Operand → Bool
  | [] => true
  | x :: l => okOp gs x && okOps gs l

def cellsFitL : List (Nat × TypeDesc) → Array Value → Bool
  | [], _ => true
  | (o, d) :: l, xs => (match xs[o]? with | some v => keyFits d v | none => false) && cellsFitL l xs

def evalParts (ev : Operand → Value) : Parts → List (Nat × Value)
  | [] => []
  | (i, x) :: l => (i, ev x) :: evalParts ev l

def withH (H : AH) : Option Value → Option (Value × AH)
  | some v => some (v, H)
  | none => none
def noVal : Option AH → Option (Value × AH)
  | some H => some (undef, H)
  | none => none

/-- A check for nil of a method's value. -/
def anilCheckM (tbl : List (TypeId × String)) (x : Value) : Option Value :=
  match x with
  | .func (.method name) first caps => match first.toList with
    | .iface t w :: l => if tbl.contains (t, name) then some (.func (.method name) (.iface t w :: l).toArray caps) else none
    | _ => none
  | x => anilCheck x

/-- A type assertion to an interface's type. -/
def aassertI (tbl : List TypeId) (ok : Bool) (x : Value) : Option Value :=
  match x with
  | .iface t v => if tbl.contains t then some (bif ok then .tuple #[.iface t v, .bool true] else .iface t v) else none
  | .nilIface => bif ok then some (.tuple #[.nilIface, .bool false]) else none
  | _ => none

/-- What an operation that calls nothing does. -/
def COp.run (c : COp) (ev : Operand → Value) (H : AH) : Option (Value × AH) :=
  match c with
  | .mv x => some (ev x, H)
  | .pick c a b => withH H (apick (ev c) (ev a) (ev b))
  | .alloc z => some (.pointer (some ⟨H.next, 0, none⟩), H.push (.cells z 0 false))
  | .box x => some (.pointer (some ⟨H.next, 0, none⟩), H.push (.cells (ev x).cells.toList 0 false))
  | .build zero places parts => withH H (abuild zero (places[·]?) (evalParts ev parts))
  | .buildArr zero size parts => withH H (abuild zero (fun j => some (j * size, size)) (evalParts ev parts))
  | .buildSlice u8 size n zero parts => abuildSlice u8 size n zero H (evalParts ev parts)
  | .load1 x => match ev x with
    | .pointer (some a) => match H.get a.block with
      | some o => withH H (o.cell? a.off)
      | none => none
    | _ => none
  | .loadN n x => match ev x with
    | .pointer (some a) => match H.get a.block with
      | some o => match o.chunk a.off n with
        | some c => some (.agg c.cells.toArray, H)
        | none => none
      | none => none
    | _ => none
  | .store n a x => match ev a with
    | .pointer (some p) => match H.get p.block with
      | some o => if (ev x).cells.size = n then noVal ((o.put p.off (.vals (ev x).cells.toList)).map fun o' => H.set p.block o') else none
      | none => none
    | _ => none
  | .nilCheck x => withH H (anilCheck (ev x))
  | .bin op x y => withH H (abin op (ev x) (ev y))
  | .eqNil neg const d x y => if nilKind d (ev x) then withH H (aeqNil neg const (ev x) (ev y)) else none
  | .eqFlat neg fs x y => if cellsFitL fs (aggCells (ev x)) then withH H (aeqFlat neg (fs.map (·.1)) (ev x) (ev y)) else none
  | .un op x => withH H (aun op (ev x))
  | .toInt k x => withH H (atoInt k (ev x))
  | .toStr x => withH H (atoStr (ev x))
  | .toBytes x => atoBytes H (ev x)
  | .fromBytes x => withH H (afromBytes H (ev x))
  | .mkIface t x => some (.iface t (ev x), H)
  | .mkFunc f first caps => some (.func f (first.map ev).toArray (caps.map ev).toArray, H)
  | .mkMap => some (.map (some H.next), H.push (.map []))
  | .mkSlice u8 size bytes zero l c => amakeSlice size bytes zero u8 H (ev l) (ev c)
  | .sliceS x lo hi => withH H (asliceStr (ev x) (lo.map ev) (hi.map ev))
  | .slice size x lo hi mx => withH H (aslice size H (ev x) (lo.map ev) (hi.map ev) (mx.map ev))
  | .sliceA n size x lo hi mx => withH H (asliceArr n size (ev x) (lo.map ev) (hi.map ev) (mx.map ev))
  | .fieldAddr off x => match ev x with
    | .pointer (some a) => some (.pointer (some (a.add off)), H)
    | _ => none
  | .field agg off size x => withH H (apart agg off size (ev x))
  | .indexAddr size x i => withH H (aindexAddr size (ev x) (ev i))
  | .indexAddrA n size x i => withH H (aindexAddrA n size (ev x) (ev i))
  | .indexS x i => withH H (aindexStr (ev x) (ev i))
  | .indexA agg n size x i => withH H (aindexArr agg n size (ev x) (ev i))
  | .lookup kd zero ok x k => if keyFits kd (ev k) then withH H (alookup zero ok H (ev x) (ev k)) else none
  | .mapUpdate kd m k v => if keyFits kd (ev k) then noVal (amapUpdate H (ev m) (ev k) (ev v)) else none
  | .extract x i => withH H (aextract (ev x) i)
  | .len d x => if lenKind d (ev x) then withH H (alen H (ev x)) else none
  | .lenA n => some (goInt n, H)
  | .cap x => withH H (acap H (ev x))
  | .append size bytes s x => match chunkOf size H (ev x) with
    | some (k, ch) => aappend size bytes H (ev s) k ch
    | none => none
  | .appendN u8 size bytes zero s x => aappendN u8 size bytes zero H (ev s) (ev x)
  | .copy size d s => acopy size H (ev d) (ev s)
  | .max xs => withH H (amax (xs.map ev))
  | .min xs => withH H (amin (xs.map ev))
  | .clear zero x => noVal (aclear H zero (ev x))
  | .assert T zero ok x => withH H (aassert T zero ok (ev x))
  | .nilCheckM tbl x => withH H (anilCheckM tbl (ev x))
  | .assertI tbl ok x => withH H (aassertI tbl ok (ev x))
  | .call .. | .callV .. | .callM .. | .panic _ => none

def isU8 (P : Program) (e : TypeId) : Bool := match P.underlying e with | some (.int .u8) => true | _ => false

/-- Which types have a method of this name on their pointer, with nothing in between. -/
def methodTable (P : Program) (name : String) : List (TypeId × FuncId) :=
  (List.range P.types.size).filterMap fun t => match P.info? t with
    | some i => match i.methods.find? (·.name == name) with
      | some m => match m.path.isEmpty, m.func, P.underlying t with
        | true, some (f, true), some (.pointer _) => some (t, f)
        | _, _, _ => none
      | none => none
    | none => none

/-- Which methods stand on a type itself, with nothing in between, and take a pointer. -/
def directMethods (P : Program) : List (TypeId × String) :=
  (List.range P.types.size).flatMap fun t => match P.info? t with
    | some i => (i.methods.toList.filter fun m => m.path.isEmpty && (match m.func with | some (_, true) => true | _ => false) && (match i.methods.find? (·.name == m.name) with | some m' => m'.path.isEmpty && (match m'.func with | some (_, true) => true | _ => false) | none => false)).map fun m => (t, m.name)
    | none => []
/-- Which types have all that an interface wants. -/
def implementers (P : Program) (want : Array (String × TypeId)) : List TypeId :=
  (List.range P.types.size).filter fun t => match P.info? t with
    | some i => (match Instr.missingMethod want i.methods with | none => true | some _ => false) && (match P.underlying t with | some (.interface _) => false | _ => true)
    | none => false

/-- A type's zero value, its cells and its bytes. -/
def zeroOf (P : Program) (t : TypeId) : Option (Value × Nat × Nat) :=
  match P.info? t with
  | some i => match i.zero with
    | some z => if plainV z && z.cells.size == i.size then some (z, i.size, i.bytes) else none
    | none => none
  | none => none

def compBuiltin (P : Program) (b : Builtin) (ts : List TypeId) (args : List Operand) : Option COp :=
  match b, ts, args with
  | .len, [t], [x] => match P.underlying t with
    | some (.array n _) => some (.lenA n)
    | some d => some (.len d x)
    | none => none
  | .cap, [t], [x] => match P.underlying t with
    | some (.slice _) => some (.cap x)
    | _ => none
  | .append, [t, u], [s, x] => match P.underlying t, P.underlying u with
    | some (.slice e), some (.int _) => match zeroOf P e with
      | some (z, size, bytes) => if 0 < size && 0 < bytes then some (.appendN (isU8 P e && (match z with | .int .u8 0 => true | _ => false)) size bytes z.cells.toList s x) else none
      | none => none
    | some (.slice e), some d => match zeroOf P e, (match d with | .slice _ => true | .string => true | _ => false) with
      | some (_, size, bytes), true => if 0 < size && 0 < bytes then some (.append size bytes s x) else none
      | _, _ => none
    | _, _ => none
  | .copy, [t, _], [d, s] => match P.underlying t with
    | some (.slice e) => match P.info? e with
      | some i => if 0 < i.size then some (.copy i.size d s) else none
      | none => none
    | _ => none
  | .max, _, xs => some (.max xs)
  | .min, _, xs => some (.min xs)
  | .clear, [t], [x] => match P.underlying t with
    | some (.slice e) => match zeroOf P e with
      | some (z, size, _) => if 0 < size then some (.clear z.cells.toList x) else none
      | none => none
    | _ => none
  | _, _, _ => none

def compBin (P : Program) (op : BinOp) (t : TypeId) (x y : Operand) : Option COp :=
  match op with
  | .eql | .neq => match P.underlying t with
    | some (.int _) | some .string => some (.bin op x y)
    | some (.struct fs) =>
      if P.stoodInHeld t = false ∧ P.eqGuardType P.depth t = false then
        match flatFields P fs.toList with
        | some _ => some (.eqFlat (op == .neq) (fs.toList.filterMap fun f => (P.underlying f.type).map fun d => (f.offset, d)) x y)
        | none => none
      else none
    | some d => some (.eqNil (op == .neq) (isConstOp x || isConstOp y) d x y)
    | none => none
  | _ => some (.bin op x y)

def compConv (P : Program) (src dst : TypeId) (x : Operand) : Option COp :=
  match P.underlying src, P.underlying dst with
  | some .string, some (.slice e) => if isU8 P e then some (.toBytes x) else none
  | some (.slice e), some .string => if isU8 P e then some (.fromBytes x) else none
  | some .string, some .string => some (.toStr x)
  | some (.int _), some (.int k) => some (.toInt k x)
  | _, _ => none

def comp (P : Program) (gs : List Nat) (o : Oper) : Option COp :=
  if okOps gs o.op.operands.toList then
    match o.op with
    | .move x | .assign x => some (.mv x)
    | .pick c a b => some (.pick c a b)
    | .alloc t => match zeroOf P t with
      | some (z, _, _) => some (.alloc z.cells.toList)
      | none => none
    | .box _ x => some (.box x)
    | .build t parts => match P.underlying t, zeroOf P t with
      | some (.struct fs), some (z, _, _) => match placesOf P fs.toList with
        | some l => some (.build z.cells l parts.toList)
        | none => none
      | some (.array _ e), some (z, _, _) => match P.info? e with
        | some i => some (.buildArr z.cells i.size parts.toList)
        | none => none
      | _, _ => none
    | .buildSlice t len parts => match P.underlying t with
      | some (.slice e) => match zeroOf P e with
        | some (z, size, _) => if 0 < size then some (.buildSlice (isU8 P e && size == 1) size len z.cells.toList parts.toList) else none
        | none => none
      | _ => none
    | .load t x => match P.underlying t, P.info? t with
      | some d, some i => if aggD d then some (.loadN i.size x) else some (.load1 x)
      | _, _ => none
    | .store t a x => match P.info? t with
      | some i => some (.store i.size a x)
      | none => none
    | .nilCheck x => match P.underlying o.type with
      | some (.func ..) => some (.nilCheckM (directMethods P) x)
      | _ => some (.nilCheck x)
    | .binOp op t x y _ => compBin P op t x y
    | .unOp op _ x => some (.un op x)
    | .convert src dst x => compConv P src dst x
    | .makeInterface t x => match P.underlying t with
      | some (.interface _) => none
      | some _ => some (.mkIface t x)
      | none => none
    | .makeFunc (.yield _) _ _ => none
    | .makeFunc f first caps => some (.mkFunc f first.toList caps.toList)
    | .makeMap _ none => some .mkMap
    | .makeSlice t l c => match P.underlying t with
      | some (.slice e) => match zeroOf P e with
        | some (z, size, bytes) => if 0 < size then some (.mkSlice (isU8 P e && (match z with | .int .u8 0 => true | _ => false)) size bytes z.cells.toList l c) else none
        | none => none
      | _ => none
    | .slice t x lo hi mx => match P.underlying t with
      | some .string => if mx.isNone then some (.sliceS x lo hi) else none
      | some (.slice e) => match P.info? e with
        | some i => some (.slice i.size x lo hi mx)
        | none => none
      | some (.array n e) => match P.info? e with
        | some i => some (.sliceA n i.size x lo hi mx)
        | none => none
      | _ => none
    | .fieldAddr t x f => match P.underlying t with
      | some (.struct fs) => match fs[f]? with
        | some f => match P.info? f.type with
          | some i => if i.size ≠ 0 then some (.fieldAddr f.offset x) else none
          | none => none
        | none => none
      | _ => none
    | .field t x f => match P.underlying t with
      | some (.struct fs) => match fs[f]? with
        | some f => match P.underlying f.type, P.info? f.type with
          | some d, some i => some (.field (aggD d) f.offset i.size x)
          | _, _ => none
        | none => none
      | _ => none
    | .indexAddr t x i => match P.underlying t with
      | some (.slice e) => match P.info? e with
        | some ie => some (.indexAddr ie.size x i)
        | none => none
      | some (.array n e) => match P.info? e with
        | some ie => some (.indexAddrA n ie.size x i)
        | none => none
      | _ => none
    | .index t x i => match P.underlying t with
      | some .string => some (.indexS x i)
      | some (.array n e) => match P.underlying e, P.info? e with
        | some d, some ie => some (.indexA (aggD d) n ie.size x i)
        | _, _ => none
      | _ => none
    | .lookup t x k ok => match P.underlying t with
      | some (.map key elem) => match P.underlying key, zeroOf P elem with
        | some d, some (z, _, _) => some (.lookup d z ok x k)
        | _, _ => none
      | _ => none
    | .mapUpdate t m k v | .insert t m k v => match P.underlying t with
      | some (.map key _) => match P.underlying key with
        | some d => some (.mapUpdate d m k v)
        | none => none
      | _ => none
    | .extract x i => some (.extract x i)
    | .typeAssert x _ T ok => match P.underlying T, zeroOf P T with
      | some (.interface want), some (.nilIface, _, _) => some (.assertI (implementers P want) ok x)
      | some (.interface _), _ => none
      | some _, some (z, _, _) => some (.assert T z ok x)
      | _, _ => none
    | .call c => match c.callee with
      | .builtin b => compBuiltin P b c.argTypes.toList c.args.toList
      | .value (.func f) => match P.funcs[f]? with
        | some fn => if fn.body.isSome && fn.name != "runtime.NumGoroutine" then some (.call f c.args.toList) else none
        | none => none
      | .value x => some (.callV x c.args.toList)
      | .invoke r name => some (.callM (methodTable P name) r c.args.toList)
    | .panic x => some (.panic x)
    | _ => none
  else none

end
end Go.Ads
/- An operation whose types were looked up does to the world what it does to the abstract heap. -/
namespace Go.Ads
noncomputable section
variable {P : Program} {ρ : Ren} {H : AH} {w : World}

def StepOK (P : Program) (o : Oper) (ev' : Operand → Value) (ρ : Ren) (H : AH) (w : World) (v : Value) (H' : AH) : Prop :=
  ∃ ρ' v' w', ((execOp ev' o).run P w = .ok (.value v') w' ∨ ((execOp ev' o).run P w = .ok .skip w' ∧ v' = undef)) ∧ VRel ρ' v v' ∧ Went ρ H w ρ' H' w'

theorem StepOK.of_sem {o : Oper} {ev' : Operand → Value} {s : Sem Value} {v : Value} {H' : AH} (h : SemOK P s ρ H w v H')
    (hx : ∀ w, (execOp ev' o).run P w = (s.run P w).andThen fun v w => .ok (.value v) w) : StepOK P o ev' ρ H w v H' := by
  obtain ⟨ρ', v', w', hr, hv, hw⟩ := h
  exact ⟨ρ', v', w', .inl (by rw [hx, hr]; rfl), hv, hw⟩

theorem StepOK.of_semu {o : Oper} {ev' : Operand → Value} {s : Sem Unit} {H' : AH} (h : SemOKu P s ρ H w H')
    (hx : ∀ w, (execOp ev' o).run P w = (s.run P w).andThen fun _ w => .ok .skip w) : StepOK P o ev' ρ H w undef H' := by
  obtain ⟨ρ', w', hr, hw⟩ := h
  exact ⟨ρ', undef, w', .inr ⟨by rw [hx, hr]; rfl, rfl⟩, vrel_undef _, hw⟩

theorem withH_some {H H' : AH} {x : Option Value} {v : Value} (h : withH H x = some (v, H')) : x = some v ∧ H' = H := by
  cases x with
  | none => cases h
  | some u => simp only [withH, Option.some.injEq, Prod.mk.injEq] at h; obtain ⟨rfl, rfl⟩ := h; exact ⟨rfl, rfl⟩
theorem noVal_some {H' : AH} {x : Option AH} {v : Value} (h : noVal x = some (v, H')) : x = some H' ∧ v = undef := by
  cases x with
  | none => cases h
  | some u => simp only [noVal, Option.some.injEq, Prod.mk.injEq] at h; obtain ⟨rfl, rfl⟩ := h; exact ⟨rfl, rfl⟩

theorem zeroOf_spec {t : TypeId} {z : Value} {size bytes : Nat} (h : zeroOf P t = some (z, size, bytes)) : ∃ i, P.info? t = some i ∧ i.zero = some z ∧ i.size = size ∧ i.bytes = bytes ∧ z.cells.size = i.size ∧ plainV z = true := by
  unfold zeroOf at h
  split at h
  · rename_i i hi
    split at h
    · rename_i z' hz
      split at h
      · rename_i hp
        simp only [Option.some.injEq, Prod.mk.injEq] at h
        obtain ⟨rfl, rfl, rfl⟩ := h
        simp only [Bool.and_eq_true, beq_iff_eq] at hp
        exact ⟨i, hi, hz, rfl, rfl, hp.2, hp.1⟩
      · cases h
    · cases h
  · cases h

variable {ev ev' : Operand → Value} {gs : List Nat}

theorem ORel.map_ev (hev : ∀ x, okOp gs x = true → VRel ρ (ev x) (ev' x)) {x : Option Operand} (h : okOps gs x.toList = true) : ORel ρ (x.map ev) (x.map ev') := by
  cases x with
  | none => exact .none
  | some x => simp only [Option.toList_some, okOps, Bool.and_eq_true] at h; exact .some (hev x h.1)

theorem okOps_append : ∀ (l l2 : List Operand), okOps gs (l ++ l2) = (okOps gs l && okOps gs l2) := by
  intro l
  induction l with
  | nil => intro l2; simp [okOps]
  | cons x l ih => intro l2; simp [okOps, ih, Bool.and_assoc]

theorem VRels.map_ev (hev : ∀ x, okOp gs x = true → VRel ρ (ev x) (ev' x)) : ∀ {l : List Operand}, okOps gs l = true → VRels ρ (l.map ev) (l.map ev') := by
  intro l
  induction l with
  | nil => intro _; exact .nil
  | cons x l ih =>
    intro h
    simp only [okOps, Bool.and_eq_true] at h
    exact .cons (hev x h.1) (ih h.2)

theorem PRel.map_ev (hev : ∀ x, okOp gs x = true → VRel ρ (ev x) (ev' x)) : ∀ {l : Parts}, okOps gs (l.map (·.2)) = true → PRel ρ (evalParts ev l) (l.map fun p => (p.1, ev' p.2)) := by
  intro l
  induction l with
  | nil => intro _; exact .nil
  | cons x l ih =>
    intro h
    simp only [List.map_cons, okOps, Bool.and_eq_true] at h
    obtain ⟨i, x⟩ := x
    exact .cons (hev x h.1) (ih h.2)

theorem isU8_spec {e : TypeId} (h : isU8 P e = true) : P.underlying e = some (.int .u8) := by
  unfold isU8 at h; split at h
  · assumption
  · cases h

theorem builtin_ok (hw : Rel ρ H w) (hev : ∀ x, okOp gs x = true → VRel ρ (ev x) (ev' x)) {b : Builtin} {ts : Array TypeId} {ty : TypeId} {args : Array Operand} {c : COp} {v : Value} {H' : AH} {k : Array Bool}
    (hops : okOps gs args.toList = true) (hc : compBuiltin P b ts.toList args.toList = some c) (hr : c.run ev H = some (v, H')) :
    ∃ s, SemOK P s ρ H w v H' ∧ ∀ w, (builtin b ts ty k (args.map ev')).run P w = (s.run P w).andThen fun v w => .ok (.value v) w := by
  obtain ⟨ts⟩ := ts
  obtain ⟨args⟩ := args
  simp only at hc hops
  unfold compBuiltin at hc
  split at hc
  · rename_i t x
    simp only [okOps, Bool.and_eq_true] at hops
    split at hc
    · rename_i n e ht
      simp only [Option.some.injEq] at hc; subst hc
      simp only [COp.run, Option.some.injEq, Prod.mk.injEq] at hr
      obtain ⟨rfl, rfl⟩ := hr
      exact ⟨Builtin.len_ #[t] ty #[ev' x], lenArr_ok hw ht (ev' x), fun w => by simp [builtin]⟩
    · rename_i d hn ht
      simp only [Option.some.injEq] at hc; subst hc
      simp only [COp.run] at hr
      split at hr
      · rename_i hk
        obtain ⟨h1, rfl⟩ := withH_some hr
        exact ⟨Builtin.len_ #[t] ty #[ev' x], len_ok hw ht hk (hev x hops.1) h1, fun w => by simp [builtin]⟩
      · cases hr
    · cases hc
  · rename_i t x
    simp only [okOps, Bool.and_eq_true] at hops
    split at hc
    · rename_i e ht
      simp only [Option.some.injEq] at hc; subst hc
      obtain ⟨h1, rfl⟩ := withH_some hr
      exact ⟨Builtin.cap_ #[t] ty #[ev' x], cap_ok hw ht (hev x hops.1) h1, fun w => by simp [builtin]⟩
    · cases hc
  · rename_i t u s x
    simp only [okOps, Bool.and_eq_true] at hops
    split at hc
    · rename_i e kk ht hu
      split at hc
      · rename_i z size bytes hz
        split at hc
        · rename_i hpos
          simp only [Bool.and_eq_true, decide_eq_true_eq] at hpos
          simp only [Option.some.injEq] at hc; subst hc
          obtain ⟨i, hi, hiz, rfl, rfl, hzc, hzp⟩ := zeroOf_spec hz
          simp only [COp.run] at hr
          refine ⟨Builtin.append_ #[t, u] ty #[ev' s, ev' x], appendN_ok hw ht hu hi hiz hzc hpos.1 hpos.2 (plainV_rel hzp) (fun h8 => ?_) (hev s hops.1) (hev x hops.2.1) hr, fun w => by simp [builtin]⟩
          simp only [Bool.and_eq_true] at h8
          have h9 := h8.2
          split at h9
          · rfl
          · cases h9
        · cases hc
      · cases hc
    · rename_i e d _ ht hu
      split at hc
      · rename_i z size bytes hz hd
        split at hc
        · rename_i hpos
          simp only [Bool.and_eq_true, decide_eq_true_eq] at hpos
          simp only [Option.some.injEq] at hc; subst hc
          obtain ⟨i, hi, hiz, rfl, rfl, hzc, hzp⟩ := zeroOf_spec hz
          simp only [COp.run] at hr
          split at hr
          · rename_i n ch hch
            obtain ⟨vs', hrs, hlen, hsrc⟩ := chunkOf_src hw (hev x hops.2.1) hch
            have hu' : (∃ e2, P.underlying u = some (.slice e2)) ∨ P.underlying u = some .string := by
              split at hd
              · exact .inl ⟨_, hu⟩
              · exact .inr hu
              · cases hd
            exact ⟨Builtin.append_ #[t, u] ty #[ev' s, ev' x], append_ok hw ht hu' hi hiz hzc hpos.1 hpos.2 (hev s hops.1) hrs hlen hsrc hr, fun w => by simp [builtin]⟩
          · cases hr
        · cases hc
      · cases hc
    · cases hc
  · rename_i t u d s
    simp only [okOps, Bool.and_eq_true] at hops
    split at hc
    · rename_i e ht
      split at hc
      · rename_i i hi
        split at hc
        · rename_i hpos
          simp only [Option.some.injEq] at hc; subst hc
          exact ⟨Builtin.copy_ #[t, u] ty #[ev' d, ev' s], copy_ok hw ht hi hpos (hev d hops.1) (hev s hops.2.1) hr, fun w => by simp [builtin]⟩
        · cases hc
      · cases hc
    · cases hc
  · simp only [Option.some.injEq] at hc; subst hc
    obtain ⟨h1, rfl⟩ := withH_some hr
    refine ⟨Builtin.max_ ⟨ts⟩ ty (args.map ev').toArray, max_ok hw (VRels.map_ev hev hops) h1, fun w => by simp [builtin]⟩
  · simp only [Option.some.injEq] at hc; subst hc
    obtain ⟨h1, rfl⟩ := withH_some hr
    refine ⟨Builtin.min_ ⟨ts⟩ ty (args.map ev').toArray, min_ok hw (VRels.map_ev hev hops) h1, fun w => by simp [builtin]⟩
  · rename_i t x
    simp only [okOps, Bool.and_eq_true] at hops
    split at hc
    · rename_i e ht
      split at hc
      · rename_i z size bytes hz
        split at hc
        · rename_i hpos
          simp only [Option.some.injEq] at hc; subst hc
          obtain ⟨i, hi, hiz, rfl, rfl, hzc, hzp⟩ := zeroOf_spec hz
          obtain ⟨h1, rfl⟩ := noVal_some hr
          exact ⟨Builtin.clear_ #[t] ty #[ev' x], clear_ok hw ht hi hiz (plainV_rel hzp) (by omega) (hev x hops.1) h1, fun w => by simp [builtin]⟩
        · cases hc
      · cases hc
    · cases hc
  · cases hc

theorem run_v (s : Sem Value) (w : World) : ((do pure (.value (← s)) : Sem Next)).run P w = (s.run P w).andThen fun v w => .ok (.value v) w := by simp
theorem run_u (s : Sem Unit) (w : World) : ((do s; pure .skip : Sem Next)).run P w = (s.run P w).andThen fun _ w => .ok .skip w := by simp

theorem conv_ok (hw : Rel ρ H w) (hev : ∀ x, okOp gs x = true → VRel ρ (ev x) (ev' x)) {src dst : TypeId} {x : Operand} {c : COp} {v : Value} {H' : AH} (hx : okOp gs x = true) (hc : compConv P src dst x = some c)
    (hr : c.run ev H = some (v, H')) : SemOK P (convert src dst (ev' x)) ρ H w v H' := by
  unfold compConv at hc
  split at hc
  · rename_i e hs hd
    split at hc
    · rename_i hu
      simp only [Option.some.injEq] at hc; subst hc
      exact toBytes_ok hw hs hd (isU8_spec hu) (hev x hx) hr
    · cases hc
  · rename_i e hs hd
    split at hc
    · rename_i hu
      simp only [Option.some.injEq] at hc; subst hc
      obtain ⟨h1, rfl⟩ := withH_some hr
      exact fromBytes_ok hw hs (isU8_spec hu) hd (hev x hx) h1
    · cases hc
  · rename_i hs hd
    simp only [Option.some.injEq] at hc; subst hc
    obtain ⟨h1, rfl⟩ := withH_some hr
    exact toStr_ok hw hs hd (hev x hx) h1
  · rename_i hs hd
    simp only [Option.some.injEq] at hc; subst hc
    obtain ⟨h1, rfl⟩ := withH_some hr
    exact toInt_ok hw hs hd (hev x hx) h1
  · cases hc

theorem cellsFitL_spec : ∀ {fs : List Field} {l : List Nat} {xs : Array Value}, flatFields P fs = some l → cellsFitL (fs.filterMap fun f => (P.underlying f.type).map fun d => (f.offset, d)) xs = true →
    cellsFit P fs xs = true ∧ (fs.filterMap fun f => (P.underlying f.type).map fun d => (f.offset, d)).map (·.1) = l := by
  intro fs
  induction fs with
  | nil => intro l xs h _; simp only [flatFields, Option.some.injEq] at h; subst h; exact ⟨rfl, rfl⟩
  | cons f fs ih =>
    intro l xs h hc
    simp only [flatFields] at h
    split at h
    · rename_i d l2 hd hl
      split at h
      · simp only [Option.some.injEq] at h; subst h
        simp only [List.filterMap_cons, hd, Option.map_some, cellsFitL, Bool.and_eq_true] at hc
        obtain ⟨h1, h2⟩ := ih hl hc.2
        refine ⟨?_, by simp [hd, h2]⟩
        simp only [cellsFit, hd, Bool.and_eq_true]
        refine ⟨?_, h1⟩
        cases hx : xs[f.offset]? with
        | none => rw [hx] at hc; simp at hc
        | some v => rw [hx] at hc; exact hc.1
      · cases h
    · cases h

theorem binary_ok (hw : Rel ρ H w) (hev : ∀ x, okOp gs x = true → VRel ρ (ev x) (ev' x)) {op : BinOp} {t : TypeId} {x y : Operand} {c : COp} {v : Value} {H' : AH} (hx : okOp gs x = true) (hy : okOp gs y = true)
    (hc : compBin P op t x y = some c) (hr : c.run ev H = some (v, H')) : SemOK P (do eqGuard op t x y (ev' x) (ev' y); binOp op t (ev' x) (ev' y)) ρ H w v H' := by
  have hbin : ∀ {c : COp}, some (COp.bin op x y) = some c → c.run ev H = some (v, H') → SemOK P (do eqGuard op t x y (ev' x) (ev' y); binOp op t (ev' x) (ev' y)) ρ H w v H' := by
    intro c hc hr
    simp only [Option.some.injEq] at hc; subst hc
    obtain ⟨h1, rfl⟩ := withH_some hr
    exact bin_ok hw (hev x hx) (hev y hy) h1 t x y
  have heq : ∀ neg : Bool, op = (if neg then .neq else .eql) → (op == BinOp.neq) = neg → (match P.underlying t with
    | some (.int _) | some .string => some (COp.bin op x y)
    | some (.struct fs) =>
      if P.stoodInHeld t = false ∧ P.eqGuardType P.depth t = false then
        match flatFields P fs.toList with
        | some _ => some (.eqFlat (op == .neq) (fs.toList.filterMap fun f => (P.underlying f.type).map fun d => (f.offset, d)) x y)
        | none => none
      else none
    | some d => some (.eqNil (op == .neq) (isConstOp x || isConstOp y) d x y)
    | none => none) = some c → SemOK P (do eqGuard op t x y (ev' x) (ev' y); binOp op t (ev' x) (ev' y)) ρ H w v H' := by
    intro neg ho hn hc
    split at hc
    · exact hbin hc hr
    · exact hbin hc hr
    · rename_i fs ht
      split at hc
      · rename_i hst
        split at hc
        · rename_i l hl
          simp only [Option.some.injEq] at hc; subst hc
          simp only [COp.run] at hr
          split at hr
          · rename_i hfit
            obtain ⟨h1, rfl⟩ := withH_some hr
            obtain ⟨h2, h3⟩ := cellsFitL_spec (P := P) hl hfit
            rw [h3, hn] at h1
            have hfs : P.fieldsOf t = fs := by simp [Program.fieldsOf, ht]
            subst hfs
            subst ho
            exact eqFlat_ok hw ht hl hst.1 hst.2 (hev x hx) (hev y hy) h2 h1
          · cases hr
        · cases hc
      · cases hc
    · rename_i d ht _ _ _
      simp only [Option.some.injEq] at hc; subst hc
      simp only [COp.run] at hr
      split at hr
      · rename_i hk
        obtain ⟨h1, rfl⟩ := withH_some hr
        rw [hn] at h1
        subst ho
        exact eqNil_ok hw (by assumption) (hev x hx) (hev y hy) hk h1
      · cases hr
    · cases hc
  unfold compBin at hc
  split at hc
  · exact heq false rfl rfl hc
  · exact heq true rfl rfl hc
  · exact hbin hc hr

end
end Go.Ads
/- Every operation whose types were looked up does to the world what it does to the abstract heap. -/
namespace Go.Ads
noncomputable section
variable {P : Program} {ρ : Ren} {H : AH} {w : World} {ev ev' : Operand → Value} {gs : List Nat}

theorem ptr_inv {a : Addr} {x' : Value} (h : VRel ρ (.pointer (some a)) x') : ∃ a', x' = .pointer (some a') ∧ AddrRel ρ a a' := by
  cases h with | ptr h => exact ⟨_, rfl, h⟩

theorem nilCheck_ok {x x' v : Value} (hx : VRel ρ x x') (hs : anilCheck x = some v) (o : Oper) (y : Operand) (ho : o.op = .nilCheck y) (he : ev' y = x') (w : World) :
    ∃ v', (execOp ev' o).run P w = .ok (.value v') w ∧ VRel ρ v v' := by
  subst he
  unfold anilCheck at hs
  split at hs
  · simp only [Option.some.injEq] at hs; subst hs
    obtain ⟨a', e, ha⟩ := ptr_inv hx
    exact ⟨_, by simp only [execOp, ho, e]; rfl, .ptr ha⟩
  · simp only [Option.some.injEq] at hs; subst hs
    generalize hz : ev' y = z at hx
    cases hx with | iface _ h => exact ⟨_, by simp only [execOp, ho, hz]; rfl, .iface _ h⟩
  · simp only [Option.some.injEq] at hs; subst hs
    generalize hz : ev' y = z at hx
    cases hx with | func f hy h k => exact ⟨_, by simp only [execOp, ho, hz]; rfl, .func _ hy h k⟩
  · simp only [Option.some.injEq] at hs; subst hs
    generalize hz : ev' y = z at hx
    cases hx with | func f hy h k => exact ⟨_, by simp only [execOp, ho, hz]; rfl, .func _ hy h k⟩
  · simp only [Option.some.injEq] at hs; subst hs
    generalize hz : ev' y = z at hx
    cases hx with
    | sl h => exact ⟨_, by simp only [execOp, ho, hz]; rfl, .sl h⟩
    | slEnd h1 h2 h3 h4 => exact ⟨_, by simp only [execOp, ho, hz]; rfl, .slEnd h1 h2 h3 h4⟩
  · cases hs

theorem directMethods_spec {t : TypeId} {name : String} (h : (directMethods P).contains (t, name) = true) : ∃ i m f, P.info? t = some i ∧ i.methods.find? (·.name == name) = some m ∧ m.path.isEmpty = true ∧ m.func = some (f, true) := by
  have h : (t, name) ∈ directMethods P := by simpa using h
  unfold directMethods at h
  rw [List.mem_flatMap] at h
  obtain ⟨u, _, hu⟩ := h
  split at hu
  · rename_i i hi
    rw [List.mem_map] at hu
    obtain ⟨m, hm, he⟩ := hu
    simp only [Prod.mk.injEq] at he
    obtain ⟨rfl, rfl⟩ := he
    rw [List.mem_filter] at hm
    have hm2 := hm.2
    simp only [Bool.and_eq_true] at hm2
    have h3 := hm2.2
    split at h3
    · rename_i m' hf
      simp only [Bool.and_eq_true] at h3
      have h4 := h3.2
      split at h4
      · rename_i f hfn; exact ⟨i, m', f, hi, hf, h3.1, hfn⟩
      · cases h4
    · cases h3
  · cases hu

theorem nilCheckM_ok {x x' v : Value} (hx : VRel ρ x x') (hs : anilCheckM (directMethods P) x = some v) (o : Oper) (y : Operand) (ho : o.op = .nilCheck y) (he : ev' y = x') (w : World) :
    ∃ v', (execOp ev' o).run P w = .ok (.value v') w ∧ VRel ρ v v' := by
  unfold anilCheckM at hs
  split at hs
  · rename_i name first caps
    split at hs
    · rename_i t u l hf
      split at hs
      · rename_i hc
        simp only [Option.some.injEq] at hs; subst hs
        obtain ⟨i, m, f, hi, hm, hp, hfn⟩ := directMethods_spec hc
        cases hx with
        | @func _ hy _ _ xs' ys' h k =>
          rw [hf] at h
          obtain ⟨n, hn⟩ : ∃ n, P.types.size + Made.depth = n + 1 := ⟨P.types.size + (Made.depth - 1), by
            have : 0 < Made.depth := by decide
            omega⟩
          have hpath : m.path = #[] := by simpa using hp
          have hna : ∀ u', (nilAhead (P.types.size + Made.depth) t u' name).run P w = .ok (some false) w := by
            intro u'
            rw [hn]; unfold nilAhead
            simp [typeInfo, hi, hm, hpath, followBlind, hfn]
          generalize hz : xs'.toList = zs at h
          cases h with
          | cons h1 h2 =>
            cases h1 with
            | @iface _ _ u' hu =>
              have h0 : xs'[0]? = some (.iface t u') := by rw [← Array.getElem?_toList, hz]; rfl
              refine ⟨.func (.method name) xs' ys', ?_, .func _ hy (by rw [hz]; exact .cons (.iface t hu) h2) k⟩
              simp only [execOp, ho, he, h0]
              simp [hna]
      · cases hs
    · cases hs
  · exact nilCheck_ok hx hs o y ho he w

theorem implementers_spec {want : Array (String × TypeId)} {t : TypeId} (h : (implementers P want).contains t = true) : ∃ i, P.info? t = some i ∧ Instr.missingMethod want i.methods = none := by
  have h : t ∈ implementers P want := by simpa using h
  unfold implementers at h
  rw [List.mem_filter] at h
  have h2 := h.2
  split at h2
  · rename_i i hi
    simp only [Bool.and_eq_true] at h2
    have h3 := h2.1
    split at h3
    · rename_i hm; exact ⟨i, hi, hm⟩
    · cases h3
  · cases h2

theorem assertI_ok (h : Rel ρ H w) {xt T : TypeId} {want : Array (String × TypeId)} {i : TypeInfo} (ht : P.underlying T = some (.interface want)) (hi : P.info? T = some i) (hz : i.zero = some .nilIface) {ok : Bool} {x x' v : Value}
    (hx : VRel ρ x x') (hs : aassertI (implementers P want) ok x = some v) : SemOK P (Instr.typeAssert x' xt T ok) ρ H w v H := by
  unfold aassertI at hs
  split at hs
  · rename_i t u
    cases hx with
    | @iface _ _ u' hu =>
      split at hs
      · rename_i hc
        obtain ⟨i', hi', hm⟩ := implementers_spec hc
        simp only [Option.some.injEq] at hs; subst hs
        cases ok with
        | true =>
          refine SemOK.same h (v' := .tuple #[.iface t u', .bool true]) ?_ (.tuple (.cons (.iface t hu) (.cons (.bool _) .nil)))
          simp [Instr.typeAssert, run_underlying ht, typeInfo, hi', hm]
        | false =>
          refine SemOK.same h (v' := .iface t u') ?_ (.iface t hu)
          simp [Instr.typeAssert, run_underlying ht, typeInfo, hi', hm]
      · cases hs
  · cases hx with
    | nilIface =>
      cases ok with
      | true =>
        simp only [cond_true, Option.some.injEq] at hs; subst hs
        refine SemOK.same h (v' := .tuple #[.nilIface, .bool false]) ?_ (.tuple (.cons .nilIface (.cons (.bool _) .nil)))
        simp [Instr.typeAssert, run_underlying ht, zeroValue, typeInfo, hi, hz]
      | false => cases hs
  · cases hs

theorem comp_ok (hw : Rel ρ H w) (hev : ∀ x, okOp gs x = true → VRel ρ (ev x) (ev' x)) {o : Oper} {c : COp} {v : Value} {H' : AH} (hc : comp P gs o = some c) (hr : c.run ev H = some (v, H')) :
    StepOK P o ev' ρ H w v H' := by
  unfold comp at hc
  by_cases hops : okOps gs o.op.operands.toList = true
  case neg => rw [if_neg hops] at hc; cases hc
  rw [if_pos hops] at hc
  split at hc
  · -- move
    rename_i x ho
    simp only [Option.some.injEq] at hc; subst hc
    simp only [COp.run, Option.some.injEq, Prod.mk.injEq] at hr
    obtain ⟨rfl, rfl⟩ := hr
    rw [ho] at hops; simp only [Op.operands, okOps, Bool.and_eq_true] at hops
    exact ⟨ρ, ev' x, w, .inl (by simp only [execOp, ho]; rfl), hev x hops.1, Went.refl hw⟩
  · rename_i x ho
    simp only [Option.some.injEq] at hc; subst hc
    simp only [COp.run, Option.some.injEq, Prod.mk.injEq] at hr
    obtain ⟨rfl, rfl⟩ := hr
    rw [ho] at hops; simp only [Op.operands, okOps, Bool.and_eq_true] at hops
    exact ⟨ρ, ev' x, w, .inl (by simp only [execOp, ho]; rfl), hev x hops.1, Went.refl hw⟩
  · -- pick
    rename_i c a b ho
    simp only [Option.some.injEq] at hc; subst hc
    obtain ⟨h1, rfl⟩ := withH_some hr
    rw [ho] at hops; simp only [Op.operands, okOps, Bool.and_eq_true] at hops
    have hcv := hev c hops.1
    unfold apick at h1
    split at h1
    · rename_i hcb
      simp only [Option.some.injEq] at h1; subst h1
      rw [hcb] at hcv
      exact ⟨ρ, ev' a, w, .inl (by simp [execOp, ho, hcv.bool_inv, asBool]), hev a hops.2.1, Went.refl hw⟩
    · rename_i hcb
      simp only [Option.some.injEq] at h1; subst h1
      rw [hcb] at hcv
      exact ⟨ρ, ev' b, w, .inl (by simp [execOp, ho, hcv.bool_inv, asBool]), hev b hops.2.2.1, Went.refl hw⟩
    · cases h1
  · -- alloc
    rename_i t ho
    split at hc
    · rename_i z _ _ hz
      simp only [Option.some.injEq] at hc; subst hc
      simp only [COp.run, Option.some.injEq, Prod.mk.injEq] at hr
      obtain ⟨rfl, rfl⟩ := hr
      obtain ⟨i, hi, hiz, _, _, _, hzp⟩ := zeroOf_spec hz
      exact .of_sem (alloc_ok hw hi hiz (plainV_rel hzp) (.tuple #[])) fun w => by rw [← run_v]; simp only [execOp, ho]
    · cases hc
  · -- box
    rename_i t x ho
    simp only [Option.some.injEq] at hc; subst hc
    simp only [COp.run, Option.some.injEq, Prod.mk.injEq] at hr
    obtain ⟨rfl, rfl⟩ := hr
    rw [ho] at hops; simp only [Op.operands, okOps, Bool.and_eq_true] at hops
    exact .of_sem (box_ok hw t (hev x hops.1)) fun w => by rw [← run_v]; simp only [execOp, ho]
  · -- build
    rename_i t parts ho
    rw [ho] at hops
    simp only [Op.operands] at hops
    have hps := PRel.map_ev hev (l := parts.toList) hops
    have hmap : (parts.map fun (x : Nat × Operand) => (x.1, ev' x.2)) = (parts.toList.map fun p => (p.1, ev' p.2)).toArray := by apply Array.ext'; simp
    split at hc
    · rename_i fs z _ _ ht hz
      split at hc
      · rename_i l hl
        simp only [Option.some.injEq] at hc; subst hc
        obtain ⟨h1, rfl⟩ := withH_some hr
        obtain ⟨i, hi, hiz, _, _, _, hzp⟩ := zeroOf_spec hz
        exact .of_sem (build_ok hw ht hi hiz hl (plainV_rel hzp) hps h1) fun w => by rw [← run_v]; simp only [execOp, ho, hmap]
      · cases hc
    · rename_i n e z _ _ ht hz
      split at hc
      · rename_i ie he
        simp only [Option.some.injEq] at hc; subst hc
        obtain ⟨h1, rfl⟩ := withH_some hr
        obtain ⟨i, hi, hiz, _, _, _, hzp⟩ := zeroOf_spec hz
        exact .of_sem (buildArr_ok hw ht hi hiz he (plainV_rel hzp) hps h1) fun w => by rw [← run_v]; simp only [execOp, ho, hmap]
      · cases hc
    · cases hc
  · -- buildSlice
    rename_i t len parts ho
    rw [ho] at hops
    simp only [Op.operands] at hops
    have hps := PRel.map_ev hev (l := parts.toList) hops
    have hmap : (parts.map fun (x : Nat × Operand) => (x.1, ev' x.2)) = (parts.toList.map fun p => (p.1, ev' p.2)).toArray := by apply Array.ext'; simp
    split at hc
    · rename_i e ht
      split at hc
      · rename_i z size _ hz
        split at hc
        · rename_i hpos
          simp only [Option.some.injEq] at hc; subst hc
          obtain ⟨i, hi, hiz, rfl, _, hzc, hzp⟩ := zeroOf_spec hz
          exact .of_sem (buildSlice_ok hw ht hi hiz hzc hpos (plainV_rel hzp) _ (fun h => by simp only [Bool.and_eq_true, beq_iff_eq] at h; exact h.2) hps hr) fun w => by rw [← run_v]; simp only [execOp, ho, hmap]
        · cases hc
      · cases hc
    · cases hc
  · -- load
    rename_i t x ho
    rw [ho] at hops; simp only [Op.operands, okOps, Bool.and_eq_true] at hops
    have hx := hev x hops.1
    split at hc
    · rename_i d i ht hi
      split at hc
      · rename_i hag
        simp only [Option.some.injEq] at hc; subst hc
        simp only [COp.run] at hr
        split at hr
        · rename_i a hea
          rw [hea] at hx
          obtain ⟨a', ea, ha⟩ := ptr_inv hx
          split at hr
          · rename_i ob hob
            split at hr
            · rename_i ch hch
              simp only [Option.some.injEq, Prod.mk.injEq] at hr
              obtain ⟨rfl, rfl⟩ := hr
              exact .of_sem (loadN_ok hw ht hi hag ha hob hch) fun w => by rw [← run_v]; simp only [execOp, ho, ea]
            · cases hr
          · cases hr
        · cases hr
      · rename_i hag
        simp only [Option.some.injEq] at hc; subst hc
        simp only [COp.run] at hr
        split at hr
        · rename_i a hea
          rw [hea] at hx
          obtain ⟨a', ea, ha⟩ := ptr_inv hx
          split at hr
          · rename_i ob hob
            obtain ⟨h1, rfl⟩ := withH_some hr
            exact .of_sem (load1_ok hw ht (by simpa using hag) ha hob h1) fun w => by rw [← run_v]; simp only [execOp, ho, ea]
          · cases hr
        · cases hr
    · cases hc
  · -- store
    rename_i t a x ho
    rw [ho] at hops; simp only [Op.operands, okOps, Bool.and_eq_true] at hops
    have ha0 := hev a hops.1
    split at hc
    · rename_i i hi
      simp only [Option.some.injEq] at hc; subst hc
      simp only [COp.run] at hr
      split at hr
      · rename_i p hep
        rw [hep] at ha0
        obtain ⟨a', ea, ha⟩ := ptr_inv ha0
        split at hr
        · rename_i ob hob
          split at hr
          · rename_i hsz
            obtain ⟨h1, rfl⟩ := noVal_some hr
            cases hp : ob.put p.off (.vals (ev x).cells.toList) with
            | none => rw [hp] at h1; cases h1
            | some o' =>
              rw [hp] at h1
              simp only [Option.map_some, Option.some.injEq] at h1; subst h1
              exact .of_semu (store_ok hw hi hsz ha hob hp (hev x hops.2.1)) fun w => by rw [← run_u]; simp only [execOp, ho, ea]
          · cases hr
        · cases hr
      · cases hr
    · cases hc
  · -- nilCheck
    rename_i x ho
    rw [ho] at hops; simp only [Op.operands, okOps, Bool.and_eq_true] at hops
    split at hc
    · simp only [Option.some.injEq] at hc; subst hc
      obtain ⟨h1, rfl⟩ := withH_some hr
      obtain ⟨v', h2, h3⟩ := nilCheckM_ok (P := P) (hev x hops.1) h1 o x ho rfl w
      exact ⟨ρ, v', w, .inl h2, h3, Went.refl hw⟩
    · simp only [Option.some.injEq] at hc; subst hc
      obtain ⟨h1, rfl⟩ := withH_some hr
      obtain ⟨v', h2, h3⟩ := nilCheck_ok (P := P) (hev x hops.1) h1 o x ho rfl w
      exact ⟨ρ, v', w, .inl h2, h3, Went.refl hw⟩
  · -- binOp
    rename_i op t x y _ ho
    rw [ho] at hops; simp only [Op.operands, okOps, Bool.and_eq_true] at hops
    exact .of_sem (binary_ok hw hev hops.1 hops.2.1 hc hr) fun w => by rw [← run_v]; simp only [execOp, ho]
  · -- unOp
    rename_i op t x ho
    rw [ho] at hops; simp only [Op.operands, okOps, Bool.and_eq_true] at hops
    simp only [Option.some.injEq] at hc; subst hc
    obtain ⟨h1, rfl⟩ := withH_some hr
    exact .of_sem (un_ok hw (hev x hops.1) h1) fun w => by rw [← run_v]; simp only [execOp, ho]
  · -- convert
    rename_i src dst x ho
    rw [ho] at hops; simp only [Op.operands, okOps, Bool.and_eq_true] at hops
    exact .of_sem (conv_ok hw hev hops.1 hc hr) fun w => by rw [← run_v]; simp only [execOp, ho]
  · -- makeInterface
    rename_i t x ho
    rw [ho] at hops; simp only [Op.operands, okOps, Bool.and_eq_true] at hops
    split at hc
    · cases hc
    · rename_i d hn hd
      simp only [Option.some.injEq] at hc; subst hc
      simp only [COp.run, Option.some.injEq, Prod.mk.injEq] at hr
      obtain ⟨rfl, rfl⟩ := hr
      refine ⟨ρ, .iface t (ev' x), w, .inl ?_, .iface t (hev x hops.1), Went.refl hw⟩
      simp only [execOp, ho]
      cases d <;> first | exact absurd rfl (hn _) | simp [Instr.makeInterface, run_underlying (by assumption)]
    · cases hc
  · cases hc
  · -- makeFunc
    rename_i f first caps hy ho
    rw [ho] at hops
    simp only [Op.operands, Array.toList_append, okOps_append, Bool.and_eq_true] at hops
    simp only [Option.some.injEq] at hc; subst hc
    simp only [COp.run, Option.some.injEq, Prod.mk.injEq] at hr
    obtain ⟨rfl, rfl⟩ := hr
    refine ⟨ρ, .func f (first.map ev') (caps.map ev'), w, .inl (by simp only [execOp, ho]; rfl), .func f hy ?_ ?_, Went.refl hw⟩
    · simpa using VRels.map_ev hev hops.1
    · simpa using VRels.map_ev hev hops.2
  · -- makeMap
    rename_i t ho
    simp only [Option.some.injEq] at hc; subst hc
    simp only [COp.run, Option.some.injEq, Prod.mk.injEq] at hr
    obtain ⟨rfl, rfl⟩ := hr
    exact .of_sem (makeMap_ok hw) fun w => by rw [← run_v]; simp only [execOp, ho]; rfl
  · -- makeSlice
    rename_i t l c ho
    rw [ho] at hops; simp only [Op.operands, okOps, Bool.and_eq_true] at hops
    split at hc
    · rename_i e ht
      split at hc
      · rename_i z size bytes hz
        split at hc
        · rename_i hpos
          simp only [Option.some.injEq] at hc; subst hc
          obtain ⟨i, hi, hiz, rfl, rfl, hzc, hzp⟩ := zeroOf_spec hz
          refine .of_sem (makeSlice_ok hw ht hi hiz hzc hpos (plainV_rel hzp) ?_ (hev l hops.1) (hev c hops.2.1) hr) fun w => by rw [← run_v]; simp only [execOp, ho]
          intro h
          simp only [Bool.and_eq_true] at h
          have h2 := h.2
          split at h2
          · rfl
          · cases h2
        · cases hc
      · cases hc
    · cases hc
  · -- slice
    rename_i t x lo hi mx ho
    rw [ho] at hops
    simp only [Op.operands, Array.toList_append, okOps_append, okOps, Bool.and_eq_true] at hops
    obtain ⟨⟨⟨hx, hlo⟩, hhi⟩, hmx⟩ := hops
    have hlo' := ORel.map_ev hev (x := lo) (by simpa using hlo)
    have hhi' := ORel.map_ev hev (x := hi) (by simpa using hhi)
    have hmx' := ORel.map_ev hev (x := mx) (by simpa using hmx)
    split at hc
    · rename_i ht
      split at hc
      · rename_i hnm
        simp only [Option.some.injEq] at hc; subst hc
        obtain ⟨h1, rfl⟩ := withH_some hr
        have hmn : mx = none := by cases mx with
          | none => rfl
          | some _ => cases hnm
        subst hmn
        exact .of_sem (sliceStr_ok hw ht (hev x hx.1) hlo' hhi' h1) fun w => by rw [← run_v]; simp only [execOp, ho]; rfl
      · cases hc
    · rename_i e ht
      split at hc
      · rename_i i hi2
        simp only [Option.some.injEq] at hc; subst hc
        obtain ⟨h1, rfl⟩ := withH_some hr
        exact .of_sem (slice_ok hw ht hi2 (hev x hx.1) hlo' hhi' hmx' h1) fun w => by rw [← sliceAt_slice ht, ← run_v]; simp only [execOp, ho]
      · cases hc
    · rename_i n e ht
      split at hc
      · rename_i i hi2
        simp only [Option.some.injEq] at hc; subst hc
        obtain ⟨h1, rfl⟩ := withH_some hr
        exact .of_sem (sliceArr_ok hw ht hi2 (hev x hx.1) hlo' hhi' hmx' h1) fun w => by rw [← run_v]; simp only [execOp, ho]
      · cases hc
    · cases hc
  · -- fieldAddr
    rename_i t x n ho
    rw [ho] at hops; simp only [Op.operands, okOps, Bool.and_eq_true] at hops
    have hx := hev x hops.1
    split at hc
    · rename_i fs ht
      split at hc
      · rename_i f hf
        split at hc
        · rename_i i hi
          split at hc
          · rename_i hnz
            simp only [Option.some.injEq] at hc; subst hc
            simp only [COp.run] at hr
            split at hr
            · rename_i a hea
              simp only [Option.some.injEq, Prod.mk.injEq] at hr
              obtain ⟨rfl, rfl⟩ := hr
              rw [hea] at hx
              obtain ⟨a', ea, ha⟩ := ptr_inv hx
              exact .of_sem (fieldAddr_ok hw ht hf hi hnz ha) fun w => by rw [← run_v]; simp only [execOp, ho, ea]
            · cases hr
          · cases hc
        · cases hc
      · cases hc
    · cases hc
  · -- field
    rename_i t x n ho
    rw [ho] at hops; simp only [Op.operands, okOps, Bool.and_eq_true] at hops
    split at hc
    · rename_i fs ht
      split at hc
      · rename_i f hf
        split at hc
        · rename_i d i hd hi
          simp only [Option.some.injEq] at hc; subst hc
          obtain ⟨h1, rfl⟩ := withH_some hr
          exact .of_sem (field_ok hw ht hf hd hi (hev x hops.1) h1) fun w => by rw [← run_v]; simp only [execOp, ho]
        · cases hc
      · cases hc
    · cases hc
  · -- indexAddr
    rename_i t x i ho
    rw [ho] at hops; simp only [Op.operands, okOps, Bool.and_eq_true] at hops
    split at hc
    · rename_i e ht
      split at hc
      · rename_i ie hi
        simp only [Option.some.injEq] at hc; subst hc
        obtain ⟨h1, rfl⟩ := withH_some hr
        exact .of_sem (indexAddr_ok hw ht hi (hev x hops.1) (hev i hops.2.1) h1) fun w => by rw [← run_v]; simp only [execOp, ho]
      · cases hc
    · rename_i n e ht
      split at hc
      · rename_i ie hi
        simp only [Option.some.injEq] at hc; subst hc
        obtain ⟨h1, rfl⟩ := withH_some hr
        exact .of_sem (indexAddrA_ok hw ht hi (hev x hops.1) (hev i hops.2.1) h1) fun w => by rw [← run_v]; simp only [execOp, ho]
      · cases hc
    · cases hc
  · -- index
    rename_i t x i ho
    rw [ho] at hops; simp only [Op.operands, okOps, Bool.and_eq_true] at hops
    split at hc
    · rename_i ht
      simp only [Option.some.injEq] at hc; subst hc
      obtain ⟨h1, rfl⟩ := withH_some hr
      exact .of_sem (indexStr_ok hw ht (hev x hops.1) (hev i hops.2.1) h1) fun w => by rw [← run_v]; simp only [execOp, ho]
    · rename_i n e ht
      split at hc
      · rename_i d ie hd hi
        simp only [Option.some.injEq] at hc; subst hc
        obtain ⟨h1, rfl⟩ := withH_some hr
        exact .of_sem (indexArr_ok hw ht hd hi (hev x hops.1) (hev i hops.2.1) h1) fun w => by rw [← run_v]; simp only [execOp, ho]
      · cases hc
    · cases hc
  · -- lookup
    rename_i t x k ok ho
    rw [ho] at hops; simp only [Op.operands, okOps, Bool.and_eq_true] at hops
    split at hc
    · rename_i key elem ht
      split at hc
      · rename_i d z _ _ hd hz
        simp only [Option.some.injEq] at hc; subst hc
        simp only [COp.run] at hr
        split at hr
        · rename_i hk
          obtain ⟨h1, rfl⟩ := withH_some hr
          obtain ⟨i, hi, hiz, _, _, _, hzp⟩ := zeroOf_spec hz
          exact .of_sem (lookup_ok hw ht hd hi hiz (plainV_rel hzp) (hev x hops.1) (hev k hops.2.1) hk h1) fun w => by rw [← run_v]; simp only [execOp, ho]
        · cases hr
      · cases hc
    · cases hc
  · -- mapUpdate
    rename_i t m k v2 ho
    rw [ho] at hops; simp only [Op.operands, okOps, Bool.and_eq_true] at hops
    split at hc
    · rename_i key elem ht
      split at hc
      · rename_i d hd
        simp only [Option.some.injEq] at hc; subst hc
        simp only [COp.run] at hr
        split at hr
        · rename_i hk
          obtain ⟨h1, rfl⟩ := noVal_some hr
          exact .of_semu (mapUpdate_ok hw ht hd (hev m hops.1) (hev k hops.2.1) (hev v2 hops.2.2.1) hk h1) fun w => by rw [← run_u]; simp only [execOp, ho]
        · cases hr
      · cases hc
    · cases hc
  · -- insert
    rename_i t m k v2 ho
    rw [ho] at hops; simp only [Op.operands, okOps, Bool.and_eq_true] at hops
    split at hc
    · rename_i key elem ht
      split at hc
      · rename_i d hd
        simp only [Option.some.injEq] at hc; subst hc
        simp only [COp.run] at hr
        split at hr
        · rename_i hk
          obtain ⟨h1, rfl⟩ := noVal_some hr
          exact .of_semu (mapUpdate_ok hw ht hd (hev m hops.1) (hev k hops.2.1) (hev v2 hops.2.2.1) hk h1) fun w => by rw [← run_u]; simp only [execOp, ho]
        · cases hr
      · cases hc
    · cases hc
  · -- extract
    rename_i x i ho
    rw [ho] at hops; simp only [Op.operands, okOps, Bool.and_eq_true] at hops
    simp only [Option.some.injEq] at hc; subst hc
    obtain ⟨h1, rfl⟩ := withH_some hr
    exact .of_sem (extract_ok hw (hev x hops.1) h1) fun w => by rw [← run_v]; simp only [execOp, ho]
  · -- typeAssert
    rename_i x xt T ok ho
    rw [ho] at hops; simp only [Op.operands, okOps, Bool.and_eq_true] at hops
    split at hc
    · rename_i want _ _ hd hz
      simp only [Option.some.injEq] at hc; subst hc
      obtain ⟨h1, rfl⟩ := withH_some hr
      obtain ⟨i, hi, hiz, _, _, _, _⟩ := zeroOf_spec hz
      exact .of_sem (assertI_ok (xt := xt) hw hd hi hiz (hev x hops.1) h1) fun w => by rw [← run_v]; simp only [execOp, ho]
    · cases hc
    · rename_i d z _ _ _ hn hd hz
      simp only [Option.some.injEq] at hc; subst hc
      obtain ⟨h1, rfl⟩ := withH_some hr
      obtain ⟨i, hi, hiz, _, _, _, hzp⟩ := zeroOf_spec hz
      exact .of_sem (assert_ok (xt := xt) hw hd (fun ms e => hn ms e) hi hiz (plainV_rel hzp) (hev x hops.1) h1) fun w => by rw [← run_v]; simp only [execOp, ho]
    · cases hc
  · -- call
    rename_i c ho
    obtain ⟨cal, args, ts⟩ := c
    rw [ho] at hops
    simp only at hc
    split at hc
    · rename_i b
      simp only [Op.operands, Call.operands, Array.toList_append, okOps_append, Bool.and_eq_true] at hops
      obtain ⟨s, hs, hx⟩ := builtin_ok (ty := o.type) (k := args.map fun | .const _ => true | _ => false) hw hev hops.2 hc hr
      exact .of_sem hs fun w => by rw [← hx]; simp only [execOp, ho, resolve, Sem.run_bind, Sem.run_pure, Result.andThen_ok, invoke]; rfl
    · split at hc
      · split at hc
        · simp only [Option.some.injEq] at hc; subst hc; cases hr
        · cases hc
      · cases hc
    · simp only [Option.some.injEq] at hc; subst hc; cases hr
    · simp only [Option.some.injEq] at hc; subst hc; cases hr
  · simp only [Option.some.injEq] at hc; subst hc; cases hr
  · cases hc

end
end Go.Ads
/- The code, its types looked up. -/
namespace Go.Ads
noncomputable section

/-- What stands for an operation that isn't covered: it never gives anything. -/
def failOp : COp := .extract (.const undef) 0

def compOper (P : Program) (gs : List Nat) (ops : Array Oper) (o : Oper) : Option COper :=
  match o.guard with
    | none => some ⟨o.dst, (comp P gs o).getD failOp, none⟩
    | some (j, b) => match (ops[j]?).bind (·.dst) with
      | some t => some ⟨o.dst, (comp P gs o).getD failOp, some (t, b)⟩
      | none => none

def compOps (P : Program) (gs : List Nat) (ops : Array Oper) : List Oper → Option (List COper)
  | [] => some []
  | o :: l => match compOper P gs ops o, compOps P gs ops l with
    | some c, some cs => some (c :: cs)
    | _, _ => none

/-- What an operation reads of the frame. -/
def COp.ops : COp → List Operand
  | .mv x | .box x | .load1 x | .loadN _ x | .nilCheck x | .un _ x | .toInt _ x | .toStr x | .toBytes x | .fromBytes x | .mkIface _ x | .fieldAddr _ x | .field _ _ _ x | .extract x _ | .len _ x | .cap x | .clear _ x | .assert _ _ _ x | .panic x | .nilCheckM _ x | .assertI _ _ x => [x]
  | .pick c a b => [c, a, b]
  | .alloc _ | .mkMap | .lenA _ => []
  | .build _ _ ps | .buildArr _ _ ps | .buildSlice _ _ _ _ ps => ps.map (·.2)
  | .store _ a x | .bin _ a x | .eqNil _ _ _ a x | .eqFlat _ _ a x | .mkSlice _ _ _ _ a x | .indexAddr _ a x | .indexAddrA _ _ a x | .indexS a x | .indexA _ _ _ a x | .lookup _ _ _ a x | .append _ _ a x | .appendN _ _ _ _ a x | .copy _ a x => [a, x]
  | .mkFunc _ a b => a ++ b
  | .sliceS x lo hi => x :: (lo.toList ++ hi.toList)
  | .slice _ x lo hi mx | .sliceA _ _ x lo hi mx => x :: (lo.toList ++ (hi.toList ++ mx.toList))
  | .mapUpdate _ m k v => [m, k, v]
  | .max xs | .min xs | .call _ xs => xs
  | .callV x xs | .callM _ x xs => x :: xs

/-- Operations that leave the heap as it is. -/
def COp.loud : COp → Bool
  | .alloc _ | .box _ | .buildSlice .. | .store .. | .toBytes _ | .mkMap | .mkSlice .. | .mapUpdate .. | .append .. | .appendN .. | .copy .. | .clear .. | .call .. | .callV .. | .callM .. | .panic _ => true
  | _ => false
/-- Operations that look into the heap, and leave it. -/
def COp.reads : COp → Bool
  | .load1 _ | .loadN .. | .lookup .. | .len .. | .cap _ | .slice .. | .fromBytes _ => true
  | _ => false

def opTmps : List Operand → List Tmp
  | [] => []
  | .tmp t :: l => t :: opTmps l
  | _ :: l => opTmps l
def guardTmps : Option (Tmp × Bool) → List Tmp
  | none => []
  | some (t, _) => [t]
def COper.looks (c : COper) : List Tmp := guardTmps c.guard ++ opTmps c.op.ops

def COp.isAlloc : COp → Bool
  | .alloc _ => true
  | _ => false
def COper.free (c : COper) : Bool := c.op.isAlloc && c.guard.isNone

/-- Which operations stand ahead of one, by bits. -/
def befStep (acc : List Nat) (o : Oper) : Nat :=
  o.after.toList.foldl (fun s e => if Region.binds .any e then (s ||| 2 ^ e.on) ||| acc.getD e.on 0 else s) 0
def befs : List Nat → List Oper → List Nat
  | acc, [] => acc
  | acc, o :: l => befs (acc ++ [befStep acc o]) l

def edgesOK : Nat → List Oper → Bool
  | _, [] => true
  | i, o :: l => (o.after.toList.all fun e => !Region.binds .any e || e.on.blt i) && edgesOK (i + 1) l

def tmpIn (d : Option Tmp) (l : List Tmp) : Bool := match d with
  | some d => l.contains d
  | none => false
def sameDst : Option Tmp → Option Tmp → Bool
  | some a, some b => a == b
  | _, _ => false

def pairOK (bef : List Nat) (i j : Nat) (ci cj : COper) : Bool :=
  !sameDst ci.dst cj.dst && (!(tmpIn ci.dst cj.looks || tmpIn cj.dst ci.looks) || (bef.getD j 0).testBit i) &&
  (!(ci.op.loud && cj.op.loud) || (bef.getD j 0).testBit i || cj.free)

/-- Each against those ahead of it. -/
def rowOK (bef : List Nat) (j : Nat) (cj : COper) : Nat → List COper → Bool
  | _, [] => true
  | i, c :: l => (if i < j then pairOK bef i j c cj else true) && rowOK bef j cj (i + 1) l
/-- Whoever looks into the heap and waits for one that turns it waits for all ahead of that one. -/
def readOK (bef : List Nat) (i : Nat) (all : List COper) : Bool :=
  all.zipIdx.all fun (c, l) => !(c.op.loud && l.blt i && !((bef.getD i 0).testBit l)) || all.zipIdx.all fun (d, j) => !(d.op.loud && l.blt j && j.blt i && (bef.getD i 0).testBit j)
def rowsOK (bef : List Nat) (all : List COper) : Nat → List COper → Bool
  | _, [] => true
  | j, c :: l => rowOK bef j c 0 all && (!c.op.isAlloc || c.guard.isNone) && (!c.op.reads || readOK bef j all) && rowsOK bef all (j + 1) l

/-- Which look into the heap beside which that turn it. -/
def pairsOf (bef : List Nat) (cs : List COper) : List (Nat × Nat) :=
  cs.zipIdx.flatMap fun (c, i) => if c.op.reads then cs.zipIdx.filterMap fun (d, j) =>
    if d.op.loud && !((bef.getD j 0).testBit i) && !((bef.getD i 0).testBit j) then some (i, j) else none else []

def drawStatic (ops : List Oper) (cs : List COper) : Bool := edgesOK 0 ops && rowsOK (befs [] ops) cs 0 cs

/- The code, its types looked up. -/
/-- What stands for code that isn't covered. -/
def failCode : CCode := .cond (.const undef) .skip .skip

/-- Is there no loop over a function in it? -/
def CCode.plain : CCode → Bool
  | .seq a b => a.plain && b.plain
  | .cond _ a b => a.plain && b.plain
  | .block _ a => a.plain
  | .loop a => a.plain
  | .range .. => false
  | _ => true

def compCode (P : Program) (gs : List Nat) : Code → Option CCode
  | .skip => some .skip
  | .region _ ops false => (compOps P gs ops ops.toList).map .region
  | .region _ ops true => match compOps P gs ops ops.toList with
    | some l => if drawStatic ops.toList l then some (.draw l (pairsOf (befs [] ops.toList) l)) else none
    | none => none
  | .seq a b => match compCode P gs a, compCode P gs b with
    | some x, some y => some (.seq x y)
    | _, _ => none
  | .cond c a b => if okOp gs c then (match compCode P gs a, compCode P gs b with
    | some x, some y => some (.cond c x y)
    | _, _ => none) else none
  | .block id body => (compCode P gs body).map (.block id)
  | .loop body => (compCode P gs body).map .loop
  | .exit id => some (.exit id)
  | .ret => some .ret
  | .rangeFunc f ps a b => match compCode P gs a, compCode P gs b with
    | some x, some y => if okOp gs f && (x.plain && y.plain) then some (.range f ⟨ps, a, b⟩ x y) else some failCode
    | _, _ => none
  | _ => some failCode

inductive CRes where
  | tmp (t : Tmp)
  | cell (a : Tmp)
  | cells (a : Tmp) (n : Nat)

/-- A function: its body. 'rest': of a function that defers a closure once: what stands ahead, the operations right ahead of that, the closure ('body' stands behind). 'recov': of a function that begins with what is recovered: where that is put, the other operations of that region ('body' stands behind). -/
structure CFunc where
  ntmps : Nat
  results : List CRes
  body : CCode
  rest : Option (List CCode × List COper × Operand)
  recov : Option (Tmp × List COper)

def compRes (P : Program) : List ResultVar → Option (List CRes)
  | [] => some []
  | .tmp t :: l => (compRes P l).map (.tmp t :: ·)
  | .cell a t :: l => match P.underlying t, P.info? t, compRes P l with
    | some d, some i, some r => some ((if aggD d then .cells a i.size else .cell a) :: r)
    | _, _, _ => none

/-- The last operation of a list, and those ahead of it. -/
def lastOp : List Oper → Option (List Oper × Oper)
  | [] => none
  | [o] => some ([], o)
  | o :: l => match lastOp l with
    | some (a, b) => some (o :: a, b)
    | none => none

/-- A defer of a closure at a region's end. -/
def endDefer (ops : Array Oper) : Option (List Oper × Operand) :=
  match lastOp ops.toList with
  | some (l, ⟨none, .defer ⟨.value x, as, _⟩, _, _, _, none⟩) => if as.toList.isEmpty then some (l, x) else none
  | _ => none

/-- What stands ahead of the one defer of a closure; that one's region, its operations ahead of it, the closure; what stands behind. -/
def cutDefer : Code → Option (List Code × Array Oper × List Oper × Operand × Code)
  | .seq (.region id ops false) b => match endDefer ops with
    | some (l, x) => some ([], ops, l, x, b)
    | none => match cutDefer b with
      | some (p, os, l, x, r) => some (.region id ops false :: p, os, l, x, r)
      | none => none
  | .seq a b => match cutDefer b with
    | some (p, os, l, x, r) => some (a :: p, os, l, x, r)
    | none => none
  | _ => none

def COp.isCall : COp → Bool
  | .call .. | .callV .. | .callM .. | .panic _ => true
  | _ => false

/-- Code that begins with what is recovered: where that is put; the other operations of that region; what stands behind. -/
def cutRecover : Code → Option (Array Oper × Tmp × List Oper × Code)
  | .seq (.region _ ops false) r => match ops.toList with
    | ⟨some t, .call ⟨.builtin .recover, as, _⟩, _, _, _, none⟩ :: l => if as.toList.isEmpty then some (ops, t, l, r) else none
    | _ => none
  | _ => none

def compCodes (P : Program) (gs : List Nat) : List Code → Option (List CCode)
  | [] => some []
  | c :: l => match compCode P gs c, compCodes P gs l with
    | some x, some xs => some (x :: xs)
    | _, _ => none

def compFunc (P : Program) (gs : List Nat) (fn : Func) : Option CFunc :=
  match fn.body, compRes P fn.results.toList with
  | some c, some rs => match cutRecover c with
    | some (ops, t, l, r) => match compOps P gs ops l, compCode P gs r with
      | some cs, some r => if r.plain && cs.all (fun c => !c.op.isCall) then some ⟨fn.ntmps, rs, r, none, some (t, cs)⟩ else none
      | _, _ => none
    | none => match cutDefer c with
      | some (p, ops, l, x, r) => match compCodes P gs p, compOps P gs ops l, compCode P gs r with
        | some p, some cs, some r => if okOp gs x then some ⟨fn.ntmps, rs, r, some (p, cs, x), none⟩ else none
        | _, _, _ => none
      | none => match compCode P gs c with
        | some code => some ⟨fn.ntmps, rs, code, none, none⟩
        | none => none
  | _, _ => none

/-- What stands in a loop over a function that runs is of the program. -/
structure LoopOK (P : Program) (gs : List Nat) (x : ALoop) : Prop where
  assign : compCode P gs x.real.assign = some x.assign
  body : compCode P gs x.real.body = some x.body
  pa : x.assign.plain = true
  pb : x.body.plain = true
def LoopsOK (P : Program) (gs : List Nat) (H : AH) : Prop := ∀ b x, H.get b = some (.loop x) → LoopOK P gs x

theorem LoopsOK.same {P : Program} {gs : List Nat} {H H' : AH} (h : LoopsOK P gs H) (hs : SameLoops H H') : LoopsOK P gs H' := fun b x e => by
  obtain ⟨y, ey, h1, h2, h3⟩ := hs b x e
  have := h b y ey
  exact ⟨by rw [← h1, ← h2]; exact this.assign, by rw [← h1, ← h3]; exact this.body, by rw [← h2]; exact this.pa, by rw [← h3]; exact this.pb⟩

end
end Go.Ads
