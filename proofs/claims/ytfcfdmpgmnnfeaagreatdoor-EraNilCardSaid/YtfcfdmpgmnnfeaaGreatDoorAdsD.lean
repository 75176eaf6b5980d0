/- Code over the abstract heap: run, and why a run of it tells what the program does. -/
import Derived.Test.YtfcfdmpgmnnfeaaGreatDoorAdsC
import Derived.OrdersIn
import Derived.RangeFuncRecord
import Derived.LoopNIn
import Derived.RecoverIn
set_option linter.unusedSimpArgs false
set_option linter.unusedVariables false
namespace Go.Ads
noncomputable section

def aeval (ts : List Value) : Operand → Value
  | .tmp t => ts.getD t undef
  | .const v => v
  | .global g => .pointer (some ⟨g, 0, none⟩)
  | .func f => .func (.func f) #[] #[]

def aput (ts : List Value) (d : Option Tmp) (v : Value) : List Value :=
  match d with
  | some d => ts.set d v
  | none => ts

/-- What is called: a function, or a loop's yield. -/
inductive ACallee where
  | fn (g : FuncId)
  | yield (b : Nat)
/-- What a call comes to. -/
inductive COut where
  | val (v : Value)
  | panic (v : Value)

abbrev CallF := ACallee → List Value → AH → Option (COut × AH)

def justVal : Option (COut × AH) → Option (Value × AH)
  | some (.val v, H) => some (v, H)
  | _ => none
def valOut : Option (Value × AH) → Option (COut × AH)
  | some (v, H) => some (.val v, H)
  | none => none

def findM : List (TypeId × FuncId) → TypeId → Option FuncId
  | [], _ => none
  | (t, f) :: l, u => if t = u then some f else findM l u

/-- An operation: what it gives; a panic is none. -/
def runOp (call : CallF) (c : COp) (ev : Operand → Value) (H : AH) : Option (Value × AH) :=
  match c with
  | .call f args => justVal (call (.fn f) (args.map ev) H)
  | .callV x args => match ev x with
    | .func (.func f) first caps => justVal (call (.fn f) (first.toList ++ args.map ev ++ caps.toList) H)
    | .func (.yield b) _ _ => justVal (call (.yield b) (args.map ev) H)
    | _ => none
  | .callM tbl x args => match ev x with
    | .iface t v => match findM tbl t with
      | some f => justVal (call (.fn f) (v :: args.map ev) H)
      | none => none
    | _ => none
  | c => c.run ev H

/-- An operation: what it comes to. -/
def runOpO (call : CallF) (c : COp) (ev : Operand → Value) (H : AH) : Option (COut × AH) :=
  match c with
  | .call f args => call (.fn f) (args.map ev) H
  | .callV x args => match ev x with
    | .func (.func f) first caps => call (.fn f) (first.toList ++ args.map ev ++ caps.toList) H
    | .func (.yield b) _ _ => call (.yield b) (args.map ev) H
    | _ => none
  | .callM tbl x args => match ev x with
    | .iface t v => match findM tbl t with
      | some f => call (.fn f) (v :: args.map ev) H
      | none => none
    | _ => none
  | .panic x => match ev x with
    | .iface t v => some (.panic (.iface t v), H)
    | _ => none
  | c => valOut (c.run ev H)

theorem runOpO_val {call : CallF} {c : COp} {ev : Operand → Value} {H H' : AH} {v : Value} (h : runOpO call c ev H = some (.val v, H')) : runOp call c ev H = some (v, H') := by
  have key : ∀ r : Option (Value × AH), valOut r = some (.val v, H') → r = some (v, H') := by
    intro r hr
    unfold valOut at hr
    split at hr
    · cases hr; rfl
    · cases hr
  cases c <;> first | exact key _ h | skip
  · simp only [runOpO] at h
    simp only [runOp, h, justVal]
  · simp only [runOpO] at h
    simp only [runOp]
    split at h <;> first | (simp only [h, justVal]; done) | cases h
  · simp only [runOpO] at h
    simp only [runOp]
    split at h
    · split at h
      · simp only [h, justVal]
      · cases h
    · cases h
  · simp only [runOpO] at h
    split at h <;> cases h

def guarded (g : Option (Tmp × Bool)) (ts : List Value) : Bool :=
  match g with
  | none => true
  | some (t, want) => match ts.getD t undef with
    | .bool b => b == want
    | _ => false

/-- The operations of a region, one behind the other: what panicked, if it did. -/
def runOps (call : CallF) : List COper → List Value → AH → Option (Option Value × List Value × AH)
  | [], ts, H => some (none, ts, H)
  | o :: l, ts, H =>
    if guarded o.guard ts then
      match runOpO call o.op (aeval ts) H with
      | some (.val v, H') => runOps call l (aput ts o.dst v) H'
      | some (.panic p, H') => some (some p, ts, H')
      | none => none
    else runOps call l (aput ts o.dst undef) H

/- The code, its types looked up. -/
theorem failOp_none {call : CallF} {ev : Operand → Value} (hev : ∀ v, ev (.const v) = v) {H : AH} : runOp call failOp ev H = none := by
  simp [runOp, failOp, COp.run, hev, aextract, undef, withH]
theorem failOpO_none {call : CallF} {ev : Operand → Value} (hev : ∀ v, ev (.const v) = v) {H : AH} : runOpO call failOp ev H = none := by
  simp [runOpO, failOp, COp.run, hev, aextract, undef, withH, valOut]

def GlobOK (ρ : Ren) (gs : List Nat) : Prop := ∀ g ∈ gs, ∃ l, ρ g = some l ∧ l.blk = g ∧ l.base = 0

theorem GlobOK.mono {ρ ρ' : Ren} (h : ρ.le ρ') {gs : List Nat} (k : GlobOK ρ gs) : GlobOK ρ' gs := fun g hg => let ⟨l, e, x⟩ := k g hg; ⟨l, h _ _ e, x⟩

/-- The fence that lets all in; a round's. -/
def FR (r : Option Nat) : Fence := { Fence.wide with round := r }
theorem room_FR (r : Option Nat) (n : Nat) : (FR r).room n := fun _ h => by simp [FR, Fence.wide] at h
theorem fenced_FR (P : Program) (r : Option Nat) : Machine.fenced P (FR r) = Machine.fenced P Fence.wide := rfl

def COut.value : COut → Value
  | .val v => v
  | .panic v => v
def COut.ending : COut → Value → Ending
  | .val _, v => .returned v
  | .panic _, v => .panicked [{ v := v, recovered := false }]

/-- What holds behind a call. -/
def CallPost (ρ : Ren) (H : AH) (w : World) (out : COut) (H' : AH) : Ending → World → Prop :=
  fun e w' => ∃ v' ρ', e = out.ending v' ∧ VRel ρ' out.value v' ∧ Went ρ H w ρ' H' w'

/-- A call does to every world that stands to a heap what is told. -/
def ACalls (P : Program) (gs : List Nat) (f : FuncId) (args : List Value) (H : AH) (out : COut) (H' : AH) : Prop :=
  ∀ (ρ : Ren) (w : World) (args' : Array Value), Rel ρ H w → GlobOK ρ gs → LoopsOK P gs H → VRels ρ args args'.toList → Calls P f args' w (CallPost ρ H w out H')

/-- A round does to every world that stands to a heap what is told. -/
def ARounds (P : Program) (gs : List Nat) (b : Nat) (args : List Value) (H : AH) (out : COut) (H' : AH) : Prop :=
  ∀ (ρ : Ren) (w : World) (args' : Array Value) (l : Loc), Rel ρ H w → GlobOK ρ gs → LoopsOK P gs H → VRels ρ args args'.toList → ρ b = some l →
    ∃ fn tmps assign body, (Instr.yield l.blk args').run P w = .ok (.round l.blk fn tmps assign body) w ∧ RoundIn Fence.wide 0 P l.blk fn tmps assign body w (CallPost ρ H w out H')

theorem callsIn_FR {P : Program} {f : FuncId} {args : Array Value} {w : World} {R : Ending → World → Prop} (r : Option Nat) (h : Calls P f args w R) : CallsIn (FR r) 0 P f args w R :=
  (callsIn_wide (n := 0)).2 h
theorem roundIn_FR {P : Program} {l : Nat} {fn : FuncId} {tmps : Array Value} {a b : Code} {w : World} {R : Ending → World → Prop} (r : Option Nat) (h : RoundIn Fence.wide 0 P l fn tmps a b w R) : RoundIn (FR r) 0 P l fn tmps a b w R := h

variable {P : Program} {gs : List Nat} {ρ : Ren} {H : AH} {w : World}

theorem aeval_rel (hg : GlobOK ρ gs) {ts : List Value} {a : Act} (ht : VRels ρ ts a.tmps.toList) : ∀ x, okOp gs x = true → VRel ρ (aeval ts x) (a.eval x) := by
  intro x hx
  cases x with
  | tmp t =>
    have := ht.getD t (vrel_undef ρ)
    simpa [aeval, Act.eval, Array.getD_eq_getD_getElem?, List.getD_eq_getElem?_getD] using this
  | const v => exact plainV_rel hx
  | global g =>
    obtain ⟨l, e, h1, h2⟩ := hg g (by simpa [okOp] using hx)
    exact .ptr ⟨l, e, rfl, by simp [h1, h2]⟩
  | func f => exact .func _ (fun l h => by cases h) .nil .nil

theorem aput_rel {ts : List Value} {a : Act} (ht : VRels ρ ts a.tmps.toList) {d : Option Tmp} {v v' : Value} (hv : VRel ρ v v') : VRels ρ (aput ts d v) (a.put d v').tmps.toList := by
  cases d with
  | none => exact ht
  | some d => simp only [aput, Act.put, Array.toList_setIfInBounds]; exact ht.set d hv

theorem guarded_wanted {ts : List Value} {a : Act} (ht : VRels ρ ts a.tmps.toList) {ops : Array Oper} {o : Oper} {c : COper} (hc : compOper P gs ops o = some c) :
    Region.wanted o (yielded ops a.tmps) = guarded c.guard ts := by
  unfold compOper at hc
  · split at hc
    · rename_i hg
      simp only [Option.some.injEq] at hc; subst hc
      simp [Region.wanted, hg, guarded]
    · rename_i j b hg
      split at hc
      · rename_i t hd
        simp only [Option.some.injEq] at hc; subst hc
        have hr := ht.getD t (vrel_undef ρ)
        have e1 : ∀ z : Value, VRel ρ (ts.getD t undef) z → ((match some z with | some (.bool b) => some b | _ => none) == some b) = (match ts.getD t undef with | .bool c => c == b | _ => false) := by
          intro z hz
          generalize ts.getD t undef = y at hz
          cases hz <;> rfl
        simp only [Region.wanted, hg, guarded, yielded, hd, Option.bind_some]
        cases he : a.tmps[t]? with
        | some z =>
          have e2 : a.tmps.toList.getD t undef = z := by simp [List.getD_eq_getElem?_getD, he]
          rw [e2] at hr
          exact e1 z hr
        | none =>
          have h2 : ts[t]? = none := by
            have hl := ht.length
            simp only [Array.length_toList] at hl
            rw [Array.getElem?_eq_none_iff] at he
            rw [List.getElem?_eq_none_iff]; omega
          rw [List.getD_eq_getElem?_getD, h2]; rfl
      · cases hc

/-- Does a function have a body, and is it none of the model's own? -/
def bodied (P : Program) (f : FuncId) : Bool := match P.funcs[f]? with
  | some fn => fn.body.isSome && fn.name != "runtime.NumGoroutine"
  | none => false

/-- What a call table gives is so. -/
structure CallOK (P : Program) (gs : List Nat) (call : CallF) : Prop where
  fn : ∀ f args H r H', call (.fn f) args H = some (r, H') → bodied P f = true ∧ ACalls P gs f args H r H'
  yield : ∀ b args H r H', call (.yield b) args H = some (r, H') → ARounds P gs b args H r H'

theorem methodTable_spec {name : String} {t : TypeId} {f : FuncId} (h : findM (methodTable P name) t = some f) :
    ∃ i m, P.info? t = some i ∧ i.methods.find? (·.name == name) = some m ∧ m.path.isEmpty = true ∧ m.func = some (f, true) ∧ ∃ e, P.underlying t = some (.pointer e) := by
  have key : ∀ l : List (TypeId × FuncId), findM l t = some f → (t, f) ∈ l := by
    intro l
    induction l with
    | nil => intro h2; cases h2
    | cons x l ih =>
      intro h2
      obtain ⟨u, g⟩ := x
      unfold findM at h2
      split at h2
      · rename_i hu; rw [← hu]; cases h2; simp
      · exact List.mem_cons_of_mem _ (ih h2)
  have := key _ h
  unfold methodTable at this
  rw [List.mem_filterMap] at this
  obtain ⟨u, _, hu⟩ := this
  split at hu
  · rename_i i hi
    split at hu
    · rename_i m hm
      split at hu
      · rename_i f2 e h1 h2 h3
        simp only [Option.some.injEq, Prod.mk.injEq] at hu
        obtain ⟨rfl, rfl⟩ := hu
        exact ⟨i, m, hi, hm, h1, h2, _, h3⟩
      · cases hu
    · cases hu
  · cases hu

theorem run_callFunc {f : FuncId} (h : bodied P f = true) (args : Array Value) (w : World) : (callFunc f args).run P w = .ok (.enter f args) w := by
  unfold bodied at h
  split at h
  · rename_i fn hf
    simp only [Bool.and_eq_true, bne_iff_ne, ne_eq] at h
    cases hfb : fn.body with
    | none => rw [hfb] at h; cases h.1
    | some _ => simp [callFunc, hf, h.2, hfb]
  · cases h

theorem compBuiltin_noCall {b : Builtin} {ts : List TypeId} {args : List Operand} {c : COp} (h : compBuiltin P b ts args = some c) : c.isCall = false := by
  unfold compBuiltin at h
  repeat' split at h
  all_goals (first | (cases h; done) | (simp only [Option.some.injEq] at h; subst h; rfl))
theorem compBin_noCall {op : BinOp} {t : TypeId} {x y : Operand} {c : COp} (h : compBin P op t x y = some c) : c.isCall = false := by
  unfold compBin at h
  repeat' split at h
  all_goals (first | (cases h; done) | (simp only [Option.some.injEq] at h; subst h; rfl))
theorem compConv_noCall {s d : TypeId} {x : Operand} {c : COp} (h : compConv P s d x = some c) : c.isCall = false := by
  unfold compConv at h
  repeat' split at h
  all_goals (first | (cases h; done) | (simp only [Option.some.injEq] at h; subst h; rfl))

/-- Where a call comes from. -/
theorem comp_isCall {o : Oper} {c : COp} (hc : comp P gs o = some c) (hi : c.isCall = true) : (∃ x, o.op = .panic x ∧ c = .panic x ∧ okOp gs x = true) ∨
    ∃ cal : Call, o.op = .call cal ∧ okOps gs cal.operands.toList = true ∧
      ((∃ f, cal.callee = .value (.func f) ∧ bodied P f = true ∧ c = .call f cal.args.toList) ∨ (∃ x, cal.callee = .value x ∧ c = .callV x cal.args.toList) ∨
       (∃ r name, cal.callee = .invoke r name ∧ c = .callM (methodTable P name) r cal.args.toList)) := by
  unfold comp at hc
  by_cases hops : okOps gs o.op.operands.toList = true
  case neg => rw [if_neg hops] at hc; cases hc
  rw [if_pos hops] at hc
  split at hc
  all_goals (try (first
    | (cases hc; done)
    | (simp only [Option.some.injEq] at hc; subst hc; cases hi; done)
    | (have := compBin_noCall hc; rw [this] at hi; cases hi; done)
    | (have := compConv_noCall hc; rw [this] at hi; cases hi; done)
    | ((repeat' split at hc) <;> (first | (cases hc; done) | (simp only [Option.some.injEq] at hc; subst hc; cases hi; done)))))
  case h_30 =>
    rename_i x ho
    simp only [Option.some.injEq] at hc; subst hc
    rw [ho] at hops
    exact .inl ⟨x, ho, rfl, by simpa [Op.operands, okOps] using hops⟩
  rename_i cal ho
  rw [ho] at hops
  refine .inr ⟨cal, ho, by simpa [Op.operands] using hops, ?_⟩
  split at hc
  · have := compBuiltin_noCall hc; rw [this] at hi; cases hi
  · rename_i f hcal
    split at hc
    · rename_i fn hf
      split at hc
      · rename_i hb
        simp only [Option.some.injEq] at hc; subst hc
        exact .inl ⟨f, hcal, by unfold bodied; rw [hf]; exact hb, rfl⟩
      · cases hc
    · cases hc
  · rename_i x hcal _
    simp only [Option.some.injEq] at hc; subst hc
    exact .inr (.inl ⟨_, by assumption, rfl⟩)
  · rename_i r name hcal
    simp only [Option.some.injEq] at hc; subst hc
    exact .inr (.inr ⟨r, name, hcal, rfl⟩)

theorem func_inv {fn : Fn} {xs ys : Array Value} {v' : Value} (h : VRel ρ (.func fn xs ys) v') (hf : ∀ l, fn ≠ .yield l) : ∃ xs' ys', v' = .func fn xs' ys' ∧ VRels ρ xs.toList xs'.toList ∧ VRels ρ ys.toList ys'.toList := by
  cases h with
  | func _ _ h k => exact ⟨_, _, rfl, h, k⟩
  | yield e => exact absurd rfl (hf _)

theorem comp_noDefer {o : Oper} {c : COp} (hc : comp P gs o = some c) : ∀ d, o.op ≠ .defer d := by
  intro d h
  unfold comp at hc
  rw [h] at hc
  split at hc <;> cases hc

/-- What comes of an operation. -/
def OperOut (r : Option Nat) (P : Program) (o : Oper) (a : Act) (ρ : Ren) (H : AH) (w : World) (out : COut) (H' : AH) : Prop :=
  ∀ (K : Act → World → Prop) (Q : Exit → Act → World → Prop), (∀ ρ' v' w', VRel ρ' out.value v' → Went ρ H w ρ' H' w' → match out with | .val _ => K (a.put o.dst v') w' | .panic _ => Q (.panic [{ v := v', recovered := false }]) a w') →
    o.wpIn (FR r) 0 P a w K Q
/-- What comes of an operation that gives a value. -/
def OperOK (r : Option Nat) (P : Program) (o : Oper) (a : Act) (ρ : Ren) (H : AH) (w : World) (v : Value) (H' : AH) : Prop :=
  ∀ (K : Act → World → Prop) (Q : Exit → Act → World → Prop), (∀ ρ' v' w', VRel ρ' v v' → Went ρ H w ρ' H' w' → K (a.put o.dst v') w') → o.wpIn (FR r) 0 P a w K Q

variable {r : Option Nat}

theorem wpIn_of {o : Oper} {a : Act} {K : Act → World → Prop} {Q : Exit → Act → World → Prop} (hd : ∀ d, o.op ≠ .defer d) (h : o.uponIn (FR r) 0 P a K Q ((execOp a.eval o).run P w)) : o.wpIn (FR r) 0 P a w K Q :=
  ⟨fun _ _ => trivial, by rw [Oper.semAt_eq _ _ _ hd]; exact h⟩

theorem OperOK.of_step {o : Oper} {a : Act} {v : Value} {H' : AH} (hd : ∀ d, o.op ≠ .defer d) (h : StepOK P o a.eval ρ H w v H') : OperOK r P o a ρ H w v H' := by
  intro K Q hK
  obtain ⟨ρ', v', w', hr, hv, hw⟩ := h
  have := hK ρ' v' w' hv hw
  refine wpIn_of hd ?_
  rcases hr with hr | ⟨hr, rfl⟩
  · rw [hr, Oper.uponIn_value]; exact this
  · rw [hr, Oper.uponIn_skip]; exact this

theorem OperOut.of_call {o : Oper} {a : Act} {f : FuncId} {args : List Value} {args' : Array Value} {out : COut} {H' : AH} (hd : ∀ d, o.op ≠ .defer d) (hc : ACalls P gs f args H out H') (hrel : Rel ρ H w) (hg : GlobOK ρ gs) (hl : LoopsOK P gs H)
    (hargs : VRels ρ args args'.toList) (hx : (execOp a.eval o).run P w = .ok (.enter f args') w) : OperOut r P o a ρ H w out H' := by
  intro K Q hK
  refine wpIn_of hd ?_
  rw [hx, Oper.uponIn_enter]
  refine ⟨fun h => by simp [FR, Fence.wide] at h, callsIn_FR r ((hc ρ w args' hrel hg hl hargs).mono ?_)⟩
  rintro e w' ⟨v', ρ', rfl, hv, hw⟩
  have := hK ρ' v' w' hv hw
  cases out <;> exact this

theorem OperOut.of_round {o : Oper} {a : Act} {b : Nat} {l : Loc} {args : List Value} {args' : Array Value} {out : COut} {H' : AH} (hd : ∀ d, o.op ≠ .defer d) (hc : ARounds P gs b args H out H') (hrel : Rel ρ H w) (hg : GlobOK ρ gs) (hl : LoopsOK P gs H) (hb : ρ b = some l)
    (hargs : VRels ρ args args'.toList) (hx : (execOp a.eval o).run P w = (Instr.yield l.blk args').run P w) : OperOut r P o a ρ H w out H' := by
  intro K Q hK
  refine wpIn_of hd ?_
  obtain ⟨fn, tmps, asg, body, hy, hR⟩ := hc ρ w args' l hrel hg hl hargs hb
  rw [hx, hy, Oper.uponIn_round]
  refine ⟨fun h => by simp [FR, Fence.wide] at h, roundIn_FR r (hR.mono ?_)⟩
  rintro e w' ⟨v', ρ', rfl, hv, hw⟩
  have := hK ρ' v' w' hv hw
  cases out <;> exact this

theorem runOpO_ok {call : CallF} (hcall : CallOK P gs call) (hrel : Rel ρ H w) (hg : GlobOK ρ gs) (hl : LoopsOK P gs H) {ts : List Value} {a : Act} (ht : VRels ρ ts a.tmps.toList) {o : Oper} {c : COp} {out : COut} {H' : AH}
    (hc : comp P gs o = some c) (hr : runOpO call c (aeval ts) H = some (out, H')) : OperOut r P o a ρ H w out H' := by
  have hev := aeval_rel hg ht
  have hd := comp_noDefer hc
  by_cases hi : c.isCall = true
  case neg =>
    have : runOpO call c (aeval ts) H = valOut (c.run (aeval ts) H) := by cases c <;> first | rfl | exact absurd rfl hi
    rw [this] at hr
    unfold valOut at hr
    split at hr
    · rename_i v H1 hr1
      simp only [Option.some.injEq, Prod.mk.injEq] at hr
      obtain ⟨rfl, rfl⟩ := hr
      exact OperOK.of_step hd (comp_ok hrel hev hc hr1)
    · cases hr
  rcases comp_isCall hc hi with ⟨x, ho, rfl, hx⟩ | ⟨⟨cal, args, tys⟩, ho, hops, hcase⟩
  · simp only [runOpO] at hr
    split at hr
    · rename_i t u hxv
      simp only [Option.some.injEq, Prod.mk.injEq] at hr
      obtain ⟨rfl, rfl⟩ := hr
      have hxr := hev x hx
      rw [hxv] at hxr
      intro K Q hK
      refine wpIn_of hd ?_
      generalize hz : a.eval x = z at hxr
      cases hxr with
      | @iface _ _ u' hu =>
        have hrun : (execOp a.eval o).run P w = .halt (.panic (.iface t u')) w := by
          simp only [execOp, ho, hz, Instr.panic]
          simp [goPanic, Sem.run]
        rw [hrun, Oper.uponIn_panic]
        exact hK ρ _ w (.iface t hu) (Went.refl hrel)
    · cases hr
  simp only [Call.operands, Array.toList_append, okOps_append, Bool.and_eq_true] at hops
  have hargs : VRels ρ (args.toList.map (aeval ts)) (args.map a.eval).toList := by simpa using VRels.map_ev hev hops.2
  rcases hcase with ⟨f, hcal, hb, rfl⟩ | ⟨x, hcal, rfl⟩ | ⟨r, name, hcal, rfl⟩
  · simp only at hcal; subst hcal
    simp only [runOpO] at hr
    refine .of_call hd (hcall.fn _ _ _ _ _ hr).2 hrel hg hl hargs ?_
    simp only [execOp, ho, resolve, Deferred.ofValue, Act.eval, Sem.run_bind, Sem.run_pure, Result.andThen_ok, invoke]
    rw [run_callFunc hb]; simp
  · simp only at hcal; subst hcal
    simp only [runOpO] at hr
    have hxr := hev x (by simpa [okOps] using hops.1)
    split at hr
    · rename_i f first caps hx
      rw [hx] at hxr
      generalize hz : a.eval x = z at hxr
      obtain ⟨first', caps', rfl, h1, h2⟩ := func_inv hxr (fun l h => by cases h)
      obtain ⟨hb, hac⟩ := hcall.fn _ _ _ _ _ hr
      refine .of_call hd hac hrel hg hl (args' := first' ++ args.map a.eval ++ caps') ?_ ?_
      · simp only [Array.toList_append]
        exact (h1.append hargs).append h2
      · simp only [execOp, ho, resolve, Deferred.ofValue, hz, Sem.run_bind, Sem.run_pure, Result.andThen_ok, invoke]
        rw [run_callFunc hb]
    · rename_i b first caps hx
      rw [hx] at hxr
      generalize hz : a.eval x = z at hxr
      cases hxr with
      | func _ hy _ _ => exact absurd rfl (hy _)
      | yield e =>
        refine .of_round hd (hcall.yield _ _ _ _ _ hr) hrel hg hl e hargs ?_
        simp only [execOp, ho, resolve, Deferred.ofValue, hz, Sem.run_bind, Sem.run_pure, Result.andThen_ok, invoke]
        simp
    · cases hr
  · simp only at hcal; subst hcal
    simp only [runOpO] at hr
    split at hr
    · rename_i t u hx
      split at hr
      · rename_i f hf
        have hxr := hev r (by simpa [okOps] using hops.1)
        rw [hx] at hxr
        generalize hz : a.eval r = z at hxr
        cases hxr with
        | @iface _ _ u' h1 =>
          obtain ⟨hb, hac⟩ := hcall.fn _ _ _ _ _ hr
          refine .of_call hd hac hrel hg hl (args' := #[u'] ++ args.map a.eval) ?_ ?_
          · simp only [Array.toList_append]
            exact .cons h1 hargs
          · obtain ⟨i, m, hi2, hm, hp, hfn, e, ht⟩ := methodTable_spec hf
            have hdep : ∃ k, P.types.size + Made.depth = k + 1 := ⟨P.types.size + (Made.depth - 1), by
              have : 0 < Made.depth := by decide
              omega⟩
            obtain ⟨k, hk⟩ := hdep
            have hpath : m.path = #[] := by simpa using hp
            have hmeth : (method (P.types.size + Made.depth) t u' name).run P w = .ok (f, u') w := by
              rw [hk]
              unfold method
              simp [typeInfo, hi2, hm, hpath, follow, hfn, receiverAt, run_underlying ht, Place.get]
            simp only [execOp, ho, resolve, Sem.run_bind, Sem.run_pure, Result.andThen_ok, invoke, hz]
            have hcm : (callMethod (.iface t u') name (args.map a.eval)).run P w = .ok (.enter f (#[u'] ++ args.map a.eval)) w := by
              simp [callMethod, hmeth, run_callFunc hb]
            have hx0 : (#[Value.iface t u'] ++ args.map a.eval)[0]? = some (.iface t u') := by rw [Array.getElem?_append_left (by simp)]; rfl
            have hx1 : (#[Value.iface t u'] ++ args.map a.eval).extract 1 (#[Value.iface t u'] ++ args.map a.eval).size = args.map a.eval := by
              apply Array.ext'; simp; rw [List.take_of_length_le (by simp)]
            rw [hx0]
            simp only [hx1, hcm]
      · cases hr
    · cases hr

theorem justVal_some {r : Option (COut × AH)} {v : Value} {H' : AH} (h : justVal r = some (v, H')) : r = some (.val v, H') := by
  unfold justVal at h
  split at h
  · cases h; rfl
  · cases h
/-- What gives a value comes to it. -/
theorem runOp_O {call : CallF} {c : COp} {ev : Operand → Value} {H H' : AH} {v : Value} (h : runOp call c ev H = some (v, H')) : runOpO call c ev H = some (.val v, H') := by
  have key : ∀ r : Option (Value × AH), r = some (v, H') → valOut r = some (.val v, H') := by
    intro r hr; rw [hr]; rfl
  cases c <;> first | exact key _ h | skip
  · simp only [runOp] at h
    simp only [runOpO, justVal_some h]
  · simp only [runOp] at h
    simp only [runOpO]
    split at h <;> first | exact justVal_some h | cases h
  · simp only [runOp] at h
    simp only [runOpO]
    split at h
    · split at h
      · exact justVal_some h
      · cases h
    · cases h
  · simp [runOp, COp.run] at h

theorem runOp_ok {call : CallF} (hcall : CallOK P gs call) (hrel : Rel ρ H w) (hg : GlobOK ρ gs) (hl : LoopsOK P gs H) {ts : List Value} {a : Act} (ht : VRels ρ ts a.tmps.toList) {o : Oper} {c : COp} {v : Value} {H' : AH}
    (hc : comp P gs o = some c) (hr : runOp call c (aeval ts) H = some (v, H')) : OperOK r P o a ρ H w v H' :=
  runOpO_ok hcall hrel hg hl ht hc (runOp_O hr)

theorem compOper_comp {ops : Array Oper} {o : Oper} {c : COper} (h : compOper P gs ops o = some c) : (comp P gs o = some c.op ∨ c.op = failOp) ∧ c.dst = o.dst := by
  have key : comp P gs o = some ((comp P gs o).getD failOp) ∨ (comp P gs o).getD failOp = failOp := by
    cases comp P gs o with
    | none => exact .inr rfl
    | some k => exact .inl rfl
  unfold compOper at h
  split at h
  · simp only [Option.some.injEq] at h; subst h; exact ⟨key, rfl⟩
  · split at h
    · simp only [Option.some.injEq] at h; subst h; exact ⟨key, rfl⟩
    · cases h

theorem runOper_ok {call : CallF} (hcall : CallOK P gs call) (hrel : Rel ρ H w) (hg : GlobOK ρ gs) (hl : LoopsOK P gs H) {ts : List Value} {a : Act} (ht : VRels ρ ts a.tmps.toList) {ops : Array Oper} {o : Oper} {c : COper} {v : Value} {H' : AH}
    (hc : compOper P gs ops o = some c) (hr : runOp call c.op (aeval ts) H = some (v, H')) : OperOK r P o a ρ H w v H' := by
  rcases (compOper_comp hc).1 with h | h
  · exact runOp_ok hcall hrel hg hl ht h hr
  · rw [h, failOp_none fun _ => rfl] at hr; cases hr

theorem runOperO_ok {call : CallF} (hcall : CallOK P gs call) (hrel : Rel ρ H w) (hg : GlobOK ρ gs) (hl : LoopsOK P gs H) {ts : List Value} {a : Act} (ht : VRels ρ ts a.tmps.toList) {ops : Array Oper} {o : Oper} {c : COper} {out : COut} {H' : AH}
    (hc : compOper P gs ops o = some c) (hr : runOpO call c.op (aeval ts) H = some (out, H')) : OperOut r P o a ρ H w out H' := by
  rcases (compOper_comp hc).1 with h | h
  · exact runOpO_ok hcall hrel hg hl ht h hr
  · rw [h, failOpO_none fun _ => rfl] at hr; cases hr

theorem Act.put_defers' (a : Act) (d : Option Tmp) (v : Value) : (a.put d v).defers = a.defers := by cases d <;> rfl


end
end Go.Ads
/- A region whose order is drawn: what it does in the text's order it does in every order. -/
namespace Go.Ads
noncomputable section

/- Values compared. -/
def byteArrayEq (a b : ByteArray) : Bool := a.data.toList == b.data.toList
def addrEq (a b : Addr) : Bool := a.block.beq b.block && a.off.beq b.off && (match a.spot, b.spot with | none, none => true | _, _ => false)
def optAddrEq : Option Addr → Option Addr → Bool
  | none, none => true
  | some a, some b => addrEq a b
  | _, _ => false
def optNatEq : Option Nat → Option Nat → Bool
  | none, none => true
  | some a, some b => a.beq b
  | _, _ => false

mutual
def veq : Nat → Value → Value → Bool
  | 0, _, _ => false
  | n + 1, x, y => match x, y with
    | .bool a, .bool b => a == b
    | .int k a, .int k' b => k == k' && a == b
    | .string a, .string b => byteArrayEq a b
    | .pointer a, .pointer b => optAddrEq a b
    | .slice a m c, .slice b m' c' => optAddrEq a b && m.beq m' && c.beq c'
    | .map a, .map b => optNatEq a b
    | .nilFunc, .nilFunc => true
    | .nilIface, .nilIface => true
    | .iface t v, .iface u v' => t.beq u && veq n v v'
    | .agg a, .agg b => veqs n a.toList b.toList
    | .tuple a, .tuple b => veqs n a.toList b.toList
    | .func (.func f) a b, .func (.func g) c d => f.beq g && veqs n a.toList c.toList && veqs n b.toList d.toList
    | _, _ => false
def veqs : Nat → List Value → List Value → Bool
  | 0, _, _ => false
  | n + 1, xs, ys => match xs, ys with
    | [], [] => true
    | x :: xs, y :: ys => veq n x y && veqs n xs ys
    | _, _ => false
end

theorem byteArrayEq_eq {a b : ByteArray} (h : byteArrayEq a b = true) : a = b := by
  unfold byteArrayEq at h
  obtain ⟨⟨a⟩⟩ := a; obtain ⟨⟨b⟩⟩ := b
  simp only [beq_iff_eq] at h; subst h; rfl
theorem addrEq_eq {a b : Addr} (h : addrEq a b = true) : a = b := by
  obtain ⟨a1, a2, a3⟩ := a; obtain ⟨b1, b2, b3⟩ := b
  simp only [addrEq, Bool.and_eq_true] at h
  obtain ⟨⟨h1, h2⟩, h3⟩ := h
  have := Nat.eq_of_beq_eq_true h1; subst this
  have := Nat.eq_of_beq_eq_true h2; subst this
  cases a3 <;> cases b3 <;> first | rfl | cases h3
theorem optAddrEq_eq {a b : Option Addr} (h : optAddrEq a b = true) : a = b := by
  cases a <;> cases b <;> first | rfl | (cases h; done) | (rw [addrEq_eq h])
theorem optNatEq_eq {a b : Option Nat} (h : optNatEq a b = true) : a = b := by
  cases a <;> cases b <;> first | rfl | (cases h; done) | (rw [Nat.eq_of_beq_eq_true h])

theorem veq_both : ∀ n, (∀ x y, veq n x y = true → x = y) ∧ (∀ xs ys, veqs n xs ys = true → xs = ys) := by
  intro n
  induction n with
  | zero => exact ⟨fun x y h => by simp [veq] at h, fun x y h => by simp [veqs] at h⟩
  | succ n ih =>
    obtain ⟨ih1, ih2⟩ := ih
    refine ⟨fun x y h => ?_, fun xs ys h => ?_⟩
    · simp only [veq] at h
      split at h
      · simp only [beq_iff_eq] at h; rw [h]
      · simp only [Bool.and_eq_true, beq_iff_eq] at h; rw [h.1, h.2]
      · rw [byteArrayEq_eq h]
      · rw [optAddrEq_eq h]
      · simp only [Bool.and_eq_true] at h
        rw [optAddrEq_eq h.1.1, Nat.eq_of_beq_eq_true h.1.2, Nat.eq_of_beq_eq_true h.2]
      · rw [optNatEq_eq h]
      · rfl
      · rfl
      · simp only [Bool.and_eq_true] at h
        rw [Nat.eq_of_beq_eq_true h.1, ih1 _ _ h.2]
      · rename_i a b; have := ih2 _ _ h; rw [Array.toList_inj.1 this]
      · rename_i a b; have := ih2 _ _ h; rw [Array.toList_inj.1 this]
      · simp only [Bool.and_eq_true] at h
        rw [Nat.eq_of_beq_eq_true h.1.1, Array.toList_inj.1 (ih2 _ _ h.1.2), Array.toList_inj.1 (ih2 _ _ h.2)]
      · cases h
    · simp only [veqs] at h
      split at h
      · rfl
      · simp only [Bool.and_eq_true] at h; rw [ih1 _ _ h.1, ih2 _ _ h.2]
      · cases h

theorem evalParts_congr {ev ev2 : Operand → Value} : ∀ {ps : Parts}, (∀ x ∈ ps.map (·.2), ev x = ev2 x) → evalParts ev ps = evalParts ev2 ps := by
  intro ps
  induction ps with
  | nil => intro _; rfl
  | cons p ps ih =>
    intro h
    obtain ⟨i, x⟩ := p
    simp only [evalParts]
    rw [h x (by simp), ih fun y hy => h y (by simp [hy])]

theorem optmap_congr {ev ev2 : Operand → Value} {x : Option Operand} (h : ∀ y ∈ x.toList, ev y = ev2 y) : x.map ev = x.map ev2 := by
  cases x with
  | none => rfl
  | some x => simp [h x (by simp)]

theorem runOp_congr {call : CallF} {c : COp} {ev ev2 : Operand → Value} {H : AH} (h : ∀ x ∈ c.ops, ev x = ev2 x) : runOp call c ev H = runOp call c ev2 H := by
  cases c <;> simp only [COp.ops, List.mem_cons, List.not_mem_nil, or_false, forall_eq_or_imp, forall_eq, List.mem_append] at h <;> simp only [runOp, COp.run]
  case build => rw [evalParts_congr h]
  case buildArr => rw [evalParts_congr h]
  case buildSlice => rw [evalParts_congr h]
  case mkFunc => rw [List.map_congr_left fun x hx => h x (.inl hx), List.map_congr_left fun x hx => h x (.inr hx)]
  case sliceS => rw [h.1, optmap_congr fun y hy => h.2 y (.inl hy), optmap_congr fun y hy => h.2 y (.inr hy)]
  case slice => rw [h.1, optmap_congr fun y hy => h.2 y (.inl hy), optmap_congr fun y hy => h.2 y (.inr (.inl hy)), optmap_congr fun y hy => h.2 y (.inr (.inr hy))]
  case sliceA => rw [h.1, optmap_congr fun y hy => h.2 y (.inl hy), optmap_congr fun y hy => h.2 y (.inr (.inl hy)), optmap_congr fun y hy => h.2 y (.inr (.inr hy))]
  case max => rw [List.map_congr_left h]
  case min => rw [List.map_congr_left h]
  case call => rw [List.map_congr_left h]
  case callV => rw [h.1, List.map_congr_left h.2]
  case callM => rw [h.1, List.map_congr_left h.2]
  all_goals (first | rfl | (simp only [h]; done) | (obtain ⟨h1, h2⟩ := h; rw [h1, h2]; done) | (obtain ⟨h1, h2, h3⟩ := h; rw [h1, h2, h3]; done) | skip)

theorem quiet_heap {call : CallF} {c : COp} {ev : Operand → Value} {H H' : AH} {v : Value} (hq : c.loud = false) (h : runOp call c ev H = some (v, H')) : H' = H := by
  cases c <;> simp only [COp.loud] at hq <;> first | (cases hq; done) | skip
  all_goals simp only [runOp, COp.run] at h
  all_goals (first
    | (exact (withH_some h).2)
    | (simp only [Option.some.injEq, Prod.mk.injEq] at h; exact h.2.symm)
    | ((repeat' split at h) <;> first | (cases h; done) | (exact (withH_some h).2) | (simp only [Option.some.injEq, Prod.mk.injEq] at h; exact h.2.symm)))

theorem pure_any {call : CallF} {c : COp} {ev : Operand → Value} {H H' : AH} {v : Value} (hq : c.loud = false) (hr : c.reads = false) (h : runOp call c ev H = some (v, H')) (H2 : AH) : runOp call c ev H2 = some (v, H2) := by
  have key : ∀ {x : Option Value}, withH H x = some (v, H') → withH H2 x = some (v, H2) := by
    intro x hx
    rw [(withH_some hx).1]; rfl
  cases c <;> simp only [COp.loud] at hq <;> simp only [COp.reads] at hr <;> first | (cases hq; done) | (cases hr; done) | skip
  all_goals simp only [runOp, COp.run] at h ⊢
  all_goals (first
    | (exact key h)
    | (cases h; rfl)
    | ((repeat' split at h) <;> first | (cases h; rfl) | (cases h; done) | (rename_i h1; rw [if_pos h1]; exact key h)))

end
end Go.Ads
/- A region whose order is drawn: its text's order, run; what is asked of it. -/
namespace Go.Ads
noncomputable section

def runOpD (call : CallF) (c : COp) (ev : Operand → Value) (H : AH) (rid : Nat) : Option (Value × AH) :=
  match c with
  | .alloc z => some (.pointer (some ⟨rid, 0, none⟩), H.set rid (.cells z 0 false))
  | c => runOp call c ev H

def ridNext (c : COper) (rid : Nat) : Nat := if c.op.isAlloc then rid + 1 else rid

def drawRun (call : CallF) : List COper → Nat → List Value → AH → Option (List (List Value × AH × Value) × List Value × AH)
  | [], _, ts, H => some ([], ts, H)
  | o :: l, rid, ts, H =>
    if guarded o.guard ts then
      match runOpD call o.op (aeval ts) H rid with
      | some (v, H') => match drawRun call l (ridNext o rid) (aput ts o.dst v) H' with
        | some (es, r) => some ((ts, H, v) :: es, r)
        | none => none
      | none => none
    else match drawRun call l (ridNext o rid) (aput ts o.dst undef) H with
      | some (es, r) => some ((ts, H, undef) :: es, r)
      | none => none

def allocsIn : List COper → Nat
  | [] => 0
  | c :: l => ridNext c (allocsIn l)

def AH.reserve : Nat → AH → AH
  | 0, H => H
  | k + 1, H => AH.reserve k { next := H.next + 1, mem := H.mem.set H.next none }

def readAgain (call : CallF) (c : COper) (ts : List Value) (v : Value) (H : AH) : Bool :=
  match runOp call c.op (aeval ts) H with
  | some (u, _) => veq 16 u v
  | none => false

abbrev DEnt := List Value × AH × Value

def pairsHold (call : CallF) (cs : List COper) (es : List DEnt) : List (Nat × Nat) → Bool
  | [] => true
  | (i, j) :: l => (match cs[i]?, es[i]?, es[j]?, es[j + 1]? with
    | some c, some (ts, _, v), some (_, H1, _), some (_, H2, _) => !guarded c.guard ts || (readAgain call c ts v H1 && readAgain call c ts v H2)
    | _, _, _, _ => false) && pairsHold call cs es l

/-- A region whose order is drawn, in the text's order. -/
def runDraw (call : CallF) (cs : List COper) (pairs : List (Nat × Nat)) (ts : List Value) (H : AH) : Option (List Value × AH) :=
  match drawRun call cs H.next ts (H.reserve (allocsIn cs)) with
  | some (es, ts', H') => if pairsHold call cs (es ++ [(ts', H', undef)]) pairs then some (ts', H') else none
  | none => none

/- The facts of it. -/
theorem reserve_get : ∀ (k : Nat) (H : AH) (b : Nat), (H.reserve k).get b = if b < H.next then H.get b else none := by
  intro k
  induction k with
  | zero =>
    intro H b
    show H.get b = _
    by_cases h : b < H.next
    · rw [if_pos h]
    · rw [if_neg h]; rw [AH.get_eq, if_neg h]
  | succ k ih =>
    intro H b
    simp only [AH.reserve]
    rw [ih]
    simp only [AH.get_eq, Trie.get_set]
    by_cases h1 : b < H.next
    · rw [if_pos (by omega), if_pos (by omega), if_neg (by omega), if_pos h1, if_pos h1]
    · rw [if_neg h1]
      by_cases h2 : b < H.next + 1
      · rw [if_pos h2, if_pos h2, if_pos (by omega)]
      · rw [if_neg h2]
theorem reserve_next : ∀ (k : Nat) (H : AH), (H.reserve k).next = H.next + k := by
  intro k
  induction k with
  | zero => intro H; rfl
  | succ k ih => intro H; simp only [AH.reserve]; rw [ih]; simp only; omega

theorem Went.reserve {ρ : Ren} {H : AH} {w : World} (h : Rel ρ H w) (k : Nat) : Went ρ H w ρ (H.reserve k) w :=
  (Went.refl h).weaken (by rw [reserve_next]; omega) fun b o e => by
    rw [reserve_get] at e
    split at e
    · exact e
    · cases e

/-- How many blocks are laid ahead of an operation. -/
def ridAt (cs : List COper) (i : Nat) : Nat := allocsIn (cs.take i)

def StepRel (call : CallF) (c : COper) (rid : Nat) (e e' : DEnt) : Prop :=
  (guarded c.guard e.1 = true ∧ runOpD call c.op (aeval e.1) e.2.1 rid = some (e.2.2, e'.2.1) ∧ e'.1 = aput e.1 c.dst e.2.2) ∨
  (guarded c.guard e.1 = false ∧ e.2.2 = undef ∧ e'.2.1 = e.2.1 ∧ e'.1 = aput e.1 c.dst undef)

theorem drawRun_spec {call : CallF} : ∀ (cs : List COper) (rid : Nat) (ts : List Value) (H : AH) (es : List DEnt) (ts' : List Value) (H' : AH), drawRun call cs rid ts H = some (es, ts', H') →
    es.length = cs.length ∧ (∃ v, (es ++ [(ts', H', undef)])[0]? = some (ts, H, v)) ∧
    ∀ (i : Nat) (c : COper), cs[i]? = some c → ∃ e e', (es ++ [(ts', H', undef)])[i]? = some e ∧ (es ++ [(ts', H', undef)])[i + 1]? = some e' ∧ StepRel call c (rid + ridAt cs i) e e' := by
  intro cs
  induction cs with
  | nil =>
    intro rid ts H es ts' H' h
    simp only [drawRun, Option.some.injEq, Prod.mk.injEq] at h
    obtain ⟨rfl, rfl, rfl⟩ := h
    exact ⟨rfl, ⟨undef, rfl⟩, fun i c e => by simp at e⟩
  | cons o l ih =>
    intro rid ts H es ts' H' h
    simp only [drawRun] at h
    have step : ∀ (v : Value) (H1 : AH) (es2 : List DEnt), drawRun call l (ridNext o rid) (aput ts o.dst v) H1 = some (es2, ts', H') → es = (ts, H, v) :: es2 → (∀ e' : DEnt, e'.1 = aput ts o.dst v → e'.2.1 = H1 → StepRel call o rid (ts, H, v) e') →
        es.length = (o :: l).length ∧ (∃ v, (es ++ [(ts', H', undef)])[0]? = some (ts, H, v)) ∧
        ∀ (i : Nat) (c : COper), (o :: l)[i]? = some c → ∃ e e', (es ++ [(ts', H', undef)])[i]? = some e ∧ (es ++ [(ts', H', undef)])[i + 1]? = some e' ∧ StepRel call c (rid + ridAt (o :: l) i) e e' := by
      intro v H1 es2 hr he hs
      obtain ⟨h1, ⟨u, h2⟩, h3⟩ := ih _ _ _ _ _ _ hr
      subst he
      refine ⟨by simp [h1], ⟨v, rfl⟩, fun i c hc => ?_⟩
      cases i with
      | zero =>
        simp only [List.getElem?_cons_zero, Option.some.injEq] at hc; subst hc
        exact ⟨(ts, H, v), _, rfl, by simpa using h2, hs _ rfl rfl⟩
      | succ i =>
        simp only [List.getElem?_cons_succ] at hc
        obtain ⟨e, e', h4, h5, h6⟩ := h3 i c hc
        refine ⟨e, e', by simpa using h4, by simpa using h5, ?_⟩
        have : rid + ridAt (o :: l) (i + 1) = ridNext o rid + ridAt l i := by
          simp only [ridAt, List.take_succ_cons, allocsIn, ridNext]
          split <;> omega
        rw [this]; exact h6
    split at h
    · rename_i hg
      split at h
      · rename_i v H1 hop
        split at h
        · rename_i es2 r hr
          simp only [Option.some.injEq, Prod.mk.injEq] at h
          obtain ⟨rfl, rfl⟩ := h
          exact step v H1 es2 hr rfl fun e' h1 h2 => .inl ⟨hg, by rw [h2]; exact hop, h1⟩
        · cases h
      · cases h
    · rename_i hg
      split at h
      · rename_i es2 r hr
        simp only [Option.some.injEq, Prod.mk.injEq] at h
        obtain ⟨rfl, rfl⟩ := h
        exact step undef H es2 hr rfl fun e' h1 h2 => .inr ⟨by simpa using hg, rfl, h2, h1⟩
      · cases h

theorem rowOK_spec {bef : List Nat} {j : Nat} {cj : COper} : ∀ {l : List COper} {i0 : Nat}, rowOK bef j cj i0 l = true → ∀ (i : Nat) (c : COper), l[i]? = some c → i0 + i < j → pairOK bef (i0 + i) j c cj = true := by
  intro l
  induction l with
  | nil => intro i0 _ i c e; simp at e
  | cons x l ih =>
    intro i0 h i c e hlt
    simp only [rowOK, Bool.and_eq_true] at h
    cases i with
    | zero =>
      simp only [List.getElem?_cons_zero, Option.some.injEq] at e; subst e
      have := h.1
      rw [if_pos (by omega)] at this
      exact this
    | succ i =>
      have := ih h.2 i c (by simpa using e) (by omega)
      rwa [show i0 + 1 + i = i0 + (i + 1) by omega] at this

theorem rowsOK_spec {bef : List Nat} {all : List COper} : ∀ {l : List COper} {j0 : Nat}, rowsOK bef all j0 l = true → ∀ (j : Nat) (c : COper), l[j]? = some c →
    rowOK bef (j0 + j) c 0 all = true ∧ (c.op.isAlloc = true → c.guard = none) ∧ (c.op.reads = true → readOK bef (j0 + j) all = true) := by
  intro l
  induction l with
  | nil => intro j0 _ j c e; simp at e
  | cons x l ih =>
    intro j0 h j c e
    simp only [rowsOK, Bool.and_eq_true] at h
    cases j with
    | zero =>
      simp only [List.getElem?_cons_zero, Option.some.injEq] at e; subst e
      refine ⟨h.1.1.1, fun ha => ?_, fun ha => ?_⟩
      · have h2 := h.1.1.2
        rw [ha] at h2
        simpa using h2
      · have h2 := h.1.2
        rw [ha] at h2
        simpa using h2
    | succ j =>
      have := ih h.2 j c (by simpa using e)
      rwa [show j0 + 1 + j = j0 + (j + 1) by omega] at this

theorem edgesOK_spec : ∀ {l : List Oper} {i0 : Nat}, edgesOK i0 l = true → ∀ (i : Nat) (o : Oper), l[i]? = some o → ∀ e ∈ o.after.toList, Region.binds .any e = true → e.on < i0 + i := by
  intro l
  induction l with
  | nil => intro i0 _ i o e; simp at e
  | cons x l ih =>
    intro i0 h i o eo e he hb
    simp only [edgesOK, Bool.and_eq_true, List.all_eq_true] at h
    cases i with
    | zero =>
      simp only [List.getElem?_cons_zero, Option.some.injEq] at eo; subst eo
      have := h.1 e he
      rw [hb] at this
      simpa [Nat.blt_eq] using this
    | succ i =>
      have := ih h.2 i o (by simpa using eo) e he hb
      omega

/-- A set of operations that holds with each what stands ahead of it. -/
def Closed (ops : List Oper) (S : Nat → Bool) : Prop := ∀ (j : Nat) (o : Oper), ops[j]? = some o → S j = true → ∀ e ∈ o.after.toList, Region.binds .any e = true → S e.on = true

theorem befStep_bits {acc : List Nat} {o : Oper} {i : Nat} (h : (befStep acc o).testBit i = true) : ∃ e ∈ o.after.toList, Region.binds .any e = true ∧ (e.on = i ∨ (acc.getD e.on 0).testBit i = true) := by
  unfold befStep at h
  have key : ∀ (l : List Edge) (s : Nat), (l.foldl (fun s e => if Region.binds .any e then (s ||| 2 ^ e.on) ||| acc.getD e.on 0 else s) s).testBit i = true →
      s.testBit i = true ∨ ∃ e ∈ l, Region.binds .any e = true ∧ (e.on = i ∨ (acc.getD e.on 0).testBit i = true) := by
    intro l
    induction l with
    | nil => intro s h; exact .inl h
    | cons x l ih =>
      intro s h
      simp only [List.foldl_cons] at h
      rcases ih _ h with h1 | ⟨e, he, hb⟩
      · split at h1
        · rename_i hx
          rw [Nat.testBit_or, Nat.testBit_or, Bool.or_eq_true, Bool.or_eq_true] at h1
          rcases h1 with (h1 | h1) | h1
          · exact .inl h1
          · rw [Nat.testBit_two_pow] at h1
            exact .inr ⟨x, by simp, hx, .inl (by simpa using h1)⟩
          · exact .inr ⟨x, by simp, hx, .inr h1⟩
        · exact .inl h1
      · exact .inr ⟨e, by simp [he], hb⟩
  rcases key _ _ h with h1 | h1
  · simp at h1
  · exact h1

/-- What 'befs' says of each operation. -/
theorem befs_spec : ∀ (l : List Oper) (acc : List Nat), (∀ i, i < acc.length → (befs acc l).getD i 0 = acc.getD i 0) ∧
    ∀ (k : Nat) (o : Oper), l[k]? = some o → ∃ acc2 : List Nat, (befs acc l).getD (acc.length + k) 0 = befStep acc2 o ∧ ∀ i, acc2.getD i 0 = (if i < acc.length + k then (befs acc l).getD i 0 else 0) := by
  intro l
  induction l with
  | nil => intro acc; exact ⟨fun i _ => rfl, fun k o e => by simp at e⟩
  | cons x l ih =>
    intro acc
    obtain ⟨h1, h2⟩ := ih (acc ++ [befStep acc x])
    have h1' : ∀ i, i < acc.length → (befs acc (x :: l)).getD i 0 = acc.getD i 0 := by
      intro i hi
      simp only [befs]
      rw [h1 i (by simp; omega)]
      simp [List.getD_eq_getElem?_getD, List.getElem?_append_left hi]
    refine ⟨h1', fun k o e => ?_⟩
    cases k with
    | zero =>
      simp only [List.getElem?_cons_zero, Option.some.injEq] at e; subst e
      refine ⟨acc, ?_, fun i => ?_⟩
      · simp only [befs, Nat.add_zero]
        rw [h1 acc.length (by simp)]
        simp [List.getD_eq_getElem?_getD]
      · simp only [Nat.add_zero]
        split
        · rename_i hi; rw [h1' i hi]
        · rename_i hi; simp [List.getD_eq_getElem?_getD, List.getElem?_eq_none (Nat.le_of_not_lt hi)]
    | succ k =>
      obtain ⟨acc2, h3, h4⟩ := h2 k o (by simpa using e)
      refine ⟨acc2, ?_, fun i => ?_⟩
      · simp only [befs]; rw [← h3]; congr 1; simp; omega
      · rw [h4 i]; simp only [befs, List.length_append, List.length_singleton]
        rw [show acc.length + 1 + k = acc.length + (k + 1) by omega]

theorem bef_closed {ops : List Oper} {S : Nat → Bool} (hS : Closed ops S) (hlt : ∀ (i : Nat) (o : Oper), ops[i]? = some o → ∀ e ∈ o.after.toList, Region.binds .any e = true → e.on < i) :
    ∀ (j : Nat) (o : Oper), ops[j]? = some o → (∀ e ∈ o.after.toList, Region.binds .any e = true → S e.on = true) → ∀ i, ((befs [] ops).getD j 0).testBit i = true → i < j ∧ S i = true := by
  intro j
  induction j using Nat.strongRecOn with
  | _ j ih =>
    intro o ho hall i hi
    obtain ⟨acc2, h1, h2⟩ := (befs_spec ops []).2 j o ho
    simp only [List.length_nil, Nat.zero_add] at h1 h2
    rw [h1] at hi
    obtain ⟨e, he, hb, hor⟩ := befStep_bits hi
    have hej := hlt j o ho e he hb
    rcases hor with rfl | hor
    · exact ⟨hej, hall e he hb⟩
    · rw [h2, if_pos hej] at hor
      have hlen : e.on < ops.length := by
        have := (List.getElem?_eq_some_iff.1 ho).1; omega
      have heo := List.getElem?_eq_getElem hlen
      have := ih e.on hej _ heo (hS _ _ heo (hall e he hb)) i hor
      exact ⟨by omega, this.2⟩

end
end Go.Ads
/- A region whose order is drawn: every order does what the text's order does. -/
namespace Go.Ads
noncomputable section
variable {P : Program} {gs : List Nat}

/-- An operation that lays a block. -/
theorem comp_isAlloc {o : Oper} {z : List Value} (hc : comp P gs o = some (.alloc z)) : ∃ t i zv, o.op = .alloc t ∧ P.info? t = some i ∧ i.zero = some zv ∧ zv.cells.toList = z ∧ plainV zv = true := by
  unfold comp at hc
  by_cases hops : okOps gs o.op.operands.toList = true
  case neg => rw [if_neg hops] at hc; cases hc
  rw [if_pos hops] at hc
  have hbin : ∀ {op : BinOp} {t : TypeId} {x y : Operand}, compBin P op t x y = some (COp.alloc z) → False := by
    intro op t x y h
    unfold compBin at h
    (repeat' split at h) <;> first | (cases h; done)
  have hconv : ∀ {a b : TypeId} {x : Operand}, compConv P a b x = some (COp.alloc z) → False := by
    intro a b x h
    unfold compConv at h
    (repeat' split at h) <;> first | (cases h; done)
  have hbi : ∀ {b : Builtin} {ts : List TypeId} {args : List Operand}, compBuiltin P b ts args = some (COp.alloc z) → False := by
    intro b ts args h
    unfold compBuiltin at h
    (repeat' split at h) <;> first | (cases h; done)
  split at hc
  case h_4 =>
    rename_i t ho
    split at hc
    · rename_i zv _ _ hz
      simp only [Option.some.injEq, COp.alloc.injEq] at hc
      obtain ⟨i, hi, hiz, _, _, _, hp⟩ := zeroOf_spec hz
      exact ⟨t, i, zv, ho, hi, hiz, hc, hp⟩
    · cases hc
  all_goals (try (first
    | (cases hc; done)
    | (exact (hbin hc).elim)
    | (exact (hconv hc).elim)
    | ((repeat' split at hc) <;> (first | (cases hc; done) | (exact (hbi hc).elim)))))

/-- A block that was laid ahead of its turn is told now. -/
theorem Went.adopt {ρ0 ρ : Ren} {H0 H : AH} {w0 w : World} (h : Went ρ0 H0 w0 ρ H w) {b r : Nat} {z : List Value} {c : Array Value} {t : TypeId} (hb : ρ b = some ⟨r, 0, z.length, z.length, 0⟩) (hn : H.get b = none) (hlt : b < H.next)
    (hr : w.heap[r]? = some (.cells c t (0, 0))) (hz : VRels ρ z c.toList) (hl : ¬ Lives ρ H r) (hnew : w0.heap.size ≤ r) : Went ρ0 H0 w0 ρ (H.set b (.cells z 0 false)) w := by
  have key : ∀ c' x, (H.set b (.cells z 0 false)).get c' = some x → (c' = b ∧ x = .cells z 0 false) ∨ (c' ≠ b ∧ H.get c' = some x) := by
    intro c' x e
    rw [AH.get_set] at e
    by_cases hc : c' = b
    · rw [if_pos ⟨hc, hlt⟩] at e; cases e; exact .inl ⟨hc, rfl⟩
    · rw [if_neg (fun z => hc z.1)] at e; exact .inr ⟨hc, e⟩
  have hlen : c.size = z.length := by have := hz.length; simpa using this
  have hcell : ∀ i, w.cell? ⟨r, i, none⟩ = c[i]? := by intro i; simp [World.cell?, hr]
  have hobj : ObjRel ρ w ⟨r, 0, z.length, z.length, 0⟩ (.cells z 0 false) := by
    refine ⟨⟨rfl, by simp [World.shape?, hr], fun i v e => ?_, fun i hi => ?_, fun _ i _ => by simp [World.frozen?, hr]⟩, rfl, by simp [Loc.ext]⟩
    · obtain ⟨v', e', rv⟩ := hz.get? e
      exact ⟨v', by rw [hcell]; simpa using e', rv⟩
    · rw [hcell]
      simp only [Loc.ext] at hi
      have : 0 + i < c.size := by simp at hi; omega
      simp only [Array.getElem?_eq_getElem this, Option.isSome_some]
  refine ⟨h.le, ⟨fun c' x e => ?_, fun c' l e => h.rel.dom c' l e, fun c1 x1 c2 x2 l1 l2 e1 e2 hne hro h1 h2 hbb => ?_⟩, h.next, h.size, h.frame, fun r' hr' ho => ?_, fun r' hr' ho => ?_, h.fresh, fun c' x e => (key c' _ e).elim (fun z => by cases z.2) (fun z => h.loops c' x z.2), h.os, h.tape, h.output⟩
  · rcases key c' x e with ⟨rfl, rfl⟩ | ⟨_, e'⟩
    · exact ⟨_, hb, hobj⟩
    · exact h.rel.obj c' x e'
  · rcases key c1 x1 e1 with ⟨rfl, rfl⟩ | ⟨hc1, e1'⟩
    · rw [hb] at h1; cases h1
      rcases key c2 x2 e2 with ⟨rfl, rfl⟩ | ⟨hc2, e2'⟩
      · exact absurd rfl hne
      · exact absurd ⟨c2, x2, l2, e2', h2, hbb.symm⟩ hl
    · rcases key c2 x2 e2 with ⟨rfl, rfl⟩ | ⟨hc2, e2'⟩
      · rw [hb] at h2; cases h2
        exact absurd ⟨c1, x1, l1, e1', h1, hbb⟩ hl
      · exact h.rel.apart c1 x1 c2 x2 l1 l2 e1' e2' hne hro h1 h2 hbb
  · obtain ⟨c', x, l, e, hro, hl', hbk⟩ := ho
    rcases key c' x e with ⟨rfl, rfl⟩ | ⟨_, e'⟩
    · rw [hb] at hl'; cases hl'; simp only at hbk; omega
    · exact h.owns r' hr' ⟨c', x, l, e', hro, hl', hbk⟩
  · obtain ⟨c', x, l, e, hl', hbk⟩ := ho
    rcases key c' x e with ⟨rfl, rfl⟩ | ⟨_, e'⟩
    · rw [hb] at hl'; cases hl'; simp only at hbk; omega
    · exact h.lives r' hr' ⟨c', x, l, e', hl', hbk⟩

/-- A block is laid, and not told yet. -/
theorem Went.lay {ρ0 ρ : Ren} {H0 H : AH} {w0 w : World} (h : Went ρ0 H0 w0 ρ H w) (b : Nat) (l : Loc) (o : Obj) (hb : ρ b = none) (hlt : b < H.next) (hge : H0.next ≤ b) (hn : H.get b = none) :
    Went ρ0 H0 w0 (ρ.put b l) H (w.alloc o) := by
  have hle : ρ.le (ρ.put b l) := by
    intro c k e
    unfold Ren.put
    split
    · rename_i hc; subst hc; rw [hb] at e; cases e
    · exact e
  have hput : ∀ c k x, H.get c = some x → (ρ.put b l) c = some k → ρ c = some k := by
    intro c k x ex e
    unfold Ren.put at e
    split at e
    · rename_i hc; subst hc; rw [hn] at ex; cases ex
    · exact e
  refine ⟨Ren.le_trans h.le hle, ⟨fun c x e => ?_, fun c k e => ?_, fun c1 x1 c2 x2 l1 l2 e1 e2 hne hro h1 h2 hbb => ?_⟩, h.next, Nat.le_trans h.size (by show _ ≤ (w.heap.push o).size; simp), fun r hr ho => ?_, fun r hr ho => ?_, fun r hr ho => ?_, fun c k e => ?_, h.loops, h.os, h.tape, h.output⟩
  · obtain ⟨k, ek, hk⟩ := h.rel.obj c x e
    exact ⟨k, hle _ _ ek, (hk.mono hle).of_same (alloc_old o hk.lt)⟩
  · unfold Ren.put at e
    split at e
    · rename_i hc; subst hc; exact hlt
    · exact h.rel.dom c k e
  · exact h.rel.apart c1 x1 c2 x2 l1 l2 e1 e2 hne hro (hput _ _ _ e1 h1) (hput _ _ _ e2 h2) hbb
  · rw [← h.frame r hr ho]; exact alloc_old o (Nat.lt_of_lt_of_le hr h.size)
  · obtain ⟨c, x, k, e, hro, hk, hbk⟩ := ho
    exact h.owns r hr ⟨c, x, k, e, hro, hput _ _ _ e hk, hbk⟩
  · obtain ⟨c, x, k, e, hk, hbk⟩ := ho
    exact h.lives r hr ⟨c, x, k, e, hput _ _ _ e hk, hbk⟩
  · unfold Ren.put at e
    split at e
    · rename_i hc; subst hc; exact .inr hge
    · exact h.fresh c k e

end
end Go.Ads
/- A region whose order is drawn: the induction. -/
namespace Go.Ads
noncomputable section
variable {P : Program} {gs : List Nat}

/-- All that is known of a region and of its run in the text's order. -/
structure Plan (P : Program) (gs : List Nat) (call : CallF) (ops : Array Oper) (cs : List COper) (base n : Nat) (T : Nat → List Value) (Hh : Nat → AH) (V : Nat → Value) : Prop where
  size : ops.size = n
  len : cs.length = n
  comp : ∀ (i : Nat) (o : Oper), ops[i]? = some o → ∃ c, cs[i]? = some c ∧ compOper P gs ops o = some c
  step : ∀ (i : Nat) (c : COper), cs[i]? = some c → (guarded c.guard (T i) = true ∧ runOpD call c.op (aeval (T i)) (Hh i) (base + ridAt cs i) = some (V i, Hh (i + 1)) ∧ T (i + 1) = aput (T i) c.dst (V i)) ∨
    (guarded c.guard (T i) = false ∧ V i = undef ∧ Hh (i + 1) = Hh i ∧ T (i + 1) = aput (T i) c.dst (V i))
  edge : ∀ (i : Nat) (o : Oper), ops[i]? = some o → ∀ e ∈ o.after.toList, Region.binds .any e = true → e.on < i
  pair : ∀ (i j : Nat) (ci cj : COper), cs[i]? = some ci → cs[j]? = some cj → i < j → pairOK (befs [] ops.toList) i j ci cj = true
  free : ∀ (i : Nat) (c : COper), cs[i]? = some c → c.op.isAlloc = true → c.guard = none
  read : ∀ (i : Nat) (c : COper), cs[i]? = some c → c.op.reads = true → ∀ (l j : Nat) (cl cj : COper), cs[l]? = some cl → cs[j]? = some cj → cl.op.loud = true → cj.op.loud = true → l < j → j < i →
    ((befs [] ops.toList).getD i 0).testBit l = false → ((befs [] ops.toList).getD i 0).testBit j = false
  again : ∀ (i j : Nat) (ci cj : COper), cs[i]? = some ci → cs[j]? = some cj → ci.op.reads = true → cj.op.loud = true → ((befs [] ops.toList).getD j 0).testBit i = false → ((befs [] ops.toList).getD i 0).testBit j = false →
    guarded ci.guard (T i) = true → (∃ H', runOp call ci.op (aeval (T i)) (Hh j) = some (V i, H')) ∧ (∃ H', runOp call ci.op (aeval (T i)) (Hh (j + 1)) = some (V i, H'))

def writerOf (cs : List COper) (t : Tmp) : Option Nat := cs.findIdx? fun c => c.dst == some t

def curAt (cs : List COper) (V : Nat → Value) (ts0 : List Value) (S : Nat → Bool) (t : Nat) : Value :=
  match writerOf cs t with
  | some i => if S i then V i else ts0.getD t undef
  | none => ts0.getD t undef

section
variable {call : CallF} {ops : Array Oper} {cs : List COper} {base n : Nat} {T : Nat → List Value} {Hh : Nat → AH} {V : Nat → Value}

theorem Plan.dst (p : Plan P gs call ops cs base n T Hh V) {i j : Nat} {ci cj : COper} (hi : cs[i]? = some ci) (hj : cs[j]? = some cj) {t : Tmp} (h1 : ci.dst = some t) (h2 : cj.dst = some t) : i = j := by
  rcases Nat.lt_trichotomy i j with h | h | h
  · have := p.pair i j ci cj hi hj h
    simp [pairOK, sameDst, h1, h2] at this
  · exact h
  · have := p.pair j i cj ci hj hi h
    simp [pairOK, sameDst, h1, h2] at this

theorem Plan.writer (p : Plan P gs call ops cs base n T Hh V) {i : Nat} {ci : COper} (hi : cs[i]? = some ci) {t : Tmp} (h1 : ci.dst = some t) : writerOf cs t = some i := by
  unfold writerOf
  cases hw : cs.findIdx? fun c => c.dst == some t with
  | none =>
    rw [List.findIdx?_eq_none_iff] at hw
    have := hw ci (List.mem_of_getElem? hi)
    simp [h1] at this
  | some j =>
    obtain ⟨hlt, hj, _⟩ := List.findIdx?_eq_some_iff_getElem.1 hw
    have := p.dst hi (List.getElem?_eq_getElem hlt) h1 (by simpa using hj)
    rw [this]

theorem writer_spec {t : Tmp} {i : Nat} (h : writerOf cs t = some i) : ∃ c, cs[i]? = some c ∧ c.dst = some t := by
  obtain ⟨hlt, hj, _⟩ := List.findIdx?_eq_some_iff_getElem.1 h
  exact ⟨_, List.getElem?_eq_getElem hlt, by simpa using hj⟩

theorem Plan.put (p : Plan P gs call ops cs base n T Hh V) {i : Nat} {c : COper} (hi : cs[i]? = some c) : T (i + 1) = aput (T i) c.dst (V i) := by
  rcases p.step i c hi with ⟨_, _, h⟩ | ⟨_, _, _, h⟩ <;> exact h

/-- The frame in the text's order. -/
theorem Plan.text (p : Plan P gs call ops cs base n T Hh V) : ∀ i, i ≤ n → (T i).length = (T 0).length ∧ ∀ t, t < (T 0).length → (T i).getD t undef = curAt cs V (T 0) (fun j => decide (j < i)) t := by
  intro i
  induction i with
  | zero =>
    intro _
    refine ⟨rfl, fun t _ => ?_⟩
    unfold curAt
    split <;> simp
  | succ i ih =>
    intro hi
    obtain ⟨h1, h2⟩ := ih (by omega)
    have hlt : i < cs.length := by rw [p.len]; omega
    have hc := List.getElem?_eq_getElem hlt
    have hput := p.put hc
    refine ⟨?_, fun t ht => ?_⟩
    · rw [hput]; unfold aput; split <;> simp [h1]
    · rw [hput]
      unfold aput
      split
      · rename_i d hd
        by_cases hdt : d = t
        · subst hdt
          rw [show (T i).set d (V i) = (T i).set d (V i) from rfl, List.getD_eq_getElem?_getD, List.getElem?_set_self (by omega)]
          unfold curAt
          rw [p.writer hc hd]; simp
        · rw [List.getD_eq_getElem?_getD, List.getElem?_set_ne hdt, ← List.getD_eq_getElem?_getD, h2 t ht]
          unfold curAt
          split
          · rename_i j hj
            have hne : j ≠ i := by
              rintro rfl
              obtain ⟨c2, e2, e3⟩ := writer_spec hj
              rw [hc] at e2; cases e2
              rw [hd] at e3; cases e3
              exact hdt rfl
            have : decide (j < i) = decide (j < i + 1) := by simp; omega
            simp only [this]
          · rfl
      · rename_i hd
        rw [h2 t ht]
        unfold curAt
        split
        · rename_i j hj
          have hne : j ≠ i := by
            rintro rfl
            obtain ⟨c2, e2, e3⟩ := writer_spec hj
            rw [hc] at e2; cases e2
            rw [hd] at e3; cases e3
          have : decide (j < i) = decide (j < i + 1) := by simp; omega
          simp only [this]
        · rfl

/-- An operation that may be taken next. -/
structure Ready (ops : Array Oper) (S : Nat → Bool) (i : Nat) (o : Oper) : Prop where
  op : ops[i]? = some o
  not : S i = false
  ahead : ∀ e ∈ o.after.toList, Region.binds .any e = true → S e.on = true

theorem Plan.bef (p : Plan P gs call ops cs base n T Hh V) {S : Nat → Bool} (hS : Closed ops.toList S) {i : Nat} {o : Oper} (hr : Ready ops S i o) {j : Nat} (hb : ((befs [] ops.toList).getD i 0).testBit j = true) : j < i ∧ S j = true :=
  bef_closed hS (fun i o ho => p.edge i o (by simpa using ho)) i o (by simpa using hr.op) hr.ahead j hb

theorem Plan.befS (p : Plan P gs call ops cs base n T Hh V) {S : Nat → Bool} (hS : Closed ops.toList S) {i j : Nat} {c : COper} (hi : cs[i]? = some c) (hs : S i = true) (hb : ((befs [] ops.toList).getD i 0).testBit j = true) : S j = true := by
  have hlt : i < ops.toList.length := by
    have := (List.getElem?_eq_some_iff.1 hi).1
    rw [p.len] at this; rw [Array.length_toList, p.size]; exact this
  have ho := List.getElem?_eq_getElem hlt
  exact (bef_closed hS (fun i o ho => p.edge i o (by simpa using ho)) i _ ho (hS i _ ho hs) j hb).2

theorem Plan.befLt (p : Plan P gs call ops cs base n T Hh V) {i j : Nat} {c : COper} (hi : cs[i]? = some c) (hb : ((befs [] ops.toList).getD i 0).testBit j = true) : j < i := by
  have hlt : i < ops.toList.length := by
    have := (List.getElem?_eq_some_iff.1 hi).1
    rw [p.len] at this; rw [Array.length_toList, p.size]; exact this
  have ho := List.getElem?_eq_getElem hlt
  exact (bef_closed (S := fun _ => true) (fun _ _ _ _ _ _ _ => rfl) (fun i o ho => p.edge i o (by simpa using ho)) i _ ho (fun _ _ _ => rfl) j hb).1

/-- What an operation looks at stands as in the text's order. -/
theorem Plan.agree (p : Plan P gs call ops cs base n T Hh V) {S : Nat → Bool} (hS : Closed ops.toList S) {i : Nat} {o : Oper} (hr : Ready ops S i o) {c : COper} (hi : cs[i]? = some c) {t : Tmp} (ht : t ∈ c.looks) (hlt : t < (T 0).length) :
    curAt cs V (T 0) S t = (T i).getD t undef := by
  have hin : i < n := by rw [← p.len]; exact (List.getElem?_eq_some_iff.1 hi).1
  rw [(p.text i (by omega)).2 t hlt]
  unfold curAt
  split
  · rename_i j hj
    obtain ⟨cj, ej, ed⟩ := writer_spec hj
    have hcon : ∀ {a b : Nat} {ca cb : COper}, pairOK (befs [] ops.toList) a b ca cb = true → (tmpIn ca.dst cb.looks = true ∨ tmpIn cb.dst ca.looks = true) → ((befs [] ops.toList).getD b 0).testBit a = true := by
      intro a b ca cb hp hor
      simp only [pairOK, Bool.and_eq_true, Bool.or_eq_true, Bool.not_eq_true'] at hp
      rcases hp.1.2 with h | h
      · rw [Bool.or_eq_false_iff] at h
        rcases hor with h2 | h2 <;> simp [h2] at h
      · exact h
    have htm : tmpIn cj.dst c.looks = true := by simp [tmpIn, ed, ht]
    rcases Nat.lt_trichotomy j i with h | h | h
    · have hb := hcon (p.pair j i cj c ej hi h) (.inl htm)
      have := p.bef hS hr hb
      simp [this.2, h]
    · subst h
      simp [hr.not]
    · have hb := hcon (p.pair i j c cj hi ej h) (.inr htm)
      have hsj : S j = false := by
        cases hs : S j with
        | false => rfl
        | true => have := p.befS hS ej hs hb; rw [hr.not] at this; cases this
      have : ¬ j < i := by omega
      simp [hsj, this]
  · rfl

def blkOf (base : Nat) (cs : List COper) (i : Nat) : Nat := base + ridAt cs i

/-- A block that was laid ahead of its turn. -/
structure Early (ρ : Ren) (H : AH) (w0 w : World) (b : Nat) (z : List Value) (r : Nat) : Prop where
  at_ : ρ b = some ⟨r, 0, z.length, z.length, 0⟩
  cells : ∃ (c : Array Value) (t : TypeId), w.heap[r]? = some (.cells c t (0, 0)) ∧ VRels ρ z c.toList
  not : ¬ Lives ρ H r
  new : w0.heap.size ≤ r

structure Inv (cs : List COper) (base n : Nat) (T : Nat → List Value) (Hh : Nat → AH) (V : Nat → Value) (ρ0 : Ren) (H0 : AH) (w0 : World) (a0 : Act) (k : Nat) (S : Nat → Bool) (ρ : Ren) (a : Act) (w : World) : Prop where
  le : k ≤ n
  from_ : H0.next = base
  room : base + allocsIn cs ≤ (Hh k).next
  went : Went ρ0 H0 w0 ρ (Hh k) w
  ahead : ∀ (i : Nat) (c : COper), cs[i]? = some c → i < k → c.op.loud = true → S i = true
  early : ∀ (i : Nat) (c : COper), cs[i]? = some c → k ≤ i → S i = true → c.op.loud = true → ∃ z r, c.op = .alloc z ∧ Early ρ (Hh k) w0 w (blkOf base cs i) z r
  apart : ∀ (i j : Nat) (ci cj : COper) (li lj : Loc), cs[i]? = some ci → cs[j]? = some cj → i ≠ j → k ≤ i → k ≤ j → S i = true → S j = true → ci.op.loud = true → cj.op.loud = true →
    ρ (blkOf base cs i) = some li → ρ (blkOf base cs j) = some lj → li.blk ≠ lj.blk
  late : ∀ (i : Nat) (c : COper), cs[i]? = some c → c.op.isAlloc = true → S i = false → ρ (blkOf base cs i) = none
  tsize : a.tmps.size = (T 0).length
  tmps : ∀ t, t < (T 0).length → VRel ρ (curAt cs V (T 0) S t) (a.tmps.getD t undef)
  defers : a.defers = a0.defers

theorem ridAt_succ {i : Nat} {c : COper} (h : cs[i]? = some c) : ridAt cs (i + 1) = ridNext c (ridAt cs i) := by
  have key : ∀ (l : List COper) (c : COper), allocsIn (l ++ [c]) = ridNext c (allocsIn l) := by
    intro l
    induction l with
    | nil => intro c; rfl
    | cons x l ih =>
      intro c
      simp only [List.cons_append, allocsIn, ih, ridNext]
      split <;> split <;> omega
  unfold ridAt
  have hlt := (List.getElem?_eq_some_iff.1 h).1
  rw [List.take_succ_eq_append_getElem hlt, key]
  have := (List.getElem?_eq_some_iff.1 h).2
  rw [this]

theorem ridAt_mono : ∀ (d i : Nat), ridAt cs i ≤ ridAt cs (i + d) := by
  intro d
  induction d with
  | zero => intro i; exact Nat.le_refl _
  | succ d ih =>
    intro i
    have h1 := ih i
    have : ridAt cs (i + d) ≤ ridAt cs (i + (d + 1)) := by
      cases h : cs[i + d]? with
      | none =>
        have hle := List.getElem?_eq_none_iff.1 h
        unfold ridAt
        rw [List.take_of_length_le (by omega), List.take_of_length_le (by omega)]
        exact Nat.le_refl _
      | some c =>
        have := ridAt_succ h
        rw [show i + (d + 1) = i + d + 1 by omega, this]; unfold ridNext; split <;> omega
    omega

theorem ridAt_ne {i j : Nat} {ci cj : COper} (hi : cs[i]? = some ci) (hj : cs[j]? = some cj) (ai : ci.op.isAlloc = true) (aj : cj.op.isAlloc = true) (hne : i ≠ j) : blkOf base cs i ≠ blkOf base cs j := by
  have key : ∀ {i j : Nat} {ci : COper}, cs[i]? = some ci → ci.op.isAlloc = true → i < j → ridAt cs i < ridAt cs j := by
    intro i j ci hi ai hlt
    have h1 := ridAt_succ hi
    unfold ridNext at h1
    rw [if_pos ai] at h1
    have h2 := ridAt_mono (cs := cs) (j - (i + 1)) (i + 1)
    rw [show i + 1 + (j - (i + 1)) = j by omega] at h2
    omega
  unfold blkOf
  rcases Nat.lt_or_gt_of_ne hne with h | h
  · have := key hi ai h; omega
  · have := key hj aj h; omega

theorem ridAt_lt {i : Nat} {ci : COper} (hi : cs[i]? = some ci) (ai : ci.op.isAlloc = true) : ridAt cs i < allocsIn cs := by
  have h1 := ridAt_succ hi
  unfold ridNext at h1
  rw [if_pos ai] at h1
  have hlt := (List.getElem?_eq_some_iff.1 hi).1
  have h2 := ridAt_mono (cs := cs) (cs.length - (i + 1)) (i + 1)
  rw [show i + 1 + (cs.length - (i + 1)) = cs.length by omega] at h2
  have : ridAt cs cs.length = allocsIn cs := by unfold ridAt; rw [List.take_length]
  omega

variable {ρ0 : Ren} {H0 : AH} {w0 : World} {a0 : Act}

/-- The heap goes on over what is taken already. -/
theorem Plan.advance (p : Plan P gs call ops cs base n T Hh V) {S : Nat → Bool} {ρ : Ren} {a : Act} {w : World} : ∀ (d k : Nat), n - k = d → Inv cs base n T Hh V ρ0 H0 w0 a0 k S ρ a w →
    ∃ k', Inv cs base n T Hh V ρ0 H0 w0 a0 k' S ρ a w ∧ ∀ c, cs[k']? = some c → c.op.loud = true ∧ S k' = false := by
  intro d
  induction d with
  | zero =>
    intro k hk inv
    refine ⟨k, inv, fun c hc => ?_⟩
    have := (List.getElem?_eq_some_iff.1 hc).1
    rw [p.len] at this
    have := inv.le
    omega
  | succ d ih =>
    intro k hk inv
    have hlt : k < cs.length := by rw [p.len]; omega
    have hc := List.getElem?_eq_getElem hlt
    generalize cs[k] = c at hc
    -- what is asked of the next heap
    have go : (∃ H1, Hh (k + 1) = H1 ∧ Went ρ0 H0 w0 ρ H1 w ∧ (Hh k).next ≤ H1.next ∧ (∀ (i : Nat) (ci : COper), cs[i]? = some ci → k + 1 ≤ i → S i = true → ci.op.loud = true → ∀ l, ρ (blkOf base cs i) = some l → ¬ Lives ρ (Hh k) l.blk → ¬ Lives ρ H1 l.blk)) → (c.op.loud = true → S k = true) →
        ∃ k', Inv cs base n T Hh V ρ0 H0 w0 a0 k' S ρ a w ∧ ∀ c, cs[k']? = some c → c.op.loud = true ∧ S k' = false := by
      rintro ⟨H1, rfl, hw, hnx, hl⟩ hs
      refine ih (k + 1) (by omega) ⟨by omega, inv.from_, Nat.le_trans inv.room hnx, hw, fun i ci hi hik hlo => ?_, fun i ci hi hik hsi hlo => ?_, fun i j ci cj li lj hi hj hne h1 h2 => inv.apart i j ci cj li lj hi hj hne (by omega) (by omega), inv.late, inv.tsize, inv.tmps, inv.defers⟩
      · by_cases e : i = k
        · subst e; rw [hc] at hi; cases hi; exact hs hlo
        · exact inv.ahead i ci hi (by omega) hlo
      · obtain ⟨z, r, hz, he⟩ := inv.early i ci hi (by omega) hsi hlo
        exact ⟨z, r, hz, he.at_, he.cells, hl i ci hi hik hsi hlo _ he.at_ he.not, he.new⟩
    cases hlo : c.op.loud with
    | false =>
      have hsame : Hh (k + 1) = Hh k := by
        rcases p.step k c hc with ⟨_, h1, _⟩ | ⟨_, _, h1, _⟩
        · have : runOpD call c.op (aeval (T k)) (Hh k) (base + ridAt cs k) = runOp call c.op (aeval (T k)) (Hh k) := by
            cases hop : c.op <;> first | rfl | (rw [hop] at hlo; cases hlo)
          rw [this] at h1
          exact quiet_heap hlo h1
        · exact h1
      exact go ⟨Hh k, hsame, inv.went, Nat.le_refl _, fun _ _ _ _ _ _ _ _ h => h⟩ (fun h => by rw [hlo] at h; cases h)
    | true =>
      cases hs : S k with
      | false =>
        refine ⟨k, inv, fun c2 hc2 => ?_⟩
        rw [hc] at hc2; cases hc2
        exact ⟨hlo, hs⟩
      | true =>
        obtain ⟨z, r, hz, he⟩ := inv.early k c hc (Nat.le_refl _) hs hlo
        have hal : c.op.isAlloc = true := by rw [hz]; rfl
        have hfree := p.free k c hc hal
        have hHk : Hh (k + 1) = (Hh k).set (blkOf base cs k) (.cells z 0 false) := by
          rcases p.step k c hc with ⟨_, h1, _⟩ | ⟨h1, _⟩
          · rw [hz] at h1
            simp only [runOpD, Option.some.injEq, Prod.mk.injEq] at h1
            exact h1.2.symm
          · rw [hfree] at h1; cases h1
        obtain ⟨arr, t, hcell, hvr⟩ := he.cells
        have hdead : (Hh k).get (blkOf base cs k) = none := by
          cases hg : (Hh k).get (blkOf base cs k) with
          | none => rfl
          | some o => exact absurd ⟨_, o, _, hg, he.at_, rfl⟩ he.not
        have hlt2 : blkOf base cs k < (Hh k).next := by
          have h1 := ridAt_lt hc hal
          have h2 := inv.room
          unfold blkOf; omega
        have hw := inv.went.adopt he.at_ hdead hlt2 hcell hvr he.not he.new
        refine go ⟨_, hHk, hw, Nat.le_refl _, fun i ci hi hik hsi hlo2 l hl hnl => ?_⟩ (fun _ => hs)
        rintro ⟨b, o, l2, h1, h2, h3⟩
        rw [AH.get_set] at h1
        split at h1
        · rename_i hb
          rw [hb.1, he.at_] at h2
          cases h2
          exact inv.apart i k ci c l _ hi hc (by omega) (by omega) (Nat.le_refl _) hsi hs hlo2 hlo hl he.at_ h3.symm
        · exact hnl ⟨b, o, l2, h1, h2, h3⟩

end
end
end Go.Ads
/- A region whose order is drawn: each operation that is taken, and all of them. -/
namespace Go.Ads
noncomputable section
variable {P : Program} {gs : List Nat}
variable {call : CallF} {ops : Array Oper} {cs : List COper} {base n : Nat} {T : Nat → List Value} {Hh : Nat → AH} {V : Nat → Value}
variable {ρ0 : Ren} {H0 : AH} {w0 : World} {a0 : Act}

theorem opTmps_mem : ∀ {l : List Operand} {t : Tmp}, .tmp t ∈ l → t ∈ opTmps l := by
  intro l
  induction l with
  | nil => intro t h; cases h
  | cons x l ih =>
    intro t h
    rcases List.mem_cons.1 h with rfl | h
    · simp [opTmps]
    · have := ih h
      cases x <;> simp [opTmps, this]

theorem runOpD_same {c : COp} (h : c.isAlloc = false) {ev : Operand → Value} {H : AH} {rid : Nat} : runOpD call c ev H rid = runOp call c ev H := by
  cases c <;> first | rfl | (cases h; done)

/-- The frame as a list. -/
def framed (cs : List COper) (V : Nat → Value) (ts0 : List Value) (S : Nat → Bool) : List Value := (List.range ts0.length).map (curAt cs V ts0 S)

theorem framed_getD {ts0 : List Value} {S : Nat → Bool} {t : Nat} : (framed cs V ts0 S).getD t undef = if t < ts0.length then curAt cs V ts0 S t else undef := by
  unfold framed
  rw [List.getD_eq_getElem?_getD, List.getElem?_map]
  by_cases h : t < ts0.length
  · rw [if_pos h, List.getElem?_range h]; rfl
  · rw [if_neg h, List.getElem?_eq_none (by simpa using h)]; rfl
theorem framed_length {ts0 : List Value} {S : Nat → Bool} : (framed cs V ts0 S).length = ts0.length := by simp [framed]

theorem Plan.same (p : Plan P gs call ops cs base n T Hh V) {S : Nat → Bool} (hS : Closed ops.toList S) {i : Nat} {o : Oper} (hr : Ready ops S i o) {c : COper} (hi : cs[i]? = some c) {t : Tmp} (ht : t ∈ c.looks) :
    (framed cs V (T 0) S).getD t undef = (T i).getD t undef := by
  rw [framed_getD]
  have hin : i < n := by rw [← p.len]; exact (List.getElem?_eq_some_iff.1 hi).1
  split
  · rename_i h; exact p.agree hS hr hi ht h
  · rename_i h
    rw [List.getD_eq_getElem?_getD, List.getElem?_eq_none (by rw [(p.text i (by omega)).1]; omega)]; rfl

theorem Plan.sameGuard (p : Plan P gs call ops cs base n T Hh V) {S : Nat → Bool} (hS : Closed ops.toList S) {i : Nat} {o : Oper} (hr : Ready ops S i o) {c : COper} (hi : cs[i]? = some c) :
    guarded c.guard (framed cs V (T 0) S) = guarded c.guard (T i) := by
  cases hg : c.guard with
  | none => rfl
  | some x =>
    obtain ⟨t, b⟩ := x
    simp only [guarded]
    rw [p.same hS hr hi (t := t) (by simp [COper.looks, hg, guardTmps])]

theorem Plan.sameRun (p : Plan P gs call ops cs base n T Hh V) {S : Nat → Bool} (hS : Closed ops.toList S) {i : Nat} {o : Oper} (hr : Ready ops S i o) {c : COper} (hi : cs[i]? = some c) (H : AH) :
    runOp call c.op (aeval (framed cs V (T 0) S)) H = runOp call c.op (aeval (T i)) H := by
  refine runOp_congr fun x hx => ?_
  cases x with
  | tmp t => simp only [aeval]; exact p.same hS hr hi (by simp [COper.looks, opTmps_mem hx])
  | _ => rfl

/-- Whoever only looks sees now what he sees in the text's order. -/
theorem Plan.reader (p : Plan P gs call ops cs base n T Hh V) {S : Nat → Bool} (hS : Closed ops.toList S) {i : Nat} {o : Oper} (hr : Ready ops S i o) {c : COper} (hi : cs[i]? = some c) (hrd : c.op.reads = true) (hq : c.op.loud = false) (hg : guarded c.guard (T i) = true) {k : Nat} (hk : k ≤ n)
    (hah : ∀ (j : Nat) (cj : COper), cs[j]? = some cj → j < k → cj.op.loud = true → S j = true) (hat : ∀ ck, cs[k]? = some ck → ck.op.loud = true ∧ S k = false) :
    ∃ H', runOp call c.op (aeval (T i)) (Hh k) = some (V i, H') := by
  have hin : i < n := by rw [← p.len]; exact (List.getElem?_eq_some_iff.1 hi).1
  have hal : c.op.isAlloc = false := by
    cases hop : c.op <;> first | rfl | (rw [hop] at hq; cases hq)
  have h0 : ∃ H', runOp call c.op (aeval (T i)) (Hh i) = some (V i, H') := by
    rcases p.step i c hi with ⟨_, h, _⟩ | ⟨h, _⟩
    · rw [runOpD_same hal] at h; exact ⟨_, h⟩
    · rw [hg] at h; cases h
  have hquiet : ∀ (m : Nat) (cm : COper), cs[m]? = some cm → cm.op.loud = false → Hh (m + 1) = Hh m := by
    intro m cm hm hl
    have hal : cm.op.isAlloc = false := by
      cases hop : cm.op <;> first | rfl | (rw [hop] at hl; cases hl)
    rcases p.step m cm hm with ⟨_, h, _⟩ | ⟨_, _, h, _⟩
    · rw [runOpD_same hal] at h; exact quiet_heap hl h
    · exact h
  have hbef : ∀ j, i ≤ j → ((befs [] ops.toList).getD i 0).testBit j = false := by
    intro j hj
    cases hb : ((befs [] ops.toList).getD i 0).testBit j with
    | false => rfl
    | true => have := p.befLt hi hb; omega
  rcases Nat.le_total i k with hik | hki
  · -- later than in the text
    have key : ∀ d, i + d ≤ k → ∃ H', runOp call c.op (aeval (T i)) (Hh (i + d)) = some (V i, H') := by
      intro d
      induction d with
      | zero => intro _; exact h0
      | succ d ih =>
        intro hd
        have hlt : i + d < cs.length := by rw [p.len]; omega
        have hm := List.getElem?_eq_getElem hlt
        generalize cs[i + d] = cm at hm
        cases hl : cm.op.loud with
        | false =>
          rw [show i + (d + 1) = i + d + 1 by omega, hquiet _ _ hm hl]
          exact ih (by omega)
        | true =>
          have hs := hah _ _ hm (by omega) hl
          have hb : ((befs [] ops.toList).getD (i + d) 0).testBit i = false := by
            cases hb : ((befs [] ops.toList).getD (i + d) 0).testBit i with
            | false => rfl
            | true => have := p.befS hS hm hs hb; rw [hr.not] at this; cases this
          exact (p.again i (i + d) c cm hi hm hrd hl hb (hbef _ (by omega)) hg).2
    have := key (k - i) (by omega)
    rwa [show i + (k - i) = k by omega] at this
  · have key : ∀ d, d ≤ i - k → ∃ H', runOp call c.op (aeval (T i)) (Hh (i - d)) = some (V i, H') := by
      intro d
      induction d with
      | zero => intro _; exact h0
      | succ d ih =>
        intro hd
        have hlt : i - (d + 1) < cs.length := by rw [p.len]; omega
        have hm := List.getElem?_eq_getElem hlt
        generalize cs[i - (d + 1)] = cm at hm
        obtain ⟨H', h1⟩ := ih (by omega)
        have hsucc : i - d = i - (d + 1) + 1 := by omega
        rw [hsucc] at h1
        cases hl : cm.op.loud with
        | false => rw [hquiet _ _ hm hl] at h1; exact ⟨_, h1⟩
        | true =>
          have hklt : k < cs.length := by rw [p.len]; omega
          have hck := List.getElem?_eq_getElem hklt
          generalize cs[k] = ck at hck
          obtain ⟨hkl, hks⟩ := hat ck hck
          have hnk : ((befs [] ops.toList).getD i 0).testBit k = false := by
            cases hb : ((befs [] ops.toList).getD i 0).testBit k with
            | false => rfl
            | true => have := (p.bef hS hr hb).2; rw [hks] at this; cases this
          have hnj : ((befs [] ops.toList).getD i 0).testBit (i - (d + 1)) = false := by
            by_cases hjk : i - (d + 1) = k
            · rw [hjk]; exact hnk
            · exact p.read i c hi hrd k (i - (d + 1)) ck cm hck hm hkl hl (by omega) (by omega) hnk
          have hb : ((befs [] ops.toList).getD (i - (d + 1)) 0).testBit i = false := by
            cases hb : ((befs [] ops.toList).getD (i - (d + 1)) 0).testBit i with
            | false => rfl
            | true => have := p.befLt hm hb; omega
          exact (p.again i (i - (d + 1)) c cm hi hm hrd hl hb hnj hg).1
    have := key (i - k) (Nat.le_refl _)
    rwa [show i - (i - k) = k by omega] at this

/-- One more is taken. -/
def andOne (S : Nat → Bool) (i : Nat) : Nat → Bool := fun j => S j || decide (j = i)

theorem Plan.cur (p : Plan P gs call ops cs base n T Hh V) {S : Nat → Bool} {i : Nat} {c : COper} (hi : cs[i]? = some c) {t : Nat} (ht : t < (T 0).length) :
    curAt cs V (T 0) (andOne S i) t = (aput (framed cs V (T 0) S) c.dst (V i)).getD t undef := by
  have hold : writerOf cs t ≠ some i → curAt cs V (T 0) (andOne S i) t = (framed cs V (T 0) S).getD t undef := by
    intro hne
    rw [framed_getD, if_pos ht]
    unfold curAt
    split
    · rename_i j hj
      have : j ≠ i := fun e => hne (by rw [hj, e])
      simp [andOne, this]
    · rfl
  unfold aput
  split
  · rename_i d hd
    by_cases hdt : d = t
    · subst hdt
      rw [List.getD_eq_getElem?_getD, List.getElem?_set_self (by rw [framed_length]; exact ht)]
      unfold curAt
      rw [p.writer hi hd]; simp [andOne]
    · rw [List.getD_eq_getElem?_getD, List.getElem?_set_ne hdt, ← List.getD_eq_getElem?_getD]
      refine hold fun hw => ?_
      obtain ⟨c2, e2, e3⟩ := writer_spec hw
      rw [hi] at e2; cases e2
      rw [hd] at e3; cases e3; exact hdt rfl
  · rename_i hd
    refine hold fun hw => ?_
    obtain ⟨c2, e2, e3⟩ := writer_spec hw
    rw [hi] at e2; cases e2
    rw [hd] at e3; cases e3

theorem Inv.frame {k : Nat} {S : Nat → Bool} {ρ : Ren} {a : Act} {w : World} (inv : Inv cs base n T Hh V ρ0 H0 w0 a0 k S ρ a w) : VRels ρ (framed cs V (T 0) S) a.tmps.toList := by
  refine VRels.of_get (by simp [framed_length, inv.tsize]) fun t v e => ?_
  have hlt : t < (T 0).length := by
    have := (List.getElem?_eq_some_iff.1 e).1; rwa [framed_length] at this
  have h1 := inv.tmps t hlt
  have hv : v = curAt cs V (T 0) S t := by
    have : (framed cs V (T 0) S).getD t undef = v := by rw [List.getD_eq_getElem?_getD, e]; rfl
    rw [← this, framed_getD, if_pos hlt]
  subst hv
  have h2 : t < a.tmps.size := by rw [inv.tsize]; exact hlt
  refine ⟨a.tmps.toList[t]'(by simpa using h2), List.getElem?_eq_getElem _, ?_⟩
  have : a.tmps.getD t undef = a.tmps.toList[t]'(by simpa using h2) := by simp [Array.getD, h2]
  rw [← this]; exact h1

/-- One that does what its turn asks, or one that only looks. -/
theorem Plan.took (p : Plan P gs call ops cs base n T Hh V) {S : Nat → Bool} {i : Nat} {c : COper} (hi : cs[i]? = some c) {k k' : Nat} {ρ ρ' : Ren} {a : Act} {w w' : World} {v' : Value} (inv : Inv cs base n T Hh V ρ0 H0 w0 a0 k S ρ a w)
    (hkk : k ≤ k') (hkn : k' ≤ n) (hw : Went ρ (Hh k) w ρ' (Hh k') w') (hv : VRel ρ' (V i) v') (hah : ∀ (j : Nat) (cj : COper), cs[j]? = some cj → j < k' → cj.op.loud = true → andOne S i j = true) (hloud : c.op.loud = true → i < k') :
    Inv cs base n T Hh V ρ0 H0 w0 a0 k' (andOne S i) ρ' (a.put c.dst v') w' := by
  have hin : ∀ (j : Nat) (cj : COper), cs[j]? = some cj → k' ≤ j → andOne S i j = true → cj.op.loud = true → S j = true := by
    intro j cj hj hkj hs hl
    have : j ≠ i := by
      rintro rfl
      rw [hi] at hj; cases hj
      have := hloud hl; omega
    simpa [andOne, this] using hs
  have hold : ∀ (j : Nat) (cj : COper) (l : Loc), cs[j]? = some cj → k' ≤ j → andOne S i j = true → cj.op.loud = true → ρ' (blkOf base cs j) = some l → ρ (blkOf base cs j) = some l := by
    intro j cj l hj hkj hs hl hl'
    obtain ⟨z, r, _, he⟩ := inv.early j cj hj (by omega) (hin j cj hj hkj hs hl) hl
    have := hw.le _ _ he.at_
    rw [this] at hl'; cases hl'; exact he.at_
  refine ⟨hkn, inv.from_, Nat.le_trans inv.room hw.next, inv.went.trans hw, hah, fun j cj hj hkj hs hl => ?_, fun x y cx cy lx ly hx hy hne h1 h2 s1 s2 l1 l2 e1 e2 => ?_, fun j cj hj hal hs => ?_, ?_, fun t ht => ?_, ?_⟩
  · obtain ⟨z, r, hz, he⟩ := inv.early j cj hj (by omega) (hin j cj hj hkj hs hl) hl
    refine ⟨z, r, hz, hw.le _ _ he.at_, ?_, fun hlv => ?_, he.new⟩
    · obtain ⟨arr, t, hcell, hvr⟩ := he.cells
      refine ⟨arr, t, ?_, hvr.mono hw.le⟩
      have hr : r < w.heap.size := by
        rw [Array.getElem?_eq_some_iff] at hcell; exact hcell.1
      rw [hw.frame r hr fun ⟨b, o, l, x1, _, x3, x4⟩ => he.not ⟨b, o, l, x1, x3, x4⟩]
      exact hcell
    · obtain ⟨arr, t, hcell, _⟩ := he.cells
      have hr : r < w.heap.size := by
        rw [Array.getElem?_eq_some_iff] at hcell; exact hcell.1
      exact he.not (hw.lives r hr hlv)
  · exact inv.apart x y cx cy lx ly hx hy hne (by omega) (by omega) (hin x cx hx h1 s1 l1) (hin y cy hy h2 s2 l2) l1 l2 (hold x cx lx hx h1 s1 l1 e1) (hold y cy ly hy h2 s2 l2 e2)
  · have hs' : S j = false := by
      simp only [andOne, Bool.or_eq_false_iff] at hs; exact hs.1
    have := inv.late j cj hj hal hs'
    cases hb : ρ' (blkOf base cs j) with
    | none => rfl
    | some l =>
      rcases hw.fresh _ _ hb with h | h
      · rw [this] at h; cases h
      · have h1 := ridAt_lt hj hal
        have h2 := inv.room
        unfold blkOf at h; omega
  · have := inv.tsize
    cases c.dst <;> simp [Act.put, this]
  · rw [p.cur hi ht]
    have := (aput_rel (inv.frame.mono hw.le) (d := c.dst) hv).getD t (vrel_undef ρ')
    simpa [Array.getD_eq_getD_getElem?, List.getD_eq_getElem?_getD] using this
  · rw [Act.put_defers']; exact inv.defers

end
end Go.Ads
/- A region whose order is drawn: all orders. -/
namespace Go.Ads
noncomputable section
variable {P : Program} {gs : List Nat} {r : Option Nat}
variable {call : CallF} {ops : Array Oper} {cs : List COper} {base n : Nat} {T : Nat → List Value} {Hh : Nat → AH} {V : Nat → Value}
variable {ρ0 : Ren} {H0 : AH} {w0 : World} {a0 : Act}

/-- A block is laid, be it its turn or not. -/
theorem Plan.laid (p : Plan P gs call ops cs base n T Hh V) {S : Nat → Bool} {i : Nat} {o : Oper} {c : COper} (hi : cs[i]? = some c) (hco : compOper P gs ops o = some c) (hs : S i = false) {k : Nat} {ρ : Ren} {a : Act} {w : World} (inv : Inv cs base n T Hh V ρ0 H0 w0 a0 k S ρ a w)
    {z : List Value} (hz : c.op = .alloc z) {K : Act → World → Prop} {Q : Exit → Act → World → Prop} (hK : ∀ ρ' a' w', Inv cs base n T Hh V ρ0 H0 w0 a0 k (andOne S i) ρ' a' w' → K a' w') : o.wpIn (FR r) 0 P a w K Q := by
  obtain ⟨hcomp, hdst⟩ := compOper_comp hco
  rw [hz] at hcomp
  replace hcomp := hcomp.resolve_right (by intro h; cases h)
  obtain ⟨t, ti, zv, hop, hti, htz, hcells, hplain⟩ := comp_isAlloc hcomp
  have hal : c.op.isAlloc = true := by rw [hz]; rfl
  have hfree := p.free i c hi hal
  have hVi : V i = .pointer (some ⟨blkOf base cs i, 0, none⟩) := by
    rcases p.step i c hi with ⟨_, h1, _⟩ | ⟨h1, _⟩
    · rw [hz] at h1
      simp only [runOpD, Option.some.injEq, Prod.mk.injEq] at h1
      exact h1.1.symm
    · rw [hfree] at h1; cases h1
  have hnone := inv.late i c hi hal hs
  have hdead : (Hh k).get (blkOf base cs i) = none := by
    cases hg : (Hh k).get (blkOf base cs i) with
    | none => rfl
    | some ob => obtain ⟨l, e, _⟩ := inv.went.rel.obj _ _ hg; rw [hnone] at e; cases e
  have hlt : blkOf base cs i < (Hh k).next := by
    have h1 := ridAt_lt hi hal
    have h2 := inv.room
    unfold blkOf; omega
  have hik : k ≤ i := by
    rcases Nat.lt_or_ge i k with h | h
    · have := inv.ahead i c hi h (by rw [hz]; rfl); rw [hs] at this; cases this
    · exact h
  have hrun : (execOp a.eval o).run P w = .ok (.value (.pointer (some ⟨w.heap.size, 0, none⟩))) (w.alloc (.cells zv.cells t)) := by
    rw [execOp, hop]
    simp [Instr.alloc, zeroValue, typeInfo, hti, htz, newVar, newRow]
  refine wpIn_of (by intro d hd; rw [hop] at hd; cases hd) ?_
  rw [hrun, Oper.uponIn_value]
  have hsize : w0.heap.size ≤ w.heap.size := inv.went.size
  have hzz : VRels (ρ.put (blkOf base cs i) ⟨w.heap.size, 0, z.length, z.length, 0⟩) z zv.cells.toList := by
    rw [← hcells]; exact (plainV_rel hplain).cells
  have hw := inv.went.lay (blkOf base cs i) ⟨w.heap.size, 0, z.length, z.length, 0⟩ (.cells zv.cells t) hnone hlt (by rw [inv.from_]; unfold blkOf; omega) hdead
  have hat : (ρ.put (blkOf base cs i) ⟨w.heap.size, 0, z.length, z.length, 0⟩) (blkOf base cs i) = some ⟨w.heap.size, 0, z.length, z.length, 0⟩ := by simp [Ren.put]
  have hother : ∀ (j : Nat) (cj : COper), cs[j]? = some cj → cj.op.isAlloc = true → j ≠ i → (ρ.put (blkOf base cs i) ⟨w.heap.size, 0, z.length, z.length, 0⟩) (blkOf base cs j) = ρ (blkOf base cs j) := by
    intro j cj hj hja hne
    have := ridAt_ne (base := base) hj hi hja hal hne
    simp [Ren.put, this]
  have hle : ρ.le (ρ.put (blkOf base cs i) ⟨w.heap.size, 0, z.length, z.length, 0⟩) := by
    intro b l e
    unfold Ren.put
    split
    · rename_i hb; subst hb; rw [hnone] at e; cases e
    · exact e
  have hlives : ∀ r, Lives (ρ.put (blkOf base cs i) ⟨w.heap.size, 0, z.length, z.length, 0⟩) (Hh k) r → Lives ρ (Hh k) r := by
    rintro r ⟨b, ob, l, x1, x2, x3⟩
    refine ⟨b, ob, l, x1, ?_, x3⟩
    unfold Ren.put at x2
    split at x2
    · rename_i hb; subst hb; rw [hdead] at x1; cases x1
    · exact x2
  have hnl : ¬ Lives ρ (Hh k) w.heap.size := by
    rintro ⟨b, ob, l, x1, x2, x3⟩
    obtain ⟨l2, x4, x5⟩ := inv.went.rel.obj _ _ x1
    rw [x2] at x4; cases x4
    have := x5.lt; omega
  refine hK _ _ _ ⟨inv.le, inv.from_, inv.room, hw, fun j cj hj hjk hl => ?_, fun j cj hj hkj hsj hl => ?_, fun x y cx cy lx ly hx hy hne h1 h2 s1 s2 l1 l2 e1 e2 => ?_, fun j cj hj hja hsj => ?_, ?_, fun tt htt => ?_, ?_⟩
  · have := inv.ahead j cj hj hjk hl
    simp [andOne, this]
  · by_cases hji : j = i
    · subst hji
      rw [hi] at hj; cases hj
      refine ⟨z, w.heap.size, hz, hat, ⟨zv.cells, t, alloc_new _ _, hzz⟩, fun h => hnl (hlives _ h), hsize⟩
    · have hsj' : S j = true := by simpa [andOne, hji] using hsj
      obtain ⟨z2, r, hz2, he⟩ := inv.early j cj hj hkj hsj' hl
      obtain ⟨arr, t2, hcell, hvr⟩ := he.cells
      have hr : r < w.heap.size := by
        rw [Array.getElem?_eq_some_iff] at hcell; exact hcell.1
      exact ⟨z2, r, hz2, hle _ _ he.at_, ⟨arr, t2, by rw [alloc_old _ hr]; exact hcell, hvr.mono hle⟩, fun h => he.not (hlives _ h), he.new⟩
  · have hold : ∀ (j : Nat) (cj : COper) (l : Loc), cs[j]? = some cj → k ≤ j → j ≠ i → andOne S i j = true → cj.op.loud = true → (ρ.put (blkOf base cs i) ⟨w.heap.size, 0, z.length, z.length, 0⟩) (blkOf base cs j) = some l → S j = true ∧ ρ (blkOf base cs j) = some l ∧ l.blk < w.heap.size := by
      intro j cj l hj hkj hne hsj hl e
      have hsj' : S j = true := by simpa [andOne, hne] using hsj
      obtain ⟨z2, r, hz2, he⟩ := inv.early j cj hj hkj hsj' hl
      have hja : cj.op.isAlloc = true := by rw [hz2]; rfl
      rw [hother j cj hj hja hne] at e
      obtain ⟨arr, t2, hcell, _⟩ := he.cells
      have hr : r < w.heap.size := by
        rw [Array.getElem?_eq_some_iff] at hcell; exact hcell.1
      have e2 := he.at_
      rw [e] at e2; cases e2
      exact ⟨hsj', e, hr⟩
    by_cases hxi : x = i
    · subst hxi
      rw [hat] at e1; cases e1
      have := (hold y cy ly hy h2 (Ne.symm hne) s2 l2 e2).2.2
      simp only; omega
    · by_cases hyi : y = i
      · subst hyi
        rw [hat] at e2; cases e2
        have := (hold x cx lx hx h1 hxi s1 l1 e1).2.2
        simp only; omega
      · obtain ⟨sx, ex, _⟩ := hold x cx lx hx h1 hxi s1 l1 e1
        obtain ⟨sy, ey, _⟩ := hold y cy ly hy h2 hyi s2 l2 e2
        exact inv.apart x y cx cy lx ly hx hy hne h1 h2 sx sy l1 l2 ex ey
  · have hji : j ≠ i := by rintro rfl; simp [andOne] at hsj
    rw [hother j cj hj hja hji]
    exact inv.late j cj hj hja (by simpa [andOne, hji] using hsj)
  · have := inv.tsize
    cases o.dst <;> simp [Act.put, this]
  · rw [p.cur hi htt, hVi, hdst]
    have := (aput_rel (inv.frame.mono hle) (d := o.dst) (VRel.ptr (a := ⟨blkOf base cs i, 0, none⟩) (a' := ⟨w.heap.size, 0, none⟩) ⟨_, hat, rfl, by simp⟩)).getD tt (vrel_undef _)
    simpa [Array.getD_eq_getD_getElem?, List.getD_eq_getElem?_getD] using this
  · rw [Act.put_defers']; exact inv.defers

/-- Whichever may be taken next is taken. -/
theorem Plan.one (p : Plan P gs call ops cs base n T Hh V) (hcall : CallOK P gs call) (hgl : GlobOK ρ0 gs) (hlo : LoopsOK P gs H0) {S : Nat → Bool} (hS : Closed ops.toList S) {i : Nat} {o : Oper} (hr : Ready ops S i o) {k : Nat} {ρ : Ren} {a : Act} {w : World} (inv : Inv cs base n T Hh V ρ0 H0 w0 a0 k S ρ a w)
    (hat : ∀ ck, cs[k]? = some ck → ck.op.loud = true ∧ S k = false) {K : Act → World → Prop} {Q : Exit → Act → World → Prop} (hK : ∀ k' ρ' a' w', Inv cs base n T Hh V ρ0 H0 w0 a0 k' (andOne S i) ρ' a' w' → K a' w') : wpOpIn (FR r) 0 P ops Q i K a w := by
  obtain ⟨c, hi, hco⟩ := p.comp i o hr.op
  obtain ⟨_, hdst⟩ := compOper_comp hco
  have hin : i < n := by rw [← p.len]; exact (List.getElem?_eq_some_iff.1 hi).1
  have hg := hgl.mono inv.went.le
  unfold wpOpIn
  simp only [hr.op]
  rw [guarded_wanted inv.frame hco, p.sameGuard hS hr hi]
  -- those that turn the heap come in turn, but for blocks that are laid
  have turn : c.op.loud = true → c.op.isAlloc = false ∨ guarded c.guard (T i) = false → i = k := by
    intro hl hor
    have hge : ¬ i < k := fun h => by have := inv.ahead i c hi h hl; rw [hr.not] at this; cases this
    rcases Nat.lt_or_ge k i with h | h
    · have hklt : k < cs.length := by rw [p.len]; omega
      have hck := List.getElem?_eq_getElem hklt
      generalize cs[k] = ck at hck
      obtain ⟨hkl, hks⟩ := hat ck hck
      have hp := p.pair k i ck c hck hi h
      simp only [pairOK, Bool.and_eq_true, Bool.or_eq_true, Bool.not_eq_true', hkl, hl, Bool.and_true] at hp
      rcases hp.2 with (h2 | h2) | h2
      · cases h2
      · have := (p.bef hS hr h2).2; rw [hks] at this; cases this
      · simp only [COper.free, Bool.and_eq_true, Option.isNone_iff_eq_none] at h2
        rcases hor with h3 | h3
        · rw [h2.1] at h3; cases h3
        · rw [h2.2] at h3; cases h3
    · omega
  have hahk : ∀ (j : Nat) (cj : COper), cs[j]? = some cj → j < k → cj.op.loud = true → andOne S i j = true := by
    intro j cj hj hjk hl
    have := inv.ahead j cj hj hjk hl
    simp [andOne, this]
  have hahk1 : i = k → ∀ (j : Nat) (cj : COper), cs[j]? = some cj → j < k + 1 → cj.op.loud = true → andOne S i j = true := by
    intro hik j cj hj hjk hl
    by_cases h : j = k
    · simp [andOne, h, hik]
    · exact hahk j cj hj (by omega) hl
  cases hgd : guarded c.guard (T i) with
  | false =>
    rw [if_neg (by simp)]
    obtain ⟨hV, hH⟩ : V i = undef ∧ Hh (i + 1) = Hh i := by
      rcases p.step i c hi with ⟨h, _⟩ | ⟨_, h1, h2, _⟩
      · rw [hgd] at h; cases h
      · exact ⟨h1, h2⟩
    rw [← hdst]
    refine ⟨fun _ _ => trivial, ?_⟩
    cases hl : c.op.loud with
    | true =>
      have hik := turn hl (.inr hgd)
      subst hik
      exact hK (i + 1) ρ _ w (p.took hi inv (by omega) (by omega) (by rw [hH]; exact Went.refl inv.went.rel) (by rw [hV]; exact vrel_undef _) (hahk1 rfl) (fun _ => by omega))
    | false =>
      exact hK k ρ _ w (p.took hi inv (Nat.le_refl _) inv.le (Went.refl inv.went.rel) (by rw [hV]; exact vrel_undef _) hahk (fun h => by rw [hl] at h; cases h))
  | true =>
    rw [if_pos rfl]
    by_cases hal : c.op.isAlloc = true
    · cases hop : c.op with
      | alloc z => exact p.laid hi hco hr.not inv hop fun ρ' a' w' h => hK k ρ' a' w' h
      | _ => rw [hop] at hal; cases hal
    have hal' : c.op.isAlloc = false := by simpa using hal
    have hstep : runOp call c.op (aeval (T i)) (Hh i) = some (V i, Hh (i + 1)) := by
      rcases p.step i c hi with ⟨_, h, _⟩ | ⟨h, _⟩
      · rwa [runOpD_same hal'] at h
      · rw [hgd] at h; cases h
    cases hl : c.op.loud with
    | true =>
      have hik := turn hl (.inl hal')
      subst hik
      rw [← p.sameRun hS hr hi] at hstep
      refine runOper_ok hcall inv.went.rel hg (hlo.same inv.went.loops) inv.frame hco hstep _ _ fun ρ' v' w' hv hw => ?_
      rw [← hdst]
      exact hK (i + 1) ρ' _ w' (p.took hi inv (by omega) (by omega) hw hv (hahk1 rfl) (fun _ => by omega))
    | false =>
      have hnow : runOp call c.op (aeval (T i)) (Hh k) = some (V i, Hh k) := by
        cases hrd : c.op.reads with
        | false => exact pure_any hl hrd hstep (Hh k)
        | true =>
          obtain ⟨H', h1⟩ := p.reader hS hr hi hrd hl hgd inv.le inv.ahead hat
          have := quiet_heap hl h1
          rw [this] at h1; exact h1
      rw [← p.sameRun hS hr hi] at hnow
      refine runOper_ok hcall inv.went.rel hg (hlo.same inv.went.loops) inv.frame hco hnow _ _ fun ρ' v' w' hv hw => ?_
      rw [← hdst]
      exact hK k ρ' _ w' (p.took hi inv (Nat.le_refl _) inv.le hw hv hahk (fun h => by rw [hl] at h; cases h))

def listedS (listed : Array Bool) (j : Nat) : Bool := listed.getD j false

theorem listedS_set {listed : Array Bool} {i : Nat} (hi : i < listed.size) (j : Nat) : listedS (listed.setIfInBounds i true) j = andOne (listedS listed) i j := by
  unfold listedS andOne
  by_cases h : j = i
  · subst h; simp [hi]
  · simp [h, Ne.symm h]

theorem ready_spec {md : Region.Mode} {listed : Array Bool} {i : Nat} (hsz : listed.size = ops.size) (h : i ∈ Region.ready md ops listed) :
    ∃ o, ops[i]? = some o ∧ i < ops.size ∧ listedS listed i = false ∧ ∀ e ∈ o.after.toList, Region.binds md e = true → listedS listed e.on = true := by
  unfold Region.ready at h
  rw [List.mem_filter] at h
  obtain ⟨h1, h2⟩ := h
  have hlt : i < ops.size := by simpa using h1
  simp only [Bool.and_eq_true, Bool.not_eq_true', Array.getElem?_eq_getElem hlt, Option.map_some, Option.getD_some] at h2
  refine ⟨_, Array.getElem?_eq_getElem hlt, hlt, ?_, fun e he hb => ?_⟩
  · have := h2.1
    unfold listedS
    have hl : i < listed.size := by omega
    simp only [Array.getD, hl, dite_true] at this ⊢
    exact this
  · have h3 := h2.2
    rw [Array.all_eq_true'] at h3
    have := h3 e (by simpa using he)
    rw [hb] at this
    simpa [listedS] using this

def count (m : Nat) (S : Nat → Bool) : Nat := ((List.range m).filter fun j => !S j).length

theorem count_le (m : Nat) (S : Nat → Bool) : count m S ≤ m := by
  have := List.length_filter_le (fun j => !S j) (List.range m)
  simpa [count] using this

theorem count_one {m : Nat} {S : Nat → Bool} {i : Nat} (hi : i < m) (hs : S i = false) : count m (andOne S i) < count m S := by
  have key : ∀ l : List Nat, (l.filter fun j => !andOne S i j).length ≤ (l.filter fun j => !S j).length ∧ (i ∈ l → (l.filter fun j => !andOne S i j).length < (l.filter fun j => !S j).length) := by
    intro l
    induction l with
    | nil => exact ⟨Nat.le_refl _, fun h => by cases h⟩
    | cons x l ih =>
      obtain ⟨h1, h2⟩ := ih
      by_cases hx : x = i
      · subst hx
        have e1 : (!andOne S x x) = false := by simp [andOne]
        have e2 : (!S x) = true := by simp [hs]
        rw [List.filter_cons, List.filter_cons, e1, e2]
        simp only [Bool.false_eq_true, if_false, if_true, List.length_cons]
        exact ⟨by omega, fun _ => by omega⟩
      · have e1 : (!andOne S i x) = (!S x) := by simp [andOne, hx]
        rw [List.filter_cons, List.filter_cons, e1]
        split
        · simp only [List.length_cons]
          refine ⟨by omega, fun h => ?_⟩
          have := h2 (by rcases List.mem_cons.1 h with h | h; exact absurd h.symm hx; exact h)
          omega
        · refine ⟨h1, fun h => h2 (by rcases List.mem_cons.1 h with h | h; exact absurd h.symm hx; exact h)⟩
  exact (key _).2 (by simpa using hi)

theorem Closed.one {S : Nat → Bool} (hS : Closed ops.toList S) {i : Nat} {o : Oper} (hr : Ready ops S i o) : Closed ops.toList (andOne S i) := by
  intro j oj hj hs e he hb
  by_cases h : j = i
  · subst h
    have : oj = o := by
      have := hr.op
      rw [← Array.getElem?_toList, hj] at this; cases this; rfl
    subst this
    have := hr.ahead e he hb
    simp [andOne, this]
  · have hs' : S j = true := by simpa [andOne, h] using hs
    have := hS j oj hj hs' e he hb
    simp [andOne, this]

/-- Nothing may be taken: all is taken. -/
theorem Plan.allTaken (p : Plan P gs call ops cs base n T Hh V) {md : Region.Mode} (hmd : md = .any) {listed : Array Bool} (hsz : listed.size = ops.size) (h : Region.ready md ops listed = []) : ∀ i, i < n → listedS listed i = true := by
  subst hmd
  intro i
  induction i using Nat.strongRecOn with
  | _ i ih =>
    intro hin
    cases hs : listedS listed i with
    | true => rfl
    | false =>
      have hlt : i < ops.size := by rw [p.size]; exact hin
      have : i ∈ Region.ready .any ops listed := by
        unfold Region.ready
        rw [List.mem_filter]
        refine ⟨by simpa using hlt, ?_⟩
        simp only [Bool.and_eq_true, Bool.not_eq_true', Array.getElem?_eq_getElem hlt, Option.map_some, Option.getD_some]
        have hl : i < listed.size := by omega
        refine ⟨?_, ?_⟩
        · unfold listedS at hs
          simp only [Array.getD, hl, dite_true] at hs ⊢
          exact hs
        · rw [Array.all_eq_true']
          intro e he
          cases hb : Region.binds .any e with
          | false => rfl
          | true =>
            have hlt2 := p.edge i _ (Array.getElem?_eq_getElem hlt) e (by simpa using he) hb
            have := ih e.on hlt2 (by omega)
            simpa [listedS] using this
      rw [h] at this; cases this

theorem Plan.all (p : Plan P gs call ops cs base n T Hh V) (hcall : CallOK P gs call) (hgl : GlobOK ρ0 gs) (hlo : LoopsOK P gs H0) {Q : Exit → Act → World → Prop}
    (hQ : ∀ ρ' a' w', VRels ρ' (T n) a'.tmps.toList → a'.defers = a0.defers → Went ρ0 H0 w0 ρ' (Hh n) w' → Q .normal a' w') :
    ∀ (fuel : Nat) (listed : Array Bool) (k : Nat) (ρ : Ren) (a : Act) (w : World), listed.size = ops.size → count n (listedS listed) ≤ fuel → Closed ops.toList (listedS listed) → Inv cs base n T Hh V ρ0 H0 w0 a0 k (listedS listed) ρ a w → wpAnyIn (FR r) 0 P .any ops Q fuel listed a w := by
  have fin : ∀ (listed : Array Bool) (k : Nat) (ρ : Ren) (a : Act) (w : World), listed.size = ops.size → Inv cs base n T Hh V ρ0 H0 w0 a0 k (listedS listed) ρ a w → Region.ready .any ops listed = [] → Q .normal a w := by
    intro listed k ρ a w hsz inv hnil
    have hall := p.allTaken rfl hsz hnil
    obtain ⟨k', inv', hat⟩ := p.advance _ k rfl inv
    have hk' : k' = n := by
      rcases Nat.lt_or_ge k' n with h | h
      · have hlt : k' < cs.length := by rw [p.len]; exact h
        have := (hat _ (List.getElem?_eq_getElem hlt)).2
        rw [hall k' h] at this; cases this
      · have := inv'.le; omega
    subst hk'
    refine hQ ρ a w ?_ inv'.defers inv'.went
    have hf := inv'.frame
    have : framed cs V (T 0) (listedS listed) = T k' := by
      obtain ⟨h1, h2⟩ := p.text k' (Nat.le_refl _)
      apply List.ext_getElem?
      intro t
      have e1 : (framed cs V (T 0) (listedS listed)).getD t undef = (T k').getD t undef := by
        rw [framed_getD]
        split
        · rename_i ht
          rw [h2 t ht]
          unfold curAt
          split
          · rename_i j hj
            obtain ⟨cj, ej, _⟩ := writer_spec hj
            have hjn : j < k' := by rw [← p.len]; exact (List.getElem?_eq_some_iff.1 ej).1
            simp [hall j hjn, hjn]
          · rfl
        · rename_i ht
          rw [List.getD_eq_getElem?_getD, List.getElem?_eq_none (by omega)]; rfl
      by_cases ht : t < (T 0).length
      · have a1 : t < (framed cs V (T 0) (listedS listed)).length := by rw [framed_length]; exact ht
        have a2 : t < (T k').length := by omega
        rw [List.getD_eq_getElem?_getD, List.getD_eq_getElem?_getD, List.getElem?_eq_getElem a1, List.getElem?_eq_getElem a2] at e1
        rw [List.getElem?_eq_getElem a1, List.getElem?_eq_getElem a2]
        simpa using e1
      · rw [List.getElem?_eq_none (by rw [framed_length]; omega), List.getElem?_eq_none (by omega)]
    rw [this] at hf; exact hf
  intro fuel
  induction fuel with
  | zero =>
    intro listed k ρ a w hsz hc hS inv
    have hnil : Region.ready .any ops listed = [] := by
      cases hr : Region.ready .any ops listed with
      | nil => rfl
      | cons x l =>
        obtain ⟨o, _, h2, h3, _⟩ := ready_spec (i := x) hsz (by rw [hr]; simp)
        have := count_one (m := n) (S := listedS listed) (i := x) (by rw [← p.size]; exact h2) h3
        omega
    exact ⟨hnil, fin listed k ρ a w hsz inv hnil⟩
  | succ fuel ih =>
    intro listed k ρ a w hsz hc hS inv
    refine ⟨fin listed k ρ a w hsz inv, fun i hi => ?_⟩
    obtain ⟨o, h1, h2, h3, h4⟩ := ready_spec hsz hi
    have hr : Ready ops (listedS listed) i o := ⟨h1, h3, h4⟩
    obtain ⟨k', inv', hat⟩ := p.advance _ k rfl inv
    refine p.one hcall hgl hlo hS hr inv' hat fun k2 ρ2 a2 w2 h => ?_
    have hfun : listedS (listed.setIfInBounds i true) = andOne (listedS listed) i := by
      funext j; exact listedS_set (by omega) j
    refine ih _ k2 ρ2 a2 w2 (by simpa using hsz) ?_ ?_ ?_
    · rw [hfun]
      have := count_one (m := n) (S := listedS listed) (i := i) (by rw [← p.size]; exact h2) h3
      omega
    · rw [hfun]; exact hS.one hr
    · rw [hfun]; exact h

end
end Go.Ads
/- A region whose order is drawn: what was looked at, and what holds then. -/
namespace Go.Ads
noncomputable section
variable {P : Program} {gs : List Nat} {r : Option Nat}

theorem veq_eq {n : Nat} {x y : Value} (h : veq n x y = true) : x = y := (veq_both n).1 x y h

theorem compOps_spec {ops : Array Oper} : ∀ {l : List Oper} {cs : List COper}, compOps P gs ops l = some cs → cs.length = l.length ∧ ∀ (i : Nat) (o : Oper), l[i]? = some o → ∃ c, cs[i]? = some c ∧ compOper P gs ops o = some c := by
  intro l
  induction l with
  | nil => intro cs h; simp only [compOps, Option.some.injEq] at h; subst h; exact ⟨rfl, fun i o e => by simp at e⟩
  | cons x l ih =>
    intro cs h
    simp only [compOps] at h
    split at h
    · rename_i c cs2 hc hcs
      simp only [Option.some.injEq] at h; subst h
      obtain ⟨h1, h2⟩ := ih hcs
      refine ⟨by simp [h1], fun i o e => ?_⟩
      cases i with
      | zero => simp only [List.getElem?_cons_zero, Option.some.injEq] at e; subst e; exact ⟨c, rfl, hc⟩
      | succ i => simp only [List.getElem?_cons_succ] at e ⊢; exact h2 i o e
    · cases h

theorem pairsHold_spec {call : CallF} {cs : List COper} {es : List DEnt} : ∀ {l : List (Nat × Nat)}, pairsHold call cs es l = true → ∀ i j, (i, j) ∈ l →
    ∃ c ts Hx v e1 e2, cs[i]? = some c ∧ es[i]? = some (ts, Hx, v) ∧ es[j]? = some e1 ∧ es[j + 1]? = some e2 ∧ (guarded c.guard ts = true → (∃ H', runOp call c.op (aeval ts) e1.2.1 = some (v, H')) ∧ (∃ H', runOp call c.op (aeval ts) e2.2.1 = some (v, H'))) := by
  intro l
  induction l with
  | nil => intro _ i j h; cases h
  | cons x l ih =>
    intro h i j hm
    obtain ⟨a, b⟩ := x
    simp only [pairsHold, Bool.and_eq_true] at h
    rcases List.mem_cons.1 hm with e | hm
    · cases e
      have h1 := h.1
      split at h1
      · rename_i c ts _ v _ H1 _ _ H2 _ h2 h3 h4 h5
        refine ⟨c, ts, _, v, _, _, h2, h3, h4, h5, fun hg => ?_⟩
        rw [hg] at h1
        simp only [Bool.not_true, Bool.false_or, Bool.and_eq_true] at h1
        have key : ∀ H, readAgain call c ts v H = true → ∃ H', runOp call c.op (aeval ts) H = some (v, H') := by
          intro H hr
          unfold readAgain at hr
          split at hr
          · rename_i u H' hu
            rw [veq_eq hr] at hu; exact ⟨_, hu⟩
          · cases hr
        exact ⟨key _ h1.1, key _ h1.2⟩
      · cases h1
    · exact ih h.2 i j hm

theorem pairsOf_spec {bef : List Nat} {cs : List COper} {i j : Nat} {ci cj : COper} (hi : cs[i]? = some ci) (hj : cs[j]? = some cj) (h1 : ci.op.reads = true) (h2 : cj.op.loud = true) (h3 : (bef.getD j 0).testBit i = false) (h4 : (bef.getD i 0).testBit j = false) : (i, j) ∈ pairsOf bef cs := by
  unfold pairsOf
  rw [List.mem_flatMap]
  refine ⟨(ci, i), ?_, ?_⟩
  · rw [List.mem_zipIdx_iff_getElem?]; exact hi
  · simp only [h1, if_true]
    rw [List.mem_filterMap]
    refine ⟨(cj, j), ?_, ?_⟩
    · rw [List.mem_zipIdx_iff_getElem?]; exact hj
    · have e1 : (Nat.testBit (bef[j]?.getD 0) i) = false := by rw [← List.getD_eq_getElem?_getD]; exact h3
      have e2 : (Nat.testBit (bef[i]?.getD 0) j) = false := by rw [← List.getD_eq_getElem?_getD]; exact h4
      simp [h2, e1, e2]

theorem readOK_spec {bef : List Nat} {i : Nat} {all : List COper} (h : readOK bef i all = true) {l j : Nat} {cl cj : COper} (hl : all[l]? = some cl) (hj : all[j]? = some cj) (l1 : cl.op.loud = true) (l2 : cj.op.loud = true) (hlj : l < j) (hji : j < i) (hb : (bef.getD i 0).testBit l = false) :
    (bef.getD i 0).testBit j = false := by
  unfold readOK at h
  rw [List.all_eq_true] at h
  have h1 := h (cl, l) (by rw [List.mem_zipIdx_iff_getElem?]; exact hl)
  have hbl : Nat.blt l i = true := by rw [Nat.blt_eq]; omega
  simp only [l1, hbl, hb, Bool.not_false, Bool.and_true, Bool.not_true, Bool.false_or] at h1
  rw [List.all_eq_true] at h1
  have h2 := h1 (cj, j) (by rw [List.mem_zipIdx_iff_getElem?]; exact hj)
  have e1 : Nat.blt l j = true := by rw [Nat.blt_eq]; omega
  have e2 : Nat.blt j i = true := by rw [Nat.blt_eq]; omega
  simp only [l2, e1, e2, Bool.true_and] at h2
  simpa using h2

/-- What stands in a table of a run. -/
def entT (E : List DEnt) (i : Nat) : List Value := (E.getD i ([], ⟨0, .leaf⟩, undef)).1
def entH (E : List DEnt) (i : Nat) : AH := (E.getD i ([], ⟨0, .leaf⟩, undef)).2.1
def entV (E : List DEnt) (i : Nat) : Value := (E.getD i ([], ⟨0, .leaf⟩, undef)).2.2

theorem ent_eq {E : List DEnt} {i : Nat} {e : DEnt} (h : E[i]? = some e) : entT E i = e.1 ∧ entH E i = e.2.1 ∧ entV E i = e.2.2 := by
  simp [entT, entH, entV, List.getD_eq_getElem?_getD, h]

theorem plan_of {call : CallF} {ops : Array Oper} {cs : List COper} {base : Nat} {ts ts' : List Value} {H H' : AH} {es : List DEnt} (hcs : compOps P gs ops ops.toList = some cs) (hst : drawStatic ops.toList cs = true)
    (hrun : drawRun call cs base ts H = some (es, ts', H')) (hp : pairsHold call cs (es ++ [(ts', H', undef)]) (pairsOf (befs [] ops.toList) cs) = true) :
    Plan P gs call ops cs base ops.size (entT (es ++ [(ts', H', undef)])) (entH (es ++ [(ts', H', undef)])) (entV (es ++ [(ts', H', undef)])) := by
  obtain ⟨hlen, hcomp⟩ := compOps_spec hcs
  obtain ⟨h1, _, h3⟩ := drawRun_spec cs base ts H es ts' H' hrun
  simp only [drawStatic, Bool.and_eq_true] at hst
  obtain ⟨hedge, hrows⟩ := hst
  refine ⟨rfl, by simpa using hlen, fun i o ho => hcomp i o (by simpa using ho), fun i c hc => ?_, fun i o ho => ?_, fun i j ci cj hi hj hij => ?_, fun i c hc ha => ?_, fun i c hc hrd l j cl cj hl hj l1 l2 hlj hji hb => ?_, fun i j ci cj hi hj hrd hl hb1 hb2 hg => ?_⟩
  · obtain ⟨e, e', he, he', hs⟩ := h3 i c hc
    obtain ⟨a1, a2, a3⟩ := ent_eq he
    obtain ⟨b1, b2, _⟩ := ent_eq he'
    rw [a1, a2, a3, b1, b2]
    rcases hs with ⟨x, y, z⟩ | ⟨x, y, z, u⟩
    · exact .inl ⟨x, y, z⟩
    · exact .inr ⟨x, y, z, by rw [y]; exact u⟩
  · have := edgesOK_spec hedge i o (by simpa using ho)
    simpa using this
  · have hr := (rowsOK_spec hrows j cj hj).1
    have := rowOK_spec hr i ci hi (by omega)
    simpa using this
  · exact (rowsOK_spec hrows i c hc).2.1 ha
  · have hr := (rowsOK_spec hrows i c hc).2.2 hrd
    rw [Nat.zero_add] at hr
    exact readOK_spec hr hl hj l1 l2 hlj hji hb
  · obtain ⟨c, ts2, Hx, v, e1, e2, x1, x2, x3, x4, x5⟩ := pairsHold_spec hp i j (pairsOf_spec hi hj hrd hl hb1 hb2)
    rw [hi] at x1; cases x1
    obtain ⟨a1, _, a3⟩ := ent_eq x2
    obtain ⟨_, b2, _⟩ := ent_eq x3
    obtain ⟨_, c2, _⟩ := ent_eq x4
    rw [a1] at hg
    rw [a1, a3, b2, c2]
    exact x5 hg

/-- A region whose order is drawn does what the text's order does. -/
theorem draw_ok (hm : P.follows .mixedOrders = true) {call : CallF} (hcall : CallOK P gs call) {id : Nat} {ops : Array Oper} {cs : List COper} {ts ts' : List Value} {H H' : AH} {ρ : Ren} {w : World} {a : Act} {Q : Exit → Act → World → Prop}
    (hcs : compOps P gs ops ops.toList = some cs) (hst : drawStatic ops.toList cs = true) (hr : runDraw call cs (pairsOf (befs [] ops.toList) cs) ts H = some (ts', H')) (hrel : Rel ρ H w) (hg : GlobOK ρ gs) (hlo : LoopsOK P gs H) (ht : VRels ρ ts a.tmps.toList)
    (hQ : ∀ ρ' a' w', VRels ρ' ts' a'.tmps.toList → a'.defers = a.defers → Went ρ H w ρ' H' w' → Q .normal a' w') : (Code.region id ops true).wpIn (FR r) 0 P Q a w := by
  unfold runDraw at hr
  split at hr
  · rename_i es ts1 H1 hrun
    split at hr
    · rename_i hp
      simp only [Option.some.injEq, Prod.mk.injEq] at hr
      obtain ⟨rfl, rfl⟩ := hr
      have p := plan_of hcs hst hrun hp
      obtain ⟨h1, ⟨u, h2⟩, h3⟩ := drawRun_spec cs _ _ _ _ _ _ hrun
      obtain ⟨hT0, hH0, _⟩ := ent_eq h2
      simp only at hT0 hH0
      have hlast : (es ++ [(ts1, H1, undef)])[ops.size]? = some (ts1, H1, undef) := by
        have : es.length = ops.size := by rw [h1, p.len]
        rw [List.getElem?_append_right (by omega), this]; simp
      obtain ⟨hTn, hHn, _⟩ := ent_eq hlast
      simp only at hTn hHn
      refine wpIn_region_any hm ?_
      have hd := Went.drawn hrel (w.drawn + 1)
      have hall := p.all (r := r) (ρ0 := ρ) (H0 := H) (w0 := { w with drawn := w.drawn + 1 }) (a0 := a) hcall hg hlo (Q := Q) (fun ρ' a' w' x y z => hQ ρ' a' w' (by rw [← hTn]; exact x) y (by rw [← hHn]; exact hd.trans z)) ops.size (Array.replicate ops.size false) 0 ρ a { w with drawn := w.drawn + 1 }
      have hfalse : ∀ j, listedS (Array.replicate ops.size false) j = false := by
        intro j; unfold listedS; simp [Array.getD_eq_getD_getElem?, Array.getElem?_replicate]; split <;> rfl
      refine hall (by simp) (count_le _ _) (fun j o _ hs => (by rw [hfalse j] at hs; cases hs)) ?_
      refine ⟨Nat.zero_le _, rfl, ?_, ?_, fun i c _ h => absurd h (Nat.not_lt_zero _), fun i c _ _ hs => (by rw [hfalse i] at hs; cases hs), fun i j ci cj li lj _ _ _ _ _ hs _ _ _ _ _ => (by rw [hfalse i] at hs; cases hs), fun i c hc ha _ => ?_, ?_, fun t htt => ?_, rfl⟩
      · rw [hH0, reserve_next]; exact Nat.le_refl _
      · rw [hH0]; exact Went.reserve hd.rel _
      · cases hb : ρ (blkOf H.next cs i) with
        | none => rfl
        | some l => have := hrel.dom _ _ hb; unfold blkOf at this; omega
      · rw [hT0]; have := ht.length; simpa using this
      · rw [hT0] at htt ⊢
        have hc : curAt cs (entV (es ++ [(ts1, H1, undef)])) ts (listedS (Array.replicate ops.size false)) t = ts.getD t undef := by
          unfold curAt
          split
          · simp [hfalse]
          · rfl
        rw [hc]
        have := ht.getD t (vrel_undef ρ)
        simpa [Array.getD_eq_getD_getElem?, List.getD_eq_getElem?_getD] using this
    · cases hr
  · cases hr

end
end Go.Ads
