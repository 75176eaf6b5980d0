/- Code over the abstract heap, run with values that are not known: the laws of numbers that such a run needs, and of loops. -/
import Derived.Test.YtfcfdmpgmnnfeaaGreatDoorAdsE
import Derived.Test.YtfcfdmpgmnnfeaaGreatDoorAdsF
import Derived.Lib.LaidTab
import Derived.ChangeSame
import Derived.RowKit3
set_option linter.unusedSimpArgs false
set_option linter.unusedVariables false
namespace Go.Ads
noncomputable section

/- Code, one piece of it at a time. -/
theorem exec_skip (E : Env) (f : Nat) (ts : List Value) (H : AH) : exec E (f + 1) .skip ts H = some (.normal, ts, H) := by rw [exec]
theorem exec_ret (E : Env) (f : Nat) (ts : List Value) (H : AH) : exec E (f + 1) .ret ts H = some (.ret, ts, H) := by rw [exec]
theorem exec_exit (E : Env) (f : Nat) (id : Nat) (ts : List Value) (H : AH) : exec E (f + 1) (.exit id) ts H = some (.exit id, ts, H) := by rw [exec]
theorem exec_region (E : Env) (f : Nat) (ops : List COper) (ts : List Value) (H : AH) : exec E (f + 1) (.region ops) ts H = match runOps (fun g args H => callF E f g args H) ops ts H with
      | some (none, ts', H') => some (.normal, ts', H')
      | some (some p, ts', H') => some (.panic p, ts', H')
      | none => none := by
  rw [exec]; rfl
theorem exec_draw (E : Env) (f : Nat) (ops : List COper) (ps : List (Nat × Nat)) (ts : List Value) (H : AH) : exec E (f + 1) (.draw ops ps) ts H = match runDraw (fun g args H => callF E f g args H) ops ps ts H with
      | some (ts', H') => some (.normal, ts', H')
      | none => none := by
  rw [exec]; rfl
theorem runOpD_na {call : CallF} {op : COp} {ev : Operand → Value} {H : AH} {rid : Nat} (h : op.isAlloc = false) : runOpD call op ev H rid = runOp call op ev H := by cases op <;> first | rfl | cases h
theorem drawRun_ops {call : CallF} : ∀ (ops : List COper) (rid : Nat) (ts : List Value) (H : AH), (ops.all fun o => !o.op.isAlloc) = true →
    (match runOps call ops ts H with | some (none, ts', H') => some (ts', H') | _ => none) = (match drawRun call ops rid ts H with | some (_, ts', H') => some (ts', H') | none => none) := by
  intro ops
  induction ops with
  | nil => intro rid ts H _; rfl
  | cons o l ih =>
    intro rid ts H h
    simp only [List.all_cons, Bool.and_eq_true, Bool.not_eq_true'] at h
    simp only [runOps, drawRun]
    have hD : runOpD call o.op (aeval ts) H rid = runOp call o.op (aeval ts) H := by
      cases ho : o.op <;> first | rfl | (rw [ho] at h; cases h.1)
    by_cases hg : guarded o.guard ts = true
    · simp only [hg, if_true, hD]
      cases hr : runOp call o.op (aeval ts) H with
      | some p =>
        obtain ⟨v, K⟩ := p
        rw [runOp_O hr]
        simp only
        rw [ih (ridNext o rid) _ _ h.2]
        cases drawRun call l (ridNext o rid) (aput ts o.dst v) K <;> rfl
      | none =>
        cases hO : runOpO call o.op (aeval ts) H with
        | none => rfl
        | some p =>
          obtain ⟨out, K⟩ := p
          cases out with
          | val v => rw [runOpO_val hO] at hr; cases hr
          | panic v => rfl
    · have hg' : guarded o.guard ts = false := by simpa using hg
      simp only [hg', Bool.false_eq_true, if_false]
      rw [ih (ridNext o rid) _ _ h.2]
      cases drawRun call l (ridNext o rid) (aput ts o.dst undef) H <;> rfl
theorem allocsIn_none : ∀ (ops : List COper), (ops.all fun o => !o.op.isAlloc) = true → allocsIn ops = 0 := by
  intro ops
  induction ops with
  | nil => intro _; rfl
  | cons o l ih =>
    intro h
    simp only [List.all_cons, Bool.and_eq_true, Bool.not_eq_true'] at h
    simp only [allocsIn, ridNext, h.1, ih h.2]
    rfl
theorem exec_drawP (E : Env) (f : Nat) (ops : List COper) (ts : List Value) (H : AH) (h : (ops.all fun o => !o.op.isAlloc) = true) : exec E (f + 1) (.draw ops []) ts H = match runOps (fun g args H => callF E f g args H) ops ts H with
      | some (none, ts', H') => some (.normal, ts', H')
      | _ => none := by
  rw [exec_draw]
  simp only [runDraw, allocsIn_none ops h, AH.reserve, pairsHold, if_true]
  have := drawRun_ops (call := fun g args H => callF E f g args H) ops H.next ts H h
  revert this
  cases drawRun (fun g args H => callF E f g args H) ops H.next ts H with
  | none =>
    cases runOps (fun g args H => callF E f g args H) ops ts H with
    | none => intro _; rfl
    | some p =>
      obtain ⟨q, ts', H'⟩ := p
      cases q with
      | none => intro h; cases h
      | some v => intro _; rfl
  | some p =>
    obtain ⟨es, ts', H'⟩ := p
    cases runOps (fun g args H => callF E f g args H) ops ts H with
    | none => intro h; cases h
    | some p =>
      obtain ⟨q, ts', H'⟩ := p
      cases q with
      | none => intro h; cases h; rfl
      | some v => intro h; cases h
theorem exec_seq (E : Env) (f : Nat) (a b : CCode) (ts : List Value) (H : AH) : exec E (f + 1) (.seq a b) ts H = match exec E f a ts H with
      | some (.normal, ts', H') => exec E f b ts' H'
      | r => r := by
  rw [exec]; rfl
theorem exec_cond (E : Env) (f : Nat) (c : Operand) (a b : CCode) (ts : List Value) (H : AH) : exec E (f + 1) (.cond c a b) ts H = match aeval ts c with
      | .bool true => exec E f a ts H
      | .bool false => exec E f b ts H
      | _ => none := by
  rw [exec]; rfl
theorem exec_block (E : Env) (f : Nat) (id : Nat) (body : CCode) (ts : List Value) (H : AH) : exec E (f + 1) (.block id body) ts H = match exec E f body ts H with
      | some (.exit id', ts', H') => if id' = id then some (.normal, ts', H') else some (.exit id', ts', H')
      | r => r := by
  rw [exec]; rfl
theorem exec_loop (E : Env) (f : Nat) (body : CCode) (ts : List Value) (H : AH) : exec E (f + 1) (.loop body) ts H = match exec E f body ts H with
      | some (.normal, ts', H') => exec E f (.loop body) ts' H'
      | r => r := by
  rw [exec]; rfl
/- Operations, one at a time. (Not by 'rfl': the kernel shall not look into them again.) -/
theorem ops_nil (call : CallF) (ts : List Value) (H : AH) : runOps call [] ts H = some (none, ts, H) := by rw [runOps]
theorem ops_go (call : CallF) (d : Option Tmp) (op : COp) (l : List COper) (ts : List Value) (H : AH) : runOps call (⟨d, op, none⟩ :: l) ts H = match runOpO call op (aeval ts) H with
      | some (.val v, H') => runOps call l (aput ts d v) H'
      | some (.panic p, H') => some (some p, ts, H')
      | none => none := by
  rw [runOps]; rfl
theorem ops_if (call : CallF) (d : Option Tmp) (op : COp) (t : Tmp) (want : Bool) (l : List COper) (ts : List Value) (H : AH) : runOps call (⟨d, op, some (t, want)⟩ :: l) ts H = if guarded (some (t, want)) ts then (match runOpO call op (aeval ts) H with
      | some (.val v, H') => runOps call l (aput ts d v) H'
      | some (.panic p, H') => some (some p, ts, H')
      | none => none) else runOps call l (aput ts d undef) H := by
  rw [runOps]; rfl
theorem o_mv (call : CallF) (ev : Operand → Value) (H : AH) (x : Operand) : runOpO call (.mv x) ev H = some (.val (ev x), H) := by
  unfold runOpO COp.run; rfl
theorem o_pick (call : CallF) (ev : Operand → Value) (H : AH) (c a b : Operand) : runOpO call (.pick c a b) ev H = valOut (withH H (apick (ev c) (ev a) (ev b))) := by
  unfold runOpO COp.run; rfl
theorem o_alloc (call : CallF) (ev : Operand → Value) (H : AH) (z : List Value) : runOpO call (.alloc z) ev H = some (.val (.pointer (some ⟨H.next, 0, none⟩)), H.push (.cells z 0 false)) := by
  unfold runOpO COp.run; rfl
theorem o_build (call : CallF) (ev : Operand → Value) (H : AH) (zero : Array Value) (places : List (Nat × Nat)) (parts : List (Nat × Operand)) : runOpO call (.build zero places parts) ev H = valOut (withH H (abuild zero (places[·]?) (evalParts ev parts))) := by
  unfold runOpO COp.run; rfl
theorem o_nilCheck (call : CallF) (ev : Operand → Value) (H : AH) (x : Operand) : runOpO call (.nilCheck x) ev H = valOut (withH H (anilCheck (ev x))) := by
  unfold runOpO COp.run; rfl
theorem o_bin (call : CallF) (ev : Operand → Value) (H : AH) (op : BinOp) (x y : Operand) : runOpO call (.bin op x y) ev H = valOut (withH H (abin op (ev x) (ev y))) := by
  unfold runOpO COp.run; rfl
theorem o_eqNil (call : CallF) (ev : Operand → Value) (H : AH) (neg const : Bool) (d : TypeDesc) (x y : Operand) : runOpO call (.eqNil neg const d x y) ev H = if nilKind d (ev x) then valOut (withH H (aeqNil neg const (ev x) (ev y))) else none := by
  unfold runOpO COp.run; simp only []; split <;> rfl
theorem o_un (call : CallF) (ev : Operand → Value) (H : AH) (op : UnOp) (x : Operand) : runOpO call (.un op x) ev H = valOut (withH H (aun op (ev x))) := by
  unfold runOpO COp.run; rfl
theorem o_toInt (call : CallF) (ev : Operand → Value) (H : AH) (k : IntKind) (x : Operand) : runOpO call (.toInt k x) ev H = valOut (withH H (atoInt k (ev x))) := by
  unfold runOpO COp.run; rfl
theorem o_slice (call : CallF) (ev : Operand → Value) (H : AH) (size : Nat) (x : Operand) (lo hi mx : Option Operand) : runOpO call (.slice size x lo hi mx) ev H = valOut (withH H (aslice size H (ev x) (lo.map ev) (hi.map ev) (mx.map ev))) := by
  unfold runOpO COp.run; rfl
theorem o_field (call : CallF) (ev : Operand → Value) (H : AH) (agg : Bool) (off size : Nat) (x : Operand) : runOpO call (.field agg off size x) ev H = valOut (withH H (apart agg off size (ev x))) := by
  unfold runOpO COp.run; rfl
theorem o_indexAddr (call : CallF) (ev : Operand → Value) (H : AH) (size : Nat) (x i : Operand) : runOpO call (.indexAddr size x i) ev H = valOut (withH H (aindexAddr size (ev x) (ev i))) := by
  unfold runOpO COp.run; rfl
theorem o_indexS (call : CallF) (ev : Operand → Value) (H : AH) (x i : Operand) : runOpO call (.indexS x i) ev H = valOut (withH H (aindexStr (ev x) (ev i))) := by
  unfold runOpO COp.run; rfl
theorem o_extract (call : CallF) (ev : Operand → Value) (H : AH) (x : Operand) (i : Nat) : runOpO call (.extract x i) ev H = valOut (withH H (aextract (ev x) i)) := by
  unfold runOpO COp.run; rfl
theorem o_len (call : CallF) (ev : Operand → Value) (H : AH) (d : TypeDesc) (x : Operand) : runOpO call (.len d x) ev H = if lenKind d (ev x) then valOut (withH H (alen H (ev x))) else none := by
  unfold runOpO COp.run; simp only []; split <;> rfl
theorem o_buildSlice (call : CallF) (ev : Operand → Value) (H : AH) (u8 : Bool) (size n : Nat) (zero : List Value) (parts : List (Nat × Operand)) : runOpO call (.buildSlice u8 size n zero parts) ev H = valOut (abuildSlice u8 size n zero H (evalParts ev parts)) := by
  unfold runOpO COp.run; rfl
theorem o_append (call : CallF) (ev : Operand → Value) (H : AH) (size bytes : Nat) (s x : Operand) : runOpO call (.append size bytes s x) ev H = match chunkOf size H (ev x) with
    | some (k, ch) => valOut (aappend size bytes H (ev s) k ch)
    | none => none := by
  unfold runOpO COp.run; simp only []; cases chunkOf size H (ev x) <;> rfl
theorem o_load1 (call : CallF) (ev : Operand → Value) (H : AH) (x : Operand) : runOpO call (.load1 x) ev H = match ev x with
    | .pointer (some a) => match H.get a.block with
      | some o => valOut (withH H (o.cell? a.off))
      | none => none
    | _ => none := by
  unfold runOpO COp.run; simp only []
  cases ev x with
  | pointer a => cases a with
    | none => rfl
    | some a =>
      simp only
      cases H.get a.block <;> rfl
  | _ => rfl
theorem o_loadN (call : CallF) (ev : Operand → Value) (H : AH) (n : Nat) (x : Operand) : runOpO call (.loadN n x) ev H = match ev x with
    | .pointer (some a) => match H.get a.block with
      | some o => match o.chunk a.off n with
        | some c => some (.val (.agg c.cells.toArray), H)
        | none => none
      | none => none
    | _ => none := by
  unfold runOpO COp.run; simp only []
  cases ev x with
  | pointer a => cases a with
    | none => rfl
    | some a =>
      simp only
      cases H.get a.block with
      | none => rfl
      | some o =>
        simp only
        cases o.chunk a.off n <;> rfl
  | _ => rfl
theorem o_store (call : CallF) (ev : Operand → Value) (H : AH) (n : Nat) (a x : Operand) : runOpO call (.store n a x) ev H = match ev a with
    | .pointer (some p) => match H.get p.block with
      | some o => if (ev x).cells.size = n then valOut (noVal ((o.put p.off (.vals (ev x).cells.toList)).map fun o' => H.set p.block o')) else none
      | none => none
    | _ => none := by
  unfold runOpO COp.run; simp only []
  cases ev a with
  | pointer a => cases a with
    | none => rfl
    | some a =>
      simp only
      cases H.get a.block with
      | none => rfl
      | some o =>
        simp only
        split <;> rfl
  | _ => rfl
theorem o_fieldAddr (call : CallF) (ev : Operand → Value) (H : AH) (off : Nat) (x : Operand) : runOpO call (.fieldAddr off x) ev H = match ev x with
    | .pointer (some a) => some (.val (.pointer (some (a.add off))), H)
    | _ => none := by
  unfold runOpO COp.run; simp only []
  cases ev x with
  | pointer a => cases a <;> rfl
  | _ => rfl
theorem o_call (call : CallF) (ev : Operand → Value) (H : AH) (f : FuncId) (args : List Operand) : runOpO call (.call f args) ev H = call (.fn f) (args.map ev) H := by
  unfold runOpO; rfl
theorem o_callV (call : CallF) (ev : Operand → Value) (H : AH) (x : Operand) (args : List Operand) : runOpO call (.callV x args) ev H = match ev x with
    | .func (.func f) first caps => call (.fn f) (first.toList ++ args.map ev ++ caps.toList) H
    | .func (.yield b) _ _ => call (.yield b) (args.map ev) H
    | _ => none := by
  unfold runOpO; rfl
theorem runOp_by (call : CallF) (c : COp) (ev : Operand → Value) (H : AH) : runOp call c ev H = match runOpO call c ev H with
    | some (.val v, H') => some (v, H')
    | _ => none := by
  cases hr : runOp call c ev H with
  | some p => obtain ⟨v, K⟩ := p; rw [runOp_O hr]
  | none =>
    cases hO : runOpO call c ev H with
    | none => rfl
    | some p =>
      obtain ⟨out, K⟩ := p
      cases out with
      | val v => rw [runOpO_val hO] at hr; cases hr
      | panic v => rfl
theorem dr_nil (call : CallF) (rid : Nat) (ts : List Value) (H : AH) : drawRun call [] rid ts H = some ([], ts, H) := by rw [drawRun]
theorem dr_go (call : CallF) (d : Option Tmp) (op : COp) (l : List COper) (rid : Nat) (ts : List Value) (H : AH) (hna : op.isAlloc = false) : drawRun call (⟨d, op, none⟩ :: l) rid ts H = match runOpO call op (aeval ts) H with
      | some (.val v, H') => (match drawRun call l rid (aput ts d v) H' with
        | some (es, r) => some ((ts, H, v) :: es, r)
        | none => none)
      | _ => none := by
  have hD : runOpD call op (aeval ts) H rid = runOp call op (aeval ts) H := runOpD_na hna
  have hr : ridNext ⟨d, op, none⟩ rid = rid := by simp [ridNext, hna]
  rw [drawRun]
  simp only [guarded, if_true, hD, hr, runOp_by]
  cases runOpO call op (aeval ts) H with
  | none => rfl
  | some p =>
    obtain ⟨out, K⟩ := p
    cases out <;> rfl
theorem dr_mv (call : CallF) (d : Option Tmp) (x : Operand) (l : List COper) (rid : Nat) (ts : List Value) (H : AH) : drawRun call (⟨d, .mv x, none⟩ :: l) rid ts H = match runOpO call (.mv x) (aeval ts) H with
      | some (.val v, H') => (match drawRun call l rid (aput ts d v) H' with
        | some (es, r) => some ((ts, H, v) :: es, r)
        | none => none)
      | _ => none := dr_go _ _ _ _ _ _ _ rfl
theorem dr_indexAddr (call : CallF) (d : Option Tmp) (size : Nat) (x i : Operand) (l : List COper) (rid : Nat) (ts : List Value) (H : AH) : drawRun call (⟨d, .indexAddr size x i, none⟩ :: l) rid ts H = match runOpO call (.indexAddr size x i) (aeval ts) H with
      | some (.val v, H') => (match drawRun call l rid (aput ts d v) H' with
        | some (es, r) => some ((ts, H, v) :: es, r)
        | none => none)
      | _ => none := dr_go _ _ _ _ _ _ _ rfl
theorem dr_load1 (call : CallF) (d : Option Tmp) (x : Operand) (l : List COper) (rid : Nat) (ts : List Value) (H : AH) : drawRun call (⟨d, .load1 x, none⟩ :: l) rid ts H = match runOpO call (.load1 x) (aeval ts) H with
      | some (.val v, H') => (match drawRun call l rid (aput ts d v) H' with
        | some (es, r) => some ((ts, H, v) :: es, r)
        | none => none)
      | _ => none := dr_go _ _ _ _ _ _ _ rfl
theorem dr_loadN (call : CallF) (d : Option Tmp) (n : Nat) (x : Operand) (l : List COper) (rid : Nat) (ts : List Value) (H : AH) : drawRun call (⟨d, .loadN n x, none⟩ :: l) rid ts H = match runOpO call (.loadN n x) (aeval ts) H with
      | some (.val v, H') => (match drawRun call l rid (aput ts d v) H' with
        | some (es, r) => some ((ts, H, v) :: es, r)
        | none => none)
      | _ => none := dr_go _ _ _ _ _ _ _ rfl
theorem dr_bin (call : CallF) (d : Option Tmp) (op : BinOp) (x y : Operand) (l : List COper) (rid : Nat) (ts : List Value) (H : AH) : drawRun call (⟨d, .bin op x y, none⟩ :: l) rid ts H = match runOpO call (.bin op x y) (aeval ts) H with
      | some (.val v, H') => (match drawRun call l rid (aput ts d v) H' with
        | some (es, r) => some ((ts, H, v) :: es, r)
        | none => none)
      | _ => none := dr_go _ _ _ _ _ _ _ rfl
theorem dr_callV (call : CallF) (d : Option Tmp) (x : Operand) (args : List Operand) (l : List COper) (rid : Nat) (ts : List Value) (H : AH) : drawRun call (⟨d, .callV x args, none⟩ :: l) rid ts H = match runOpO call (.callV x args) (aeval ts) H with
      | some (.val v, H') => (match drawRun call l rid (aput ts d v) H' with
        | some (es, r) => some ((ts, H, v) :: es, r)
        | none => none)
      | _ => none := dr_go _ _ _ _ _ _ _ rfl
theorem dr_call (call : CallF) (d : Option Tmp) (f : FuncId) (args : List Operand) (l : List COper) (rid : Nat) (ts : List Value) (H : AH) : drawRun call (⟨d, .call f args, none⟩ :: l) rid ts H = match runOpO call (.call f args) (aeval ts) H with
      | some (.val v, H') => (match drawRun call l rid (aput ts d v) H' with
        | some (es, r) => some ((ts, H, v) :: es, r)
        | none => none)
      | _ => none := dr_go _ _ _ _ _ _ _ rfl
theorem dr_store (call : CallF) (d : Option Tmp) (n : Nat) (a x : Operand) (l : List COper) (rid : Nat) (ts : List Value) (H : AH) : drawRun call (⟨d, .store n a x, none⟩ :: l) rid ts H = match runOpO call (.store n a x) (aeval ts) H with
      | some (.val v, H') => (match drawRun call l rid (aput ts d v) H' with
        | some (es, r) => some ((ts, H, v) :: es, r)
        | none => none)
      | _ => none := dr_go _ _ _ _ _ _ _ rfl
theorem dr_nilCheck (call : CallF) (d : Option Tmp) (x : Operand) (l : List COper) (rid : Nat) (ts : List Value) (H : AH) : drawRun call (⟨d, .nilCheck x, none⟩ :: l) rid ts H = match runOpO call (.nilCheck x) (aeval ts) H with
      | some (.val v, H') => (match drawRun call l rid (aput ts d v) H' with
        | some (es, r) => some ((ts, H, v) :: es, r)
        | none => none)
      | _ => none := dr_go _ _ _ _ _ _ _ rfl
theorem dr_fieldAddr (call : CallF) (d : Option Tmp) (off : Nat) (x : Operand) (l : List COper) (rid : Nat) (ts : List Value) (H : AH) : drawRun call (⟨d, .fieldAddr off x, none⟩ :: l) rid ts H = match runOpO call (.fieldAddr off x) (aeval ts) H with
      | some (.val v, H') => (match drawRun call l rid (aput ts d v) H' with
        | some (es, r) => some ((ts, H, v) :: es, r)
        | none => none)
      | _ => none := dr_go _ _ _ _ _ _ _ rfl
theorem dr_build (call : CallF) (d : Option Tmp) (zero : Array Value) (places : List (Nat × Nat)) (parts : List (Nat × Operand)) (l : List COper) (rid : Nat) (ts : List Value) (H : AH) : drawRun call (⟨d, .build zero places parts, none⟩ :: l) rid ts H = match runOpO call (.build zero places parts) (aeval ts) H with
      | some (.val v, H') => (match drawRun call l rid (aput ts d v) H' with
        | some (es, r) => some ((ts, H, v) :: es, r)
        | none => none)
      | _ => none := dr_go _ _ _ _ _ _ _ rfl
theorem dr_len (call : CallF) (d : Option Tmp) (td : TypeDesc) (x : Operand) (l : List COper) (rid : Nat) (ts : List Value) (H : AH) : drawRun call (⟨d, .len td x, none⟩ :: l) rid ts H = match runOpO call (.len td x) (aeval ts) H with
      | some (.val v, H') => (match drawRun call l rid (aput ts d v) H' with
        | some (es, r) => some ((ts, H, v) :: es, r)
        | none => none)
      | _ => none := dr_go _ _ _ _ _ _ _ rfl
theorem dr_extract (call : CallF) (d : Option Tmp) (x : Operand) (i : Nat) (l : List COper) (rid : Nat) (ts : List Value) (H : AH) : drawRun call (⟨d, .extract x i, none⟩ :: l) rid ts H = match runOpO call (.extract x i) (aeval ts) H with
      | some (.val v, H') => (match drawRun call l rid (aput ts d v) H' with
        | some (es, r) => some ((ts, H, v) :: es, r)
        | none => none)
      | _ => none := dr_go _ _ _ _ _ _ _ rfl
theorem dr_slice (call : CallF) (d : Option Tmp) (size : Nat) (x : Operand) (lo hi mx : Option Operand) (l : List COper) (rid : Nat) (ts : List Value) (H : AH) : drawRun call (⟨d, .slice size x lo hi mx, none⟩ :: l) rid ts H = match runOpO call (.slice size x lo hi mx) (aeval ts) H with
      | some (.val v, H') => (match drawRun call l rid (aput ts d v) H' with
        | some (es, r) => some ((ts, H, v) :: es, r)
        | none => none)
      | _ => none := dr_go _ _ _ _ _ _ _ rfl
theorem dr_field (call : CallF) (d : Option Tmp) (agg : Bool) (off size : Nat) (x : Operand) (l : List COper) (rid : Nat) (ts : List Value) (H : AH) : drawRun call (⟨d, .field agg off size x, none⟩ :: l) rid ts H = match runOpO call (.field agg off size x) (aeval ts) H with
      | some (.val v, H') => (match drawRun call l rid (aput ts d v) H' with
        | some (es, r) => some ((ts, H, v) :: es, r)
        | none => none)
      | _ => none := dr_go _ _ _ _ _ _ _ rfl
theorem again_by (call : CallF) (c : COper) (ts : List Value) (v : Value) (H : AH) : readAgain call c ts v H = match runOpO call c.op (aeval ts) H with
    | some (.val u, _) => veq 16 u v
    | _ => false := by
  unfold readAgain
  rw [runOp_by]
  cases runOpO call c.op (aeval ts) H with
  | none => rfl
  | some p =>
    obtain ⟨out, K⟩ := p
    cases out <;> rfl
theorem pairs_nil (call : CallF) (cs : List COper) (es : List DEnt) : pairsHold call cs es [] = true := by rw [pairsHold]
theorem pairs_eq (call : CallF) (cs : List COper) (es : List DEnt) (i j : Nat) (l : List (Nat × Nat)) : pairsHold call cs es ((i, j) :: l) = ((match cs[i]?, es[i]?, es[j]?, es[j + 1]? with
    | some c, some (ts, _, v), some (_, H1, _), some (_, H2, _) => !guarded c.guard ts || (readAgain call c ts v H1 && readAgain call c ts v H2)
    | _, _, _, _ => false) && pairsHold call cs es l) := by
  rw [pairsHold]; rfl
theorem pairs_cons (call : CallF) (cs : List COper) (es : List DEnt) (i j : Nat) (l : List (Nat × Nat)) {c : COper} {ts : List Value} {H0 : AH} {v : Value} {e1 e2 : DEnt} (h0 : cs[i]? = some c) (h1 : es[i]? = some (ts, H0, v)) (h2 : es[j]? = some e1) (h3 : es[j + 1]? = some e2)
    (k1 : readAgain call c ts v e1.2.1 = true) (k2 : readAgain call c ts v e2.2.1 = true) (h : pairsHold call cs es l = true) : pairsHold call cs es ((i, j) :: l) = true := by
  rw [pairsHold, h0, h1, h2, h3]
  simp only [h, Bool.and_true]
  show (!guarded c.guard ts || (readAgain call c ts v e1.2.1 && readAgain call c ts v e2.2.1)) = true
  rw [k1, k2]; simp
/-- A draw, by its run and its pairs. -/
theorem exec_drawR (E : Env) (f : Nat) (ops : List COper) (ps : List (Nat × Nat)) (ts ts' : List Value) (H H' : AH) (es : List DEnt) (hna : (ops.all fun o => !o.op.isAlloc) = true) (h : drawRun (fun g args H => callF E f g args H) ops H.next ts H = some (es, ts', H'))
    (hp : pairsHold (fun g args H => callF E f g args H) ops (es ++ [(ts', H', undef)]) ps = true) : exec E (f + 1) (.draw ops ps) ts H = some (.normal, ts', H') := by
  rw [exec_draw]
  simp only [runDraw, allocsIn_none ops hna, AH.reserve, h, hp, if_true]
theorem veq_int (k : IntKind) (a : Int) : veq 16 (.int k a) (.int k a) = true := by simp [veq]

theorem callF_fn {E : Env} {g : FuncId} {fn : CFunc} (hs : E.spec g = none) (hc : E.code g = some fn) (f : Nat) (args : List Value) (H : AH) : callF E (f + 1) (.fn g) args H = runFn (fun c ts H => exec E f c ts H) (fun g args H => callF E f g args H) E fn args H := by
  rw [callF, hs]
  simp only [hc]
theorem callF_spec {E : Env} {g : FuncId} {s : List Value → AH → Option (COut × AH)} (hs : E.spec g = some s) (f : Nat) (args : List Value) (H : AH) : callF E (f + 1) (.fn g) args H = s args H := by
  rw [callF, hs]

theorem getD_z (a : Value) (l : List Value) (d : Value) : (a :: l).getD 0 d = a := rfl
theorem getD_s (a : Value) (l : List Value) (n : Nat) (d : Value) : (a :: l).getD (n + 1) d = l.getD n d := rfl

theorem wrap_id {a : Int} (h : -9223372036854775808 ≤ a) (h' : a < 9223372036854775808) : IntKind.i64.wrap a = a := by
  simp only [IntKind.wrap, IntKind.bits, IntKind.signed, Bool.true_and]
  split <;> (rename_i h2; simp at h2; omega)
theorem wrap_u8 {a : Int} (h : 0 ≤ a) (h' : a < 256) : IntKind.u8.wrap a = a := by
  simp only [IntKind.wrap, IntKind.bits, IntKind.signed, Bool.false_and]
  simp; omega

theorem bin_lss (k : IntKind) (a b : Int) : abin .lss (.int k a) (.int k b) = some (.bool (decide (a < b))) := by simp [abin, Op.intCmp]; rfl
theorem bin_leq (k : IntKind) (a b : Int) : abin .leq (.int k a) (.int k b) = some (.bool (decide (a ≤ b))) := by simp [abin, Op.intCmp]; rfl
theorem bin_gtr (k : IntKind) (a b : Int) : abin .gtr (.int k a) (.int k b) = some (.bool (decide (a > b))) := by simp [abin, Op.intCmp]; rfl
theorem bin_geq (k : IntKind) (a b : Int) : abin .geq (.int k a) (.int k b) = some (.bool (decide (a ≥ b))) := by simp [abin, Op.intCmp]; rfl
theorem bin_eql (k : IntKind) (a b : Int) : abin .eql (.int k a) (.int k b) = some (.bool (decide (a = b))) := by
  have : (a == b) = decide (a = b) := by rw [Bool.eq_iff_iff]; simp
  rw [← this]; simp [abin, Op.intCmp]; rfl
theorem bin_neq (k : IntKind) (a b : Int) : abin .neq (.int k a) (.int k b) = some (.bool (!decide (a = b))) := by
  have : (a != b) = !decide (a = b) := by rw [Bool.eq_iff_iff]; simp
  rw [← this]; simp [abin, Op.intCmp]; rfl
theorem bin_add (k : IntKind) (a b : Int) : abin .add (.int k a) (.int k b) = some (.int k (k.wrap (a + b))) := by simp [abin, Op.intArith]; rfl
theorem bin_sub (k : IntKind) (a b : Int) : abin .sub (.int k a) (.int k b) = some (.int k (k.wrap (a - b))) := by simp [abin, Op.intArith]; rfl
theorem bin_mul (k : IntKind) (a b : Int) : abin .mul (.int k a) (.int k b) = some (.int k (k.wrap (a * b))) := by simp [abin, Op.intArith]; rfl

theorem indexAddr_nat (size : Nat) (a : Addr) (n c : Nat) (k : IntKind) (i : Nat) (h : i < n) : aindexAddr size (.slice (some a) n c) (.int k (i : Int)) = some (.pointer (some (a.add (i * size)))) := by
  show (if i < n then _ else _) = _
  rw [if_pos h]

theorem byteV_int (n i : Nat) : byteV (nbyte n i) = .int .u8 ((nbyte n i : Nat) : Int) := rfl
theorem nbyte_lt (n i : Nat) : nbyte n i < 256 := Nat.mod_lt _ (by decide)
theorem cell_bytes (len x lo : Nat) (ro : Bool) (i : Nat) (h : i < len) : (AObj.bytes len x lo ro).cell? i = some (byteV (nbyte x i)) := by
  have : Nat.blt i len = true := by rw [Nat.blt_eq]; exact h
  simp [AObj.cell?, this]
theorem add_addr (b off n : Nat) : (⟨b, off, none⟩ : Addr).add n = ⟨b, off + n, none⟩ := by simp [Addr.add]
theorem goNat (n : Nat) : goInt n = .int .i64 (n : Int) := rfl

theorem len_slice (e : TypeId) (a : Option Addr) (n c : Nat) : lenKind (.slice e) (.slice a n c) = true := rfl
theorem alen_slice (H : AH) (a : Option Addr) (n c : Nat) : alen H (.slice a n c) = some (.int .i64 (n : Int)) := rfl
theorem set_get_same {H : AH} {b : Nat} {o x : AObj} (h : H.get b = some x) : (H.set b o).get b = some o := by
  rw [AH.get_set, if_pos ⟨rfl, AH.get_lt h⟩]
theorem set_get_other {H : AH} {b c : Nat} {o : AObj} (h : c ≠ b) : (H.set b o).get c = H.get c := by
  rw [AH.get_set, if_neg fun k => h k.1]
theorem push_get_old {H : AH} {o : AObj} {c : Nat} (h : c < H.next) : (H.push o).get c = H.get c := by
  rw [AH.get_push, if_neg (by omega)]
theorem ah_ext {H K : AH} (h : H.next = K.next) (k : H.mem = K.mem) : H = K := by cases H; cases K; cases h; cases k; rfl

theorem next_push (H : AH) (o : AObj) : (H.push o).next = H.next + 1 := rfl
theorem next_set (H : AH) (b : Nat) (o : AObj) : (H.set b o).next = H.next := rfl
theorem slice3 {H : AH} {b off n c len x lo : Nat} {ro : Bool} (hb : H.get b = some (.bytes len x lo ro)) (hlo : lo = 0 ∨ lo = 1) (l h : Nat) (h1 : h ≤ c) (h2 : l < h) :
    aslice 1 H (.slice (some ⟨b, off, none⟩) n c) (some (.int .i64 (l : Int))) (some (.int .i64 (h : Int))) (some (.int .i64 (h : Int))) = some (.slice (some ⟨b, off + l, none⟩) (h - l) (h - l)) := by
  have e : abounds n c (some (.int .i64 (l : Int))) (some (.int .i64 (h : Int))) (some (.int .i64 (h : Int))) = some (l, h, h) := by
    show (if h ≤ c ∧ h ≤ h ∧ l ≤ h then some (l, h, h) else none) = _
    rw [if_pos ⟨h1, Nat.le_refl _, by omega⟩]
  have e2 : ¬ (h = l) := by omega
  simp only [aslice, hb, AObj.loose, hlo, if_true, e, e2, if_false, add_addr, Nat.mul_one]
theorem chunk_bytes {H : AH} {b off n c len x lo : Nat} {ro : Bool} (hb : H.get b = some (.bytes len x lo ro)) (h : off + n ≤ len) : chunkOf 1 H (.slice (some ⟨b, off, none⟩) n c) = some (n, .num n (nslice x off n)) := by
  simp only [chunkOf, hb, AObj.chunk, Nat.mul_one, h, if_true, Option.map_some]
theorem nappend_zero (b : Nat) : nappend 0 0 b = b := by simp [nappend]
/-- A row of bytes is put behind an empty one. -/
theorem append_fresh {H : AH} {b : Nat} {ro : Bool} (hb : H.get b = some (.bytes 0 0 0 ro)) (k y : Nat) (hk : 0 < k) (hr : k < 2 ^ 40) :
    aappend 1 1 H (.slice (some ⟨b, 0, none⟩) 0 0) k (.num k y) = some (.slice (some ⟨H.next, 0, none⟩) k k, H.push (.bytes k y 1 false)) := by
  have e : ¬ k = 0 := by omega
  have e2 : ¬ (k ≤ 0) := by omega
  have e3 : k * 1 < maxRoom := by unfold maxRoom; omega
  simp only [aappend, e, if_false, hb, e2, e3, if_true, AObj.chunk, Nat.zero_mul, Nat.add_zero, Nat.le_refl, mkObj, nslice, Nat.pow_zero, Nat.mod_one, nappend_zero, AObj.loose, Nat.zero_add]

theorem nput_same (x i : Nat) : nput x i 1 (nbyte x i) = x := by
  have hp : 0 < 256 ^ i := Nat.pow_pos (by omega)
  unfold nput nappend nbyte
  have e1 : x / 256 ^ (i + 1) = x / 256 ^ i / 256 := by rw [Nat.pow_succ, Nat.div_div_eq_div_mul]
  have e2 : x / 256 ^ i % 256 % 256 ^ 1 + x / 256 ^ (i + 1) * 256 ^ 1 = x / 256 ^ i := by rw [e1]; omega
  rw [e2]
  exact Nat.mod_add_div' x _
theorem store_byte (len x lo i b : Nat) (h : i + 1 ≤ len) (hb : b < 256) : (AObj.bytes len x lo false).put i (.vals [.int .u8 (b : Int)]) = some (.bytes len (nput x i 1 b) lo false) := by
  have e : natOf [.int .u8 (b : Int)] = some b := by
    show (match byteOf? (.int .u8 (.ofNat b)), natOf [] with | some b, some n => some (b + 256 * n) | _, _ => none) = _
    simp [byteOf?, hb, natOf]
  simp only [AObj.put, List.length_cons, List.length_nil, h, if_true, e, Nat.zero_add]

/-- A frame, written out. -/
theorem list_lit {t : List Value} {n : Nat} (h : t.length = n) : t = (List.range n).map fun i => t.getD i undef := by
  subst h
  apply List.ext_getElem?
  intro i
  by_cases hi : i < t.length
  · rw [List.getElem?_map, List.getElem?_range hi, Option.map_some, List.getD_eq_getElem?_getD, List.getElem?_eq_getElem hi, Option.getD_some]
  · rw [List.getElem?_eq_none (by omega), List.getElem?_eq_none (by simpa using hi)]

/-- A heap that has more blocks, the old ones as they were. -/
def Grow (H H' : AH) : Prop := H.next ≤ H'.next ∧ ∀ b, b < H.next → H'.get b = H.get b
theorem Grow.refl (H : AH) : Grow H H := ⟨Nat.le_refl _, fun _ _ => rfl⟩
theorem Grow.trans {H H1 H2 : AH} (h : Grow H H1) (k : Grow H1 H2) : Grow H H2 := ⟨Nat.le_trans h.1 k.1, fun b hb => (k.2 b (Nat.lt_of_lt_of_le hb h.1)).trans (h.2 b hb)⟩
theorem Grow.push (H : AH) (o : AObj) : Grow H (H.push o) := ⟨Nat.le_succ _, fun b hb => push_get_old hb⟩
theorem Grow.set {H H' : AH} (h : Grow H H') {b : Nat} (hb : H.next ≤ b) (o : AObj) : Grow H (H'.set b o) := ⟨h.1, fun c hc => (set_get_other (by omega)).trans (h.2 c hc)⟩
theorem Grow.get {H H' : AH} (h : Grow H H') {b : Nat} {o : AObj} (hb : H.get b = some o) : H'.get b = some o := (h.2 b (AH.get_lt hb)).trans hb

theorem mul_i64 (a b : Nat) (h : a * b < 9223372036854775808) : abin .mul (.int .i64 (a : Int)) (.int .i64 (b : Int)) = some (.int .i64 ((a * b : Nat) : Int)) := by
  have e : ((a * b : Nat) : Int) = (a : Int) * (b : Int) := Int.natCast_mul a b
  rw [bin_mul, ← e, wrap_id (by omega) (by omega)]
theorem add_i64 (a b : Nat) (h : a + b < 9223372036854775808) : abin .add (.int .i64 (a : Int)) (.int .i64 (b : Int)) = some (.int .i64 ((a + b : Nat) : Int)) := by
  have e : ((a + b : Nat) : Int) = (a : Int) + (b : Int) := Int.natCast_add a b
  rw [bin_add, ← e, wrap_id (by omega) (by omega)]
theorem succ_i64 (a : Nat) (h : a + 1 < 9223372036854775808) : abin .add (.int .i64 (a : Int)) (.int .i64 1) = some (.int .i64 ((a + 1 : Nat) : Int)) := add_i64 a 1 h

/-- All bytes of a row are 255: in numbers. -/
theorem ff_iff : ∀ (k n : Nat), n % 256 ^ k = 256 ^ k - 1 ↔ ∀ i, i < k → nbyte n i = 255 := by
  intro k
  induction k with
  | zero => intro n; simp [Nat.mod_one]
  | succ k ih =>
    intro n
    have e : n % 256 ^ (k + 1) = n % 256 + 256 * (n / 256 % 256 ^ k) := by
      rw [Nat.pow_succ, Nat.mul_comm, Nat.mod_mul]
    have hp : 0 < 256 ^ k := Nat.pow_pos (by omega)
    constructor
    · intro h
      rw [e, Nat.pow_succ] at h
      have h1 : n % 256 < 256 := Nat.mod_lt _ (by omega)
      have h2 : n / 256 % 256 ^ k < 256 ^ k := Nat.mod_lt _ hp
      intro i hi
      cases i with
      | zero => rw [nbyte_zero]; omega
      | succ i => rw [nbyte_succ]; exact (ih (n / 256)).1 (by omega) i (by omega)
    · intro h
      have h0 := h 0 (by omega)
      rw [nbyte_zero] at h0
      have h1 := (ih (n / 256)).2 fun i hi => by rw [← nbyte_succ]; exact h (i + 1) (by omega)
      rw [e, h1, h0, Nat.pow_succ]; omega
theorem ff_slice (x off n : Nat) : nslice x off n = 256 ^ n - 1 ↔ ∀ i, i < n → nbyte x (off + i) = 255 := by
  unfold nslice
  rw [ff_iff]
  exact ⟨fun h i hi => by rw [← nbyte_div]; exact h i hi, fun h i hi => by rw [nbyte_div]; exact h i hi⟩

end
end Go.Ads
/- What is known of functions, laid one upon another: laws, and tables of code. -/
namespace Go.Ads
noncomputable section
variable {P : Program} {gs : List Nat}

/-- The first loop over a function in code. -/
def siteOf : Code → Option Site
  | .rangeFunc _ ps a b => some ⟨ps, a, b⟩
  | .seq a b => match siteOf a with
    | some s => some s
    | none => siteOf b
  | .cond _ a b => match siteOf a with
    | some s => some s
    | none => siteOf b
  | .block _ b => siteOf b
  | .loop b => siteOf b
  | _ => none
def siteIn (fn : Func) : Site := match fn.body with
  | some b => (siteOf b).getD ⟨#[], .skip, .skip⟩
  | none => ⟨#[], .skip, .skip⟩

abbrev Spec := List Value → AH → Option (Value × AH)

/-- What a law says, the function does. -/
def Law (P : Program) (gs : List Nat) (x : Nat × Spec) : Prop := ∀ args H v H', x.2 args H = some (v, H') → bodied P x.1 = true ∧ ACalls P gs x.1 args H (.val v) H'

/-- A function's code, for the slow machine. -/
def Slow (P : Program) (gs : List Nat) (x : Nat × CFunc) : Prop := ∃ fn, P.funcs[x.1]? = some fn ∧ compFunc P gs fn = some x.2 ∧ (fn.name != "runtime.NumGoroutine") = true

def slowEnv (l : List (Nat × CFunc)) (sp : List (Nat × Spec)) : Env := ⟨fun g => ((table sp).get g).map fun s args H => valOut (s args H), fun g => (table l).get g⟩

theorem valOut_some {r : Option (Value × AH)} {out : COut} {H' : AH} (h : valOut r = some (out, H')) : ∃ v, out = .val v ∧ r = some (v, H') := by
  cases r with
  | none => cases h
  | some p => obtain ⟨v, K⟩ := p; cases h; exact ⟨v, rfl, rfl⟩

theorem slowEnv_ok {l : List (Nat × CFunc)} {sp : List (Nat × Spec)} (hm : P.follows .mixedOrders = true) (hl : ∀ x ∈ l, Slow P gs x) (hs : ∀ x ∈ sp, Law P gs x) : EnvOK P gs (slowEnv l sp) := by
  refine ⟨hm, fun g s e args H out H' h => ?_, fun g cf e => ?_⟩
  · simp only [slowEnv, Option.map_eq_some_iff] at e
    obtain ⟨t, et, rfl⟩ := e
    obtain ⟨v, rfl, ht⟩ := valOut_some h
    exact hs _ (table_get et) _ _ _ _ ht
  · obtain ⟨fn, h1, h2, h3⟩ := hl _ (table_get e)
    exact ⟨fn, h1, h2, by simpa using h3⟩

theorem fastEnv_ok {l : List (Nat × FFunc)} {sp : List (Nat × Spec)} (hm : P.follows .mixedOrders = true) (hl : ∀ x ∈ l, Listed P gs x) (hs : ∀ x ∈ sp, Law P gs x) : EnvOK P gs (envOf P gs l (table sp).get) := by
  refine ⟨hm, fun g s e args H out H' h => ?_, fun g cf e => ?_⟩
  · simp only [envOf, Option.map_eq_some_iff] at e
    obtain ⟨t, et, rfl⟩ := e
    obtain ⟨v, rfl, ht⟩ := valOut_some h
    exact hs _ (table_get et) _ _ _ _ ht
  · simp only [envOf] at e
    split at e
    · rename_i ff hff
      obtain ⟨fn, h1, h2, h3⟩ := hl _ (table_get hff)
      rw [h1] at e
      exact ⟨fn, h1, e, by simpa using h3⟩
    · cases e

/-- What the fast machine gives, as a law. -/
def runK (l : List (Nat × FFunc)) (sp : List (Nat × Spec)) (n : Nat) (g : Nat) : Spec := fun args H => (kBoth ⟨(table sp).get, table l⟩ n).2 g args H

theorem runK_law {l : List (Nat × FFunc)} {sp : List (Nat × Spec)} (hm : P.follows .mixedOrders = true) (hl : ∀ x ∈ l, Listed P gs x) (hs : ∀ x ∈ sp, Law P gs x) (n g : Nat) : Law P gs (g, runK l sp n g) := by
  intro args H v H' h
  simp only [runK, kBoth_eq] at h
  exact (exec_sound (fastEnv_ok hm hl hs) n).call.fn g args H _ H' ((fast_ok (fitEnv_of (gs := gs) hl) n).2 g args H v H' h)

/-- What the slow machine gives, as a law. -/
def runS (l : List (Nat × CFunc)) (sp : List (Nat × Spec)) (n : Nat) (g : Nat) : Spec := fun args H => justVal (callF (slowEnv l sp) n (.fn g) args H)
theorem runS_law {l : List (Nat × CFunc)} {sp : List (Nat × Spec)} (hm : P.follows .mixedOrders = true) (hl : ∀ x ∈ l, Slow P gs x) (hs : ∀ x ∈ sp, Law P gs x) (n g : Nat) : Law P gs (g, runS l sp n g) := by
  intro args H v H' h
  exact (exec_sound (slowEnv_ok hm hl hs) n).call.fn g args H _ H' (justVal_some h)

/-- A law of a run of the slow machine. -/
theorem Law.of_slow {E : Env} (hE : EnvOK P gs E) {g : Nat} {s : Spec} (h : ∀ args H v H', s args H = some (v, H') → ∃ n, callF E n (.fn g) args H = some (.val v, H')) : Law P gs (g, s) := by
  intro args H v H' hs
  obtain ⟨n, hn⟩ := h args H v H' hs
  exact (exec_sound hE n).call.fn g args H _ H' hn

/-- The one, and where it says nothing the other. -/
def orSpec (s t : Spec) : Spec := fun args H => Option.rec (motive := fun _ => Option (Value × AH)) (t args H) (fun r => some r) (s args H)
theorem Law.or {g : Nat} {s t : Spec} (h : Law P gs (g, s)) (k : Law P gs (g, t)) : Law P gs (g, orSpec s t) := by
  intro args H v H' e
  simp only [orSpec] at e
  cases hs : s args H with
  | none => rw [hs] at e; exact k args H v H' e
  | some r => rw [hs] at e; exact h args H v H' (hs.trans e)

end
end Go.Ads
/- What a call leaves behind that nobody looks at is forgotten. -/
namespace Go.Ads
noncomputable section
variable {P : Program} {gs : List Nat}

mutual
theorem VRel.pull {ρ ρ' : Ren} (hle : ρ.le ρ') {v a b : Value} (h : VRel ρ v a) (k : VRel ρ' v b) : VRel ρ v b :=
  match h, k with
  | .bool _, .bool _ => .bool _
  | .int _ _, .int _ _ => .int _ _
  | .string _, .string _ => .string _
  | .nilp, .nilp => .nilp
  | .ptr ⟨l0, e0, s0, _⟩, .ptr ⟨l, e, _, x⟩ => .ptr ⟨l0, e0, s0, by have := hle _ _ e0; rw [e] at this; cases this; exact x⟩
  | .nils _ _, .nils _ _ => .nils _ _
  | .sl ⟨l0, e0, s0, _, _⟩, .sl ⟨l, e, _, x, y⟩ => .sl ⟨l0, e0, s0, by have := hle _ _ e0; rw [e] at this; cases this; exact ⟨x, y⟩⟩
  | .slEnd e0 s0 _ _, .sl ⟨l, e, _, x, y⟩ => .sl ⟨_, e0, s0, by have := hle _ _ e0; rw [e] at this; cases this; exact ⟨x, y⟩⟩
  | .sl ⟨l0, e0, s0, _, _⟩, .slEnd e _ hl he => .slEnd e0 s0 (by have := hle _ _ e0; rw [e] at this; cases this; exact hl) (by have := hle _ _ e0; rw [e] at this; cases this; exact he)
  | .slEnd e0 s0 hl he, .slEnd _ _ _ _ => .slEnd e0 s0 hl he
  | .nilm, .nilm => .nilm
  | .map e0, .map e => by have := hle _ _ e0; rw [e] at this; cases this; exact .map e0
  | .func fn hy x y, .func _ _ x' y' => .func fn hy (x.pull hle x') (y.pull hle y')
  | .func _ hy _ _, .yield _ => absurd rfl (hy _)
  | .yield _, .func _ hy _ _ => absurd rfl (hy _)
  | .yield e0, .yield e => by have := hle _ _ e0; rw [e] at this; cases this; exact .yield e0
  | .nilFunc, .nilFunc => .nilFunc
  | .iface t x, .iface _ y => .iface t (x.pull hle y)
  | .nilIface, .nilIface => .nilIface
  | .agg x, .agg y => .agg (x.pull hle y)
  | .tuple x, .tuple y => .tuple (x.pull hle y)
theorem VRels.pull {ρ ρ' : Ren} (hle : ρ.le ρ') {v a b : List Value} (h : VRels ρ v a) (k : VRels ρ' v b) : VRels ρ v b :=
  match h, k with
  | .nil, .nil => .nil
  | .cons x t, .cons y u => .cons (x.pull hle y) (t.pull hle u)
end

theorem ERel.pull {ρ ρ' : Ren} (hle : ρ.le ρ') : ∀ {es : List (Value × Value)} {a b : List MapEntry}, ERel ρ es a → ERel ρ' es b → ERel ρ es b := by
  intro es
  induction es with
  | nil => intro a b h k; cases k; exact .nil
  | cons x es ih =>
    intro a b h k
    cases h with
    | cons h1 h2 h3 => cases k with
      | cons k1 k2 k3 => exact .cons (h1.pull hle k1) (h2.pull hle k2) (ih h3 k3)

theorem ERel.mono' {ρ ρ' : Ren} (hle : ρ.le ρ') : ∀ {es : List (Value × Value)} {a : List MapEntry}, ERel ρ es a → ERel ρ' es a := by
  intro es
  induction es with
  | nil => intro a h; cases h; exact .nil
  | cons x es ih =>
    intro a h
    cases h with
    | cons h1 h2 h3 => exact .cons (h1.mono hle) (h2.mono hle) (ih h3)

/-- A value that stood in a heap, or has no address, or is a slice of what stood there. -/
def OldVal (H : AH) (v : Value) : Prop := plain1 v = true ∨ (∃ b o, H.get b = some o ∧ v ∈ o.vals) ∨ ∃ b off n c o, v = .slice (some ⟨b, off, none⟩) n c ∧ H.get b = some o

theorem OldVal.rel {ρ : Ren} {H : AH} {w : World} (hrel : Rel ρ H w) {v : Value} (h : OldVal H v) : ∃ a, VRel ρ v a := by
  rcases h with h | ⟨b, o, hb, hv⟩ | ⟨b, off, n, c, o, rfl, hb⟩
  · exact ⟨_, plain1_rel h⟩
  rotate_left
  · obtain ⟨l, hl, _⟩ := hrel.obj b o hb
    exact ⟨_, .sl ⟨l, hl, rfl, rfl, .inl rfl⟩⟩
  · obtain ⟨l, hl, ho⟩ := hrel.obj b o hb
    obtain ⟨i, hi, rfl⟩ := List.getElem_of_mem hv
    cases o with
    | map es => simp [AObj.vals] at hi
    | loop x => simp [AObj.vals] at hi
    | cells vs lo ro =>
      obtain ⟨⟨_, _, hc, _, _⟩, _⟩ := ho
      obtain ⟨v', _, hr⟩ := hc i _ (List.getElem?_eq_getElem hi)
      exact ⟨v', hr⟩
    | bytes len x lo ro =>
      obtain ⟨⟨_, _, hc, _, _⟩, _⟩ := ho
      obtain ⟨v', _, hr⟩ := hc i _ (List.getElem?_eq_getElem hi)
      exact ⟨v', hr⟩

/-- A heap of which only the old blocks are kept. -/
structure Trim (H H' H2 : AH) : Prop where
  next : H2.next = H.next
  same : ∀ b o, H2.get b = some o → H'.get b = some o
  old : ∀ b o, H2.get b = some o → H.get b = some o ∨ o.isMap = false ∧ ∀ v ∈ o.vals, OldVal H v

theorem Went.trim {ρ ρ' : Ren} {H H' H2 : AH} {w w' : World} (hrel : Rel ρ H w) (h : Went ρ H w ρ' H' w') (t : Trim H H' H2) : Went ρ H w (fun b => if b < H.next then ρ' b else none) H2 w' := by
  have hle : ρ.le (fun b => if b < H.next then ρ' b else none) := fun b l e => by
    have := hrel.dom b l e
    simp only [this, if_true]; exact h.le b l e
  have hdown : ∀ b l, (if b < H.next then ρ' b else none) = some l → ρ' b = some l := fun b l e => by split at e; exact e; cases e
  refine ⟨hle, ⟨fun b o hb => ?_, fun b l e => ?_, fun b o b' o' l l' hb hb' hne hro e e' hbl => ?_⟩, by rw [t.next]; exact Nat.le_refl _, h.size, h.frame, fun r hr ⟨b, o, l, h1, h2, h3, h4⟩ => ?_, fun r hr ⟨b, o, l, h1, h2, h3⟩ => ?_, fun b l e => h.fresh b l (hdown b l e), fun b x e => h.loops b x (t.same b _ e), h.os, h.tape, h.output⟩
  · obtain ⟨l, hl, ho⟩ := h.rel.obj b o (t.same b o hb)
    have hlt : b < H.next := by rw [← t.next]; exact AH.get_lt hb
    refine ⟨l, by simp only [hlt, if_true]; exact hl, ?_⟩
    have row : ∀ {ext : Nat} {vs : List Value} {ro : Bool}, (∀ v ∈ vs, OldVal H v) → RowAt w' l ext vs ρ' ro → RowAt w' l ext vs (fun b => if b < H.next then ρ' b else none) ro := by
      intro ext vs ro hv hr
      refine ⟨hr.size, hr.block, fun i v e => ?_, hr.there, hr.free⟩
      obtain ⟨v', e', r⟩ := hr.cells i v e
      obtain ⟨a, ha⟩ := (hv v (List.mem_of_getElem? e)).rel hrel
      exact ⟨v', e', (ha.pull h.le r).mono hle⟩
    have hvals : o.isMap = false → ∀ v ∈ o.vals, OldVal H v := fun hm v hv => by
      rcases t.old b o hb with h1 | h1
      · exact .inr (.inl ⟨b, o, h1, hv⟩)
      · exact h1.2 v hv
    cases o with
    | cells vs lo ro => exact ⟨row (hvals rfl) ho.1, ho.2⟩
    | bytes len x lo ro => exact ⟨row (hvals rfl) ho.1, ho.2⟩
    | map es =>
      rcases t.old b _ hb with h1 | h1
      · obtain ⟨l0, hl0, ho0⟩ := hrel.obj b _ h1
        obtain ⟨_, c0, k0, _, hm0⟩ := ho0
        obtain ⟨hx, c, k, hw, hm⟩ := ho
        exact ⟨hx, c, k, hw, ERel.mono' hle (ERel.pull h.le hm0 hm)⟩
      · cases h1.1
    | loop x =>
      rcases t.old b _ hb with h1 | h1
      · obtain ⟨l0, hl0, ho0⟩ := hrel.obj b _ h1
        obtain ⟨_, r0, _, hm0⟩ := ho0
        obtain ⟨hx, r, hw, hm⟩ := ho
        exact ⟨hx, r, hw, ⟨hm.params, hm.assign, hm.body, (hm0.tmps.pull h.le hm.tmps).mono hle, hm.state, hm.jump⟩⟩
      · cases h1.1
  · rw [t.next]
    split at e
    · assumption
    · cases e
  · exact h.rel.apart b o b' o' l l' (t.same b o hb) (t.same b' o' hb') hne hro (hdown _ _ e) (hdown _ _ e') hbl
  · exact h.owns r hr ⟨b, o, l, t.same b o h1, h2, hdown _ _ h3, h4⟩
  · exact h.lives r hr ⟨b, o, l, t.same b o h1, hdown _ _ h2, h3⟩

theorem ACalls.trim {f : FuncId} {args : List Value} {H H' H2 : AH} {v : Value} (h : ACalls P gs f args H (.val v) H') (t : Trim H H' H2) (hv : plainV v = true) : ACalls P gs f args H (.val v) H2 := by
  intro ρ w args' hrel hg hl ha
  refine (h ρ w args' hrel hg hl ha).mono ?_
  rintro e w' ⟨v', ρ', rfl, hr, hw⟩
  have hw2 := hw.trim hrel t
  exact ⟨v', _, rfl, (VRel.pull hw.le (plainV_rel hv) hr).mono hw2.le, hw2⟩

theorem plainV_any {ρ : Ren} {v a : Value} (hv : plainV v = true) (h : VRel ρ v a) (ρ' : Ren) : VRel ρ' v a :=
  (VRel.pull (ρ := fun _ => none) (fun b l e => by cases e) (plainV_rel hv) h).mono fun b l e => by cases e
theorem plainVs_any {ρ : Ren} : ∀ {vs as : List Value}, (vs.all plainV) = true → VRels ρ vs as → ∀ ρ' : Ren, VRels ρ' vs as := by
  intro vs
  induction vs with
  | nil => intro as _ h ρ'; cases h; exact .nil
  | cons v vs ih =>
    intro as hv h ρ'
    simp only [List.all_cons, Bool.and_eq_true] at hv
    cases h with
    | cons x t => exact .cons (plainV_any hv.1 x ρ') (ih hv.2 t ρ')

/-- A heap that nobody writes to, with nothing but plain values. -/
def Still (H : AH) : Prop := ∀ b o, H.get b = some o → o.ro = true ∧ ∀ v ∈ o.vals, plain1 v = true

/-- A function that needs but what is never written, and leaves nothing, does so in each heap that has it. -/
theorem ACalls.pure {f : FuncId} {args : List Value} {H H' K : AH} {v : Value} (h : ACalls P gs f args H (.val v) H') (hs : Still H) (hg : ∀ g ∈ gs, g < H.next) (ha : (args.all plainV) = true) (hv : plainV v = true)
    (hsub : ∀ b o, H.get b = some o → K.get b = some o) : ACalls P gs f args K (.val v) K := by
  intro ρ w args' hrel hglob hloop hargs
  have hle : Ren.le (fun b => if b < H.next then ρ b else none) ρ := fun b l e => by
    dsimp only at e; split at e
    · exact e
    · cases e
  have hmap : ∀ o : AObj, o.ro = true → o.isMap = false := fun o ho => by cases o <;> first | rfl | cases ho
  have hrel' : Rel (fun b => if b < H.next then ρ b else none) H w := by
    refine ⟨fun b o hb => ?_, fun b l e => ?_, fun b o b' o' l l' hb hb' hne hro e e' hbl => ?_⟩
    · obtain ⟨l, hl, ho⟩ := hrel.obj b o (hsub b o hb)
      have hlt := AH.get_lt hb
      refine ⟨l, by simp only [hlt, if_true]; exact hl, ?_⟩
      have row : ∀ {ext : Nat} {vs : List Value} {ro : Bool}, (∀ v ∈ vs, plain1 v = true) → RowAt w l ext vs ρ ro → RowAt w l ext vs (fun b => if b < H.next then ρ b else none) ro := by
        intro ext vs ro hv hr
        refine ⟨hr.size, hr.block, fun i v e => ?_, hr.there, hr.free⟩
        obtain ⟨v', e', r⟩ := hr.cells i v e
        exact ⟨v', e', (VRel.pull (ρ := fun _ => none) (fun b l e => by cases e) (plain1_rel (hv v (List.mem_of_getElem? e))) r).mono fun b l e => by cases e⟩
      have := hs b o hb
      cases o with
      | cells vs lo ro => exact ⟨row this.2 ho.1, ho.2⟩
      | bytes len x lo ro => exact ⟨row this.2 ho.1, ho.2⟩
      | map es => cases this.1
      | loop x => cases this.1
    · split at e
      · assumption
      · cases e
    · rw [(hs b o hb).1] at hro; cases hro
  have hglob' : GlobOK (fun b => if b < H.next then ρ b else none) gs := fun g hgm => by
    obtain ⟨l, e, x⟩ := hglob g hgm
    exact ⟨l, by simp only [hg g hgm, if_true]; exact e, x⟩
  have hloop' : LoopsOK P gs H := fun b x e => by have := (hs b _ e).1; cases this
  refine (h _ w args' hrel' hglob' hloop' (plainVs_any ha hargs _)).mono ?_
  rintro e w' ⟨v', ρ', rfl, hr, hw⟩
  have hframe : ∀ r, r < w.heap.size → w'.heap[r]? = w.heap[r]? := fun r hr => hw.frame r hr fun ⟨b, o, l, h1, h2, _⟩ => by rw [(hs b o h1).1] at h2; cases h2
  refine ⟨v', ρ, rfl, plainV_any hv hr ρ, ⟨Ren.le_refl _, ⟨fun b o hb => ?_, hrel.dom, hrel.apart⟩, Nat.le_refl _, hw.size, fun r hr _ => hframe r hr, fun r _ x => x, fun r _ x => x, fun b l e => .inl e, fun b x e => ⟨x, e, rfl, rfl, rfl⟩, hw.os, hw.tape, hw.output⟩⟩
  obtain ⟨l, hl, ho⟩ := hrel.obj b o hb
  exact ⟨l, hl, ho.of_same (hframe _ ho.lt)⟩

end
end Go.Ads
/- From what the machine tells to what a card says: of functions that leave memory as it was. -/
namespace Go.Ads
noncomputable section
open Go.WideShapes Go.ChangeShapes

theorem post_plain {H : Type} {enc : TypeId × Value → H} {P : Program} {f : Func} {s : ChangeSpec} {apart fresh handsOn again : Bool} {W W' : World} {args : Array Value} {v : Value} {ds gs : List (DataW H)}
    (hW : DataW.Whole enc P f.params.toList s.vars apart W args.toList ds gs [])
    (hres : ∀ (b : Nat) (sp : Nat → Bool) (hd : Bool), DataW.TrodAll enc P W' b sp hd f.resultTypes.toList (v.resultList f.resultTypes.size) (s.fn H (ds ++ gs)).results [])
    (hargs : ∀ sp : Nat → Bool, DataW.TrodAll enc P W' 0 sp true f.params.toList args.toList (s.fn H (ds ++ gs)).args [])
    (hvars : ∀ sp : Nat → Bool, DataW.TrodVars enc P W' sp s.vars (s.fn H (ds ++ gs)).vars [])
    (hk : W.keptBut W' (fun _ => False))
    (hok : ∀ (j : Nat) (t : TypeId) (r : Value), f.resultTypes[j]? = some t → (v.resultList f.resultTypes.size)[j]? = some r → Value.okWide P W' .any 0 t r) :
    s.post enc P f apart fresh handsOn again W args v W' := by
  refine ⟨ds, gs, [], [], [], [], hW, hres _ _ _, hargs _, hvars _, World.keptBut_mono (fun p hp => hp.elim) hk, fun _ => ?_⟩
  refine ⟨hok, _, _, ([] ++ []) ++ [], ⟨[] ++ [], [], trodAll_append (hargs _) (hres _ _ _), hvars _, rfl, ?_, ?_⟩, ?_⟩
  · intro b off hp; simp at hp
  · intro _; simp
  · intro p hp _; simp at hp

theorem kept_of_same {W W' : World} (ho : W'.os = W.os) (hp : W'.output = W.output) (h : ∀ r, r < W.heap.size → W'.heap[r]? = W.heap[r]?) (may : MemPlace → Prop) : W.keptBut W' may := by
  refine ⟨ho, hp, fun i hi => ?_⟩
  rw [h i hi]
  cases hx : W.heap[i]? with
  | none => rfl
  | some o => cases o <;> simp

/-- A table of rows of integers: its cells. -/
theorem cells_of_tab2 {H : Type} {enc : TypeId × Value → H} {P : Program} {w : World} {base : Nat} {sp : Nat → Bool} {held : Bool} {fuel : Nat} {t e u : TypeId} {n m : Nat} {k : IntKind} {cs : List Value} {rows : List (List Int)} {p : List MemPlace}
    (ht : P.underlying t = some (.array n e)) (he : P.underlying e = some (.array m u)) (hu : P.underlying u = some (.int k)) (hcu : P.cellsOf u = 1) (hce : P.cellsOf e = m) (hct : P.cellsOf t = n * m)
    (h : DataW.trod enc P w base sp held fuel t cs = some (.agg (rows.map (Lib.tabData k)), p)) : cs.length = n * m ∧ ∀ i zs, rows[i]? = some zs → (cs.drop (i * m)).take m = zs.map fun z => Value.int k z := by
  cases fuel with
  | zero => simp [DataW.trod] at h
  | succ fuel =>
    simp only [DataW.trod, ht, hce, hct] at h
    split at h
    · rename_i hl
      obtain ⟨xs, hm, hx⟩ := Option.map_eq_some_iff.1 h
      have hxs : xs.map (·.1) = rows.map (Lib.tabData k) := by
        have := congrArg Prod.fst hx
        simpa using this
      have hxl : xs.length = n := by simpa using Lib.mapM_length hm
      have hrl : rows.length = n := by
        have := congrArg List.length hxs
        simp at this
        omega
      refine ⟨hl, fun i zs hz => ?_⟩
      have hi : i < n := by
        have := (List.getElem?_eq_some_iff.1 hz).1
        omega
      obtain ⟨b, hb, hf⟩ := Lib.mapM_at hm i i (by simp [hi])
      have h2 : (xs.map (·.1))[i]? = some (Lib.tabData k zs) := by rw [hxs]; simp [hz]
      simp only [List.getElem?_map, hb, Option.map_some, Option.some.injEq] at h2
      obtain ⟨b1, b2⟩ := b
      simp only at h2; subst h2
      exact Lib.cells_of_tab he hu hcu hce hf
    · cases h

end
end Go.Ads
