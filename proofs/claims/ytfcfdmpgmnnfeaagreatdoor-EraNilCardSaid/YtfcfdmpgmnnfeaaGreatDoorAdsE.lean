/- Code over the abstract heap, run. -/
import Derived.Test.YtfcfdmpgmnnfeaaGreatDoorAdsD
set_option linter.unusedSimpArgs false
set_option linter.unusedVariables false
namespace Go.Ads
noncomputable section

inductive CExit where
  | normal
  | exit (id : Nat)
  | ret
  | panic (v : Value)

def aresult (ts : List Value) (H : AH) : CRes → Option Value
  | .tmp t => some (ts.getD t undef)
  | .cell a => match ts.getD a undef with
    | .pointer (some p) => match H.get p.block with
      | some o => o.cell? p.off
      | none => none
    | _ => none
  | .cells a n => match ts.getD a undef with
    | .pointer (some p) => match H.get p.block with
      | some o => match o.chunk p.off n with
        | some c => some (.agg c.cells.toArray)
        | none => none
      | none => none
    | _ => none
def aresults (ts : List Value) (H : AH) : List CRes → Option (List Value)
  | [] => some []
  | r :: l => match aresult ts H r, aresults ts H l with
    | some v, some vs => some (v :: vs)
    | _, _ => none
def tupled : List Value → Value
  | [v] => v
  | vs => .tuple vs.toArray

/-- The functions: those of which it is known what they do, and the others' code. -/
structure Env where
  spec : FuncId → Option (List Value → AH → Option (COut × AH))
  code : FuncId → Option CFunc

abbrev ExecF := CCode → List Value → AH → Option (CExit × List Value × AH)

/-- A frame with values put in. -/
def setAll (ts : List Value) : List (Tmp × Value) → List Value
  | [] => ts
  | (t, v) :: l => setAll (ts.set t v) l

/-- A round of a loop over a function. -/
def runRound (ex : ExecF) (b : Nat) (args : List Value) (H : AH) : Option (COut × AH) :=
  match H.get b with
  | some (.loop x) =>
    if x.state = .ready ∧ args.length = x.real.params.size then
      match ex x.assign (setAll x.ts (x.real.params.toList.zip args)) H with
      | some (.normal, ts1, H1) => match H1.get b with
        | some (.loop x1) =>
          if x1.state = .ready then
            match ex x.body ts1 (H1.set b (.loop { x1 with state := .busy })) with
            | some (e, _, H2) => match H2.get b with
              | some (.loop x2) => match e with
                | .normal => some (.val (.bool true), H2.set b (.loop { x2 with state := .ready, jump := none }))
                | .ret => some (.val (.bool false), H2.set b (.loop { x2 with state := .done, jump := some .ret }))
                | .exit id => some (.val (.bool false), H2.set b (.loop { x2 with state := .done, jump := some (.exit id) }))
                | .panic _ => none
              | _ => none
            | none => none
          else none
        | _ => none
      | _ => none
    else none
  | _ => none

/-- A loop over a function. -/
def runRange (call : CallF) (fv : Value) (real : Site) (assign body : CCode) (ts : List Value) (H : AH) : Option (CExit × List Value × AH) :=
  match fv with
  | .func (.func g) first caps =>
    match call (.fn g) (first.toList ++ [.func (.yield H.next) #[] #[]] ++ caps.toList) (H.push (.loop ⟨real, assign, body, ts, .ready, none⟩)) with
    | some (.val _, H1) => match H1.get H.next with
      | some (.loop x) =>
        if x.state = .busy then none else
        match x.jump with
        | none => some (.normal, ts, H1.kill H.next)
        | some .ret => some (.ret, ts, H1.kill H.next)
        | some (.exit id) => some (.exit id, ts, H1.kill H.next)
        | _ => none
      | _ => none
    | some (.panic p, H1) => some (.panic p, ts, H1.kill H.next)
    | none => none
  | _ => none

/-- A deferred call of a closure that recovers what there is. -/
def runDefer (ex : ExecF) (call : CallF) (E : Env) (d : FuncId) (args : List Value) (rv : Value) (H : AH) : Option AH :=
  match E.code d with
  | some fn => match fn.recov, fn.results with
    | some (t, cs), [] => match runOps call cs ((args ++ List.replicate (fn.ntmps - args.length) undef).set t rv) H with
      | some (none, ts, H1) => match ex fn.body ts H1 with
        | some (.normal, _, H') => some H'
        | some (.ret, _, H') => some H'
        | _ => none
      | _ => none
    | _, _ => none
  | none => none

def finish (fn : CFunc) (ts : List Value) (H : AH) : Option (COut × AH) :=
  match aresults ts H fn.results with
  | some vs => some (.val (tupled vs), H)
  | none => none

/-- A function without defers. -/
def leave (fn : CFunc) : Option (CExit × List Value × AH) → Option (COut × AH)
  | some (.normal, ts, H) => finish fn ts H
  | some (.ret, ts, H) => finish fn ts H
  | some (.panic v, _, H) => some (.panic v, H)
  | _ => none

/-- A function that defers a closure. -/
def leaveD (ex : ExecF) (call : CallF) (E : Env) (fn : CFunc) (cl : Value) : Option (CExit × List Value × AH) → Option (COut × AH)
  | some (e, ts, H) => match cl with
    | .func (.func d) first caps =>
      let back (rv : Value) : Option (COut × AH) := match runDefer ex call E d (first.toList ++ caps.toList) rv H with
        | some H' => finish fn ts H'
        | none => none
      match e with
      | .normal => back .nilIface
      | .ret => back .nilIface
      | .panic v => back v
      | .exit _ => none
    | _ => none
  | none => none

/-- Codes, one behind the other. -/
def runCodes (ex : ExecF) : List CCode → List Value → AH → Option (List Value × AH)
  | [], ts, H => some (ts, H)
  | c :: l, ts, H => match ex c ts H with
    | some (.normal, ts1, H1) => runCodes ex l ts1 H1
    | _ => none

def runFn (ex : ExecF) (call : CallF) (E : Env) (fn : CFunc) (args : List Value) (H : AH) : Option (COut × AH) :=
  match fn.recov, fn.rest with
  | none, none => leave fn (ex fn.body (args ++ List.replicate (fn.ntmps - args.length) undef) H)
  | none, some (pre, cs, x) => match runCodes ex pre (args ++ List.replicate (fn.ntmps - args.length) undef) H with
    | some (ts, H1) => match runOps call cs ts H1 with
      | some (none, ts2, H2) => leaveD ex call E fn (aeval ts2 x) (ex fn.body ts2 H2)
      | _ => none
    | none => none
  | _, _ => none

mutual
def exec (E : Env) : Nat → CCode → List Value → AH → Option (CExit × List Value × AH)
  | 0, _, _, _ => none
  | f + 1, code, ts, H =>
    match code with
    | .skip => some (.normal, ts, H)
    | .region ops => match runOps (fun g args H => callF E f g args H) ops ts H with
      | some (none, ts', H') => some (.normal, ts', H')
      | some (some p, ts', H') => some (.panic p, ts', H')
      | none => none
    | .draw ops pairs => match runDraw (fun g args H => callF E f g args H) ops pairs ts H with
      | some (ts', H') => some (.normal, ts', H')
      | none => none
    | .seq a b => match exec E f a ts H with
      | some (.normal, ts', H') => exec E f b ts' H'
      | r => r
    | .cond c a b => match aeval ts c with
      | .bool true => exec E f a ts H
      | .bool false => exec E f b ts H
      | _ => none
    | .block id body => match exec E f body ts H with
      | some (.exit id', ts', H') => if id' = id then some (.normal, ts', H') else some (.exit id', ts', H')
      | r => r
    | .loop body => match exec E f body ts H with
      | some (.normal, ts', H') => exec E f (.loop body) ts' H'
      | r => r
    | .exit id => some (.exit id, ts, H)
    | .ret => some (.ret, ts, H)
    | .range x real assign body => runRange (fun g args H => callF E f g args H) (aeval ts x) real assign body ts H
def callF (E : Env) : Nat → ACallee → List Value → AH → Option (COut × AH)
  | 0, _, _, _ => none
  | f + 1, .yield b, args, H => runRound (fun c ts H => exec E f c ts H) b args H
  | f + 1, .fn g, args, H =>
    match E.spec g with
    | some s => s args H
    | none => match E.code g with
      | none => none
      | some fn => runFn (fun c ts H => exec E f c ts H) (fun g args H => callF E f g args H) E fn args H
end

end
end Go.Ads
/- What lies in the world beside what is told: loops over functions, and marks. -/
namespace Go.Ads
noncomputable section
variable {P : Program} {gs : List Nat}

theorem putObj_other {w : World} {r k : Nat} {o : Obj} (h : k ≠ r) : (w.putObj r o).heap[k]? = w.heap[k]? := World.putObj_heap_other h

/-- A block that nothing is told of is turned. -/
theorem Went0.ghost {ρ ρ' : Ren} {H H' : AH} {w w' : World} (h : Went0 ρ H w ρ' H' w') {r : Nat} (o : Obj) (hn : ¬ Lives ρ' H' r) (hr : w.heap.size ≤ r) : Went0 ρ H w ρ' H' (w'.putObj r o) := by
  refine ⟨h.le, ⟨fun b x e => ?_, h.rel.dom, h.rel.apart⟩, h.next, by rw [World.putObj_size]; exact h.size, fun k hk ho => ?_, h.owns, h.lives, h.fresh, h.os, h.tape, h.output⟩
  · obtain ⟨l, el, hobj⟩ := h.rel.obj b x e
    have hne : l.blk ≠ r := fun z => hn ⟨b, x, l, e, el, z⟩
    exact ⟨l, el, hobj.of_same (putObj_other hne)⟩
  · rw [putObj_other (by omega)]; exact h.frame k hk ho
theorem Went.ghost {ρ ρ' : Ren} {H H' : AH} {w w' : World} (h : Went ρ H w ρ' H' w') {r : Nat} (o : Obj) (hn : ¬ Lives ρ' H' r) (hr : w.heap.size ≤ r) : Went ρ H w ρ' H' (w'.putObj r o) :=
  .of0 (h.to0.ghost o hn hr) h.loops

/-- A block is laid that nothing is told of. -/
theorem Went.laid {ρ : Ren} {H : AH} {w : World} (h : Rel ρ H w) (o : Obj) : Went ρ H w ρ H (w.alloc o) := by
  refine ⟨Ren.le_refl _, ⟨fun b x e => ?_, h.dom, h.apart⟩, Nat.le_refl _, by show _ ≤ (w.heap.push o).size; simp, fun r hr _ => alloc_old o hr, fun _ _ h => h, fun _ _ h => h, fun _ _ h => .inl h, fun _ x e => ⟨x, e, rfl, rfl, rfl⟩, rfl, rfl, rfl⟩
  obtain ⟨l, el, hobj⟩ := h.obj b x e
  exact ⟨l, el, hobj.of_same (alloc_old o hobj.lt)⟩

theorem Rel.notLives {ρ : Ren} {H : AH} {w : World} (h : Rel ρ H w) {r : Nat} (hr : w.heap.size ≤ r) : ¬ Lives ρ H r := by
  rintro ⟨b, o, l, e, el, hb⟩
  obtain ⟨l', el', hobj⟩ := h.obj b o e
  rw [el] at el'; cases el'
  have := hobj.lt
  omega

theorem Owned.lives {ρ : Ren} {H : AH} {r : Nat} (h : Owned ρ H r) : Lives ρ H r := let ⟨b, o, l, e, _, el, hb⟩ := h; ⟨b, o, l, e, el, hb⟩

/-- A loop's record, found. -/
theorem Rel.loopAt {ρ : Ren} {H : AH} {w : World} (h : Rel ρ H w) {b : Nat} {x : ALoop} {l : Loc} (hb : H.get b = some (.loop x)) (hl : ρ b = some l) :
    (l.base = 0 ∧ l.size = 1 ∧ l.loose = 0) ∧ ∃ r, w.heap[l.blk]? = some (.loop r) ∧ LoopRel ρ x r := by
  obtain ⟨l0, e0, hobj⟩ := h.obj b _ hb
  rw [hl] at e0; cases e0
  exact hobj

/-- A loop's record is turned. -/
theorem Rel.loopSet {ρ : Ren} {H : AH} {w : World} (h : Rel ρ H w) {b : Nat} {x x' : ALoop} {l : Loc} {r' : Loop} (hb : H.get b = some (.loop x)) (hl : ρ b = some l)
    (hnew : LoopRel ρ x' r') (hsame : x.real = x'.real ∧ x.assign = x'.assign ∧ x.body = x'.body) :
    Went ρ H w ρ (H.set b (.loop x')) (w.putObj l.blk (.loop r')) := by
  obtain ⟨hz, r, ew, hmr⟩ := h.loopAt hb hl
  have hblt := AH.get_lt hb
  have hlt : l.blk < w.heap.size := by
    rcases Nat.lt_or_ge l.blk w.heap.size with h1 | h1
    · exact h1
    · rw [Array.getElem?_eq_none h1] at ew; cases ew
  have key : ∀ c y, (H.set b (.loop x')).get c = some y → (c = b ∧ y = .loop x') ∨ (c ≠ b ∧ H.get c = some y) := by
    intro c y e
    rw [AH.get_set] at e
    by_cases hc : c = b
    · rw [if_pos ⟨hc, hblt⟩] at e; cases e; exact .inl ⟨hc, rfl⟩
    · rw [if_neg (fun z => hc z.1)] at e; exact .inr ⟨hc, e⟩
  have hroEq : ∀ c y, (H.set b (.loop x')).get c = some y → ∃ z, H.get c = some z ∧ (y.ro = z.ro) := by
    intro c y e
    rcases key c y e with ⟨rfl, rfl⟩ | ⟨hc, e'⟩
    · exact ⟨_, hb, rfl⟩
    · exact ⟨y, e', rfl⟩
  refine ⟨Ren.le_refl _, ⟨fun c y e => ?_, fun c k e => h.dom c k e, fun c y c2 y2 k k2 e e2 hne hxr hk hk2 hblk => ?_⟩, Nat.le_refl _, by rw [World.putObj_size]; exact Nat.le_refl _, fun r _ hno => ?_, fun r _ ho => ?_, fun r _ ho => ?_, fun _ _ h => .inl h, fun c y e => ?_, rfl, rfl, rfl⟩
  · rcases key c y e with ⟨rfl, rfl⟩ | ⟨hc, e'⟩
    · exact ⟨l, hl, hz, r', World.putObj_heap_same hlt, hnew⟩
    · obtain ⟨k2, ek, hk⟩ := h.obj c y e'
      by_cases hbk : k2.blk = l.blk
      · exfalso
        have hap : ∀ z, H.get c = some z → (k2.base = 0 ∧ k2.size = 1 ∧ k2.loose = 0) → False := by
          intro z ez hz2
          have := h.apart b (.loop x) c z l k2 hb ez (fun q => hc q.symm) rfl hl ek hbk.symm
          have x1 : l.ext = 1 := by unfold Loc.ext; rw [if_pos hz.2.2, hz.2.1]
          have x2 : k2.ext = 1 := by unfold Loc.ext; rw [if_pos hz2.2.2, hz2.2.1]
          rw [x1, x2, hz.1, hz2.1] at this
          omega
        cases y with
        | map es => exact hap _ e' hk.1
        | loop y => exact hap _ e' hk.1
        | cells vs lo ro => have := hk.1.block; simp [World.shape?, hbk, ew] at this
        | bytes len n lo ro => have := hk.1.block; simp [World.shape?, hbk, ew] at this
      · exact ⟨k2, ek, hk.of_same (putObj_other hbk)⟩
  · obtain ⟨z, ez, hz1⟩ := hroEq c y e
    obtain ⟨z2, ez2, _⟩ := hroEq c2 y2 e2
    exact h.apart c z c2 z2 k k2 ez ez2 hne (by rw [← hz1]; exact hxr) hk hk2 hblk
  · exact putObj_other (fun e => hno ⟨b, _, l, hb, rfl, hl, e.symm⟩)
  · obtain ⟨c, y, k, e, hxr, hk, hbk⟩ := ho
    obtain ⟨z, ez, hz1⟩ := hroEq c y e
    exact ⟨c, z, k, ez, by rw [← hz1]; exact hxr, hk, hbk⟩
  · obtain ⟨c, y, k, e, hk, hbk⟩ := ho
    obtain ⟨z, ez, _⟩ := hroEq c y e
    exact ⟨c, z, k, ez, hk, hbk⟩
  · rcases key c _ e with ⟨rfl, h2⟩ | ⟨_, e'⟩
    · cases h2; exact ⟨x, hb, hsame⟩
    · exact ⟨y, e', rfl, rfl, rfl⟩

/-- The mark of a loop over a function. -/
def mark (D : Nat) : Deferred := { target := .collected D, args := #[] }

/-- The blocks for the rounds' deferred calls: they are there, hold none, and nothing is told of them. -/
structure Marks (w w' : World) (ρ' : Ren) (H' : AH) (ms : List Nat) : Prop where
  nodup : ms.Nodup
  new : ∀ D ∈ ms, w.heap.size ≤ D
  at_ : ∀ D ∈ ms, w'.heap[D]? = some (.deferred (some []))
  not : ∀ D ∈ ms, ¬ Lives ρ' H' D

theorem Marks.nil {w w' : World} {ρ' : Ren} {H' : AH} : Marks w w' ρ' H' [] := ⟨List.nodup_nil, by simp, by simp, by simp⟩

theorem Marks.went {w w1 w2 : World} {ρ1 ρ2 : Ren} {H1 H2 : AH} {ms : List Nat} (h : Marks w w1 ρ1 H1 ms) (k : Went0 ρ1 H1 w1 ρ2 H2 w2) : Marks w w2 ρ2 H2 ms := by
  have hlt : ∀ D ∈ ms, D < w1.heap.size := fun D hD => (Array.getElem?_eq_some_iff.1 (h.at_ D hD)).1
  refine ⟨h.nodup, h.new, fun D hD => ?_, fun D hD hl => h.not D hD (k.lives D (hlt D hD) hl)⟩
  rw [k.frame D (hlt D hD) fun o => h.not D hD o.lives]
  exact h.at_ D hD

theorem Marks.append {w w1 w2 : World} {ρ1 ρ2 : Ren} {H1 H2 : AH} {ms1 ms2 : List Nat} (h : Marks w w1 ρ1 H1 ms1) (hs : w.heap.size ≤ w1.heap.size) (k : Went0 ρ1 H1 w1 ρ2 H2 w2) (h2 : Marks w1 w2 ρ2 H2 ms2) : Marks w w2 ρ2 H2 (ms2 ++ ms1) := by
  have hw := h.went k
  have hlt : ∀ D ∈ ms1, D < w1.heap.size := fun D hD => (Array.getElem?_eq_some_iff.1 (h.at_ D hD)).1
  refine ⟨List.nodup_append.2 ⟨h2.nodup, h.nodup, fun a ha b hb => ?_⟩, fun D hD => ?_, fun D hD => ?_, fun D hD => ?_⟩
  · have := h2.new a ha; have := hlt b hb; omega
  all_goals rcases List.mem_append.1 hD with h3 | h3
  · have := h2.new D h3; omega
  · exact h.new D h3
  · exact h2.at_ D h3
  · exact hw.at_ D h3
  · exact h2.not D h3
  · exact hw.not D h3

def exitRel (ρ : Ren) : CExit → Exit → Prop
  | .normal, e => e = .normal
  | .exit id, e => e = .exit id
  | .ret, e => e = .ret
  | .panic v, e => ∃ v', VRel ρ v v' ∧ e = .panic [{ v := v', recovered := false }]

/-- What holds behind a run; 'pl': no loop over a function stands in the code. -/
def After (pl : Bool) (ρ : Ren) (H : AH) (w : World) (ex : CExit) (ts' : List Value) (H' : AH) (ds : List Deferred) : Exit → Act → World → Prop :=
  fun e a' w' => ∃ ρ' ms, exitRel ρ' ex e ∧ VRels ρ' ts' a'.tmps.toList ∧ a'.defers = ms.map mark ++ ds ∧ Marks w w' ρ' H' ms ∧ Went ρ H w ρ' H' w' ∧ (pl = true → ms = [])

theorem After.plain {pl : Bool} {ρ ρ' : Ren} {H : AH} {w : World} {ex : CExit} {ts' : List Value} {H' : AH} {ds : List Deferred} {e : Exit} {a' : Act} {w' : World} (he : exitRel ρ' ex e) (ht : VRels ρ' ts' a'.tmps.toList) (hd : a'.defers = ds) (hw : Went ρ H w ρ' H' w') :
    After pl ρ H w ex ts' H' ds e a' w' := ⟨ρ', [], he, ht, by simpa using hd, Marks.nil, hw, fun _ => rfl⟩

theorem After.trans {pl pl2 pl3 : Bool} {ρ ρ1 : Ren} {H H1 H' : AH} {w w1 : World} {ex : CExit} {ts' : List Value} {ds : List Deferred} {ms : List Nat} (hw : Went ρ H w ρ1 H1 w1) (hm : Marks w w1 ρ1 H1 ms) (hp : pl = true → ms = []) (h3 : pl3 = true → pl = true ∧ pl2 = true) {e : Exit} {a : Act} {w2 : World} (h : After pl2 ρ1 H1 w1 ex ts' H' (ms.map mark ++ ds) e a w2) :
    After pl3 ρ H w ex ts' H' ds e a w2 := by
  obtain ⟨ρ2, ms2, he, h1, h2, h3', h4, h5⟩ := h
  exact ⟨ρ2, ms2 ++ ms, he, h1, by rw [h2, List.map_append, List.append_assoc], hm.append hw.size h4.to0 h3', hw.trans h4, fun hx => by rw [h5 (h3 hx).2, hp (h3 hx).1]; rfl⟩

theorem After.weak {pl pl' : Bool} {ρ : Ren} {H H' : AH} {w : World} {ex : CExit} {ts' : List Value} {ds : List Deferred} (hp : pl' = true → pl = true) {e : Exit} {a : Act} {w2 : World} (h : After pl ρ H w ex ts' H' ds e a w2) : After pl' ρ H w ex ts' H' ds e a w2 := by
  obtain ⟨ρ2, ms2, he, h1, h2, h3, h4, h5⟩ := h
  exact ⟨ρ2, ms2, he, h1, h2, h3, h4, fun h => h5 (hp h)⟩

/-- A code's run tells what it does. -/
def CodeOK (r : Option Nat) (pl : Bool) (P : Program) (gs : List Nat) (real : Code) (ts : List Value) (H : AH) (ex : CExit) (ts' : List Value) (H' : AH) : Prop :=
  ∀ (ρ : Ren) (w : World) (a : Act), Rel ρ H w → GlobOK ρ gs → LoopsOK P gs H → VRels ρ ts a.tmps.toList → real.wpIn (FR r) 0 P (After pl ρ H w ex ts' H' a.defers) a w

end
end Go.Ads
/- Regions, rounds, loops over functions. -/
namespace Go.Ads
noncomputable section
variable {P : Program} {gs : List Nat} {r : Option Nat}

theorem runOps_ok {call : CallF} (hcall : CallOK P gs call) {ops : Array Oper} {Q : Exit → Act → World → Prop} : ∀ (l : List Oper) (cs : List COper) (k : Nat) (ts : List Value) (H : AH) (a : Act) (w : World) (ρ : Ren) (out : Option Value) (ts' : List Value) (H' : AH),
    (∀ j o, l[j]? = some o → ops[k + j]? = some o) → compOps P gs ops l = some cs → runOps call cs ts H = some (out, ts', H') → Rel ρ H w → GlobOK ρ gs → LoopsOK P gs H → VRels ρ ts a.tmps.toList →
    (∀ ρ' a' w', VRels ρ' ts' a'.tmps.toList → a'.defers = a.defers → Went ρ H w ρ' H' w' → match out with | none => Q .normal a' w' | some p => ∀ v', VRel ρ' p v' → Q (.panic [{ v := v', recovered := false }]) a' w') →
    wpOpsIn (FR r) 0 P ops Q (List.range' k l.length) a w := by
  intro l
  induction l with
  | nil =>
    intro cs k ts H a w ρ out ts' H' hops hc hr hrel hg hlo ht hQ
    simp only [compOps, Option.some.injEq] at hc; subst hc
    simp only [runOps, Option.some.injEq, Prod.mk.injEq] at hr
    obtain ⟨rfl, rfl, rfl⟩ := hr
    exact hQ ρ a w ht rfl (Went.refl hrel)
  | cons o l ih =>
    intro cs k ts H a w ρ out ts' H' hops hc hr hrel hg hlo ht hQ
    simp only [compOps] at hc
    split at hc
    · rename_i c cs2 hco hcs
      simp only [Option.some.injEq] at hc; subst hc
      obtain ⟨_, hdst⟩ := compOper_comp hco
      have ho : ops[k]? = some o := hops 0 o rfl
      have hops' : ∀ j o, l[j]? = some o → ops[k + 1 + j]? = some o := fun j o e => by
        have := hops (j + 1) o (by simpa using e)
        rwa [show k + (j + 1) = k + 1 + j by omega] at this
      rw [List.length_cons, List.range'_succ, wpOpsIn_cons]
      unfold wpOpIn
      simp only [ho]
      have hgw := guarded_wanted ht hco
      simp only [runOps] at hr
      split at hr
      · rename_i hgd
        rw [hgw, if_pos hgd]
        split at hr
        · rename_i v H1 hop
          refine runOperO_ok hcall hrel hg hlo ht hco hop _ _ fun ρ1 v1 w1 hv1 hw1 => ?_
          refine ih cs2 (k + 1) _ _ _ _ ρ1 out ts' H' hops' hcs hr hw1.rel (hg.mono hw1.le) (hlo.same hw1.loops) ?_ fun ρ2 a2 w2 h1 h2 h3 => ?_
          · rw [hdst]; exact aput_rel (ht.mono hw1.le) hv1
          · exact hQ ρ2 a2 w2 h1 (by rw [h2, Act.put_defers']) (hw1.trans h3)
        · rename_i p H1 hop
          simp only [Option.some.injEq, Prod.mk.injEq] at hr
          obtain ⟨rfl, rfl, rfl⟩ := hr
          refine runOperO_ok hcall hrel hg hlo ht hco hop _ _ fun ρ1 v1 w1 hv1 hw1 => ?_
          exact hQ ρ1 a w1 (ht.mono hw1.le) rfl hw1 v1 hv1
        · cases hr
      · rename_i hgd
        rw [hgw, if_neg hgd]
        refine ⟨fun _ _ => trivial, ih cs2 (k + 1) _ _ _ _ ρ out ts' H' hops' hcs hr hrel hg hlo ?_ fun ρ2 a2 w2 h1 h2 h3 => ?_⟩
        · rw [hdst]; exact aput_rel ht (vrel_undef _)
        · exact hQ ρ2 a2 w2 h1 (by rw [h2, Act.put_defers']) h3
    · cases hc

/-- Nobody else lies where a loop's record lies. -/
theorem Rel.loopAlone {ρ : Ren} {H : AH} {w : World} (h : Rel ρ H w) {b : Nat} {x : ALoop} {l : Loc} (hb : H.get b = some (.loop x)) (hl : ρ b = some l) {c : Nat} {y : AObj} {k : Loc} (hc : c ≠ b) (hy : H.get c = some y) (hk : ρ c = some k) : k.blk ≠ l.blk := by
  intro hbk
  obtain ⟨hz, r, ew, _⟩ := h.loopAt hb hl
  obtain ⟨k2, ek, hobj⟩ := h.obj c y hy
  rw [hk] at ek; cases ek
  have hap : (k.base = 0 ∧ k.size = 1 ∧ k.loose = 0) → False := by
    intro hz2
    have := h.apart b (.loop x) c y l k hb hy (fun q => hc q.symm) rfl hl hk hbk.symm
    have x1 : l.ext = 1 := by unfold Loc.ext; rw [if_pos hz.2.2, hz.2.1]
    have x2 : k.ext = 1 := by unfold Loc.ext; rw [if_pos hz2.2.2, hz2.2.1]
    rw [x1, x2, hz.1, hz2.1] at this
    omega
  cases y with
  | map es => exact hap hobj.1
  | loop y => exact hap hobj.1
  | cells vs lo ro => have := hobj.1.block; simp [World.shape?, hbk, ew] at this
  | bytes len n lo ro => have := hobj.1.block; simp [World.shape?, hbk, ew] at this

theorem putIn_rel {ρ : Ren} : ∀ {ps : List Tmp} {args args' : List Value} {ts ts' : List Value}, VRels ρ args args' → VRels ρ ts ts' → VRels ρ (setAll ts (ps.zip args)) (setAll ts' (ps.zip args')) := by
  intro ps
  induction ps with
  | nil => intro args args' ts ts' _ ht; exact ht
  | cons p ps ih =>
    intro args args' ts ts' ha ht
    cases ha with
    | nil => exact ht
    | cons h t => exact ih t (ht.set p h)

theorem setAll_fold (ps : Array Tmp) (args : Array Value) (tmps : Array Value) : ((ps.zip args).foldl (fun t (x, a) => t.setIfInBounds x a) tmps).toList = setAll tmps.toList (ps.toList.zip args.toList) := by
  rw [← Array.foldl_toList, Array.toList_zip]
  generalize ps.toList.zip args.toList = l
  induction l generalizing tmps with
  | nil => rfl
  | cons p l ih =>
    obtain ⟨t, v⟩ := p
    simp only [List.foldl_cons, setAll]
    rw [ih]
    simp

/-- What is known of runs of code without loops over functions, in a round. -/
def PlainOK (P : Program) (gs : List Nat) (ex : ExecF) : Prop := ∀ (r : Option Nat) real code ts H e ts' H', compCode P gs real = some code → code.plain = true → ex code ts H = some (e, ts', H') → CodeOK r true P gs real ts H e ts' H'

theorem runRound_ok {ex : ExecF} (hex : PlainOK P gs ex) {b : Nat} {args : List Value} {H : AH} {out : COut} {H' : AH} (h : runRound ex b args H = some (out, H')) : ARounds P gs b args H out H' := by
  intro ρ w args' l hrel hg hlo hargs hb
  unfold runRound at h
  split at h
  · rename_i x hx
    split at h
    · rename_i hst
      obtain ⟨hready, hlen⟩ := hst
      split at h
      · rename_i ts1 H1 hasg
        split at h
        · rename_i x1 hx1
          split at h
          · rename_i hready1
            split at h
            · rename_i e ts2 H2 hbody
              split at h
              · rename_i x2 hx2
                obtain ⟨hz, rec, hrec, hlr⟩ := hrel.loopAt hx hb
                have hL := hlo b x hx
                have hsz : args'.size = rec.params.size := by
                  have := hargs.length
                  rw [hlr.params, ← hlen]; simpa using this
                refine ⟨rec.fn, _, rec.assign, rec.body, run_yield hrec hsz, ?_⟩
                refine roundIn_of_wpIn (F := Fence.wide) (n := 0) trivial ?_
                rw [hlr.assign, hlr.body]
                have ht0 : VRels ρ (setAll x.ts (x.real.params.toList.zip args)) ((rec.params.zip args').foldl (fun t (x, a) => t.setIfInBounds x a) rec.tmps).toList := by
                  rw [setAll_fold, hlr.params]
                  exact putIn_rel hargs hlr.tmps
                refine wpIn_mono (hex (some l.blk) _ _ _ _ _ _ _ hL.assign hL.pa hasg ρ w { tmps := _, defers := [] } hrel hg hlo ht0) ?_
                rintro e1 a1 w1 ⟨ρ1, ms1, he1, ht1, _, _, hw1, _⟩
                simp only [exitRel] at he1; subst he1
                have hb1 := hw1.le _ _ hb
                obtain ⟨hz1, rec1, hrec1, hlr1⟩ := hw1.rel.loopAt hx1 hb1
                have hst1 : rec1.state = .ready := by rw [hlr1.state]; exact hready1
                refine ⟨_, run_beginRound hrec1 hst1, ?_⟩
                have hw2 := hw1.rel.loopSet (x' := { x1 with state := .busy }) (r' := { rec1 with state := .busy }) hx1 hb1 ⟨hlr1.params, hlr1.assign, hlr1.body, hlr1.tmps, rfl, hlr1.jump⟩ ⟨rfl, rfl, rfl⟩
                have hw12 := hw1.trans hw2
                refine wpIn_mono (hex (some l.blk) _ _ _ _ _ _ _ hL.body hL.pb hbody ρ1 _ a1 hw2.rel (hg.mono hw12.le) (hlo.same hw12.loops) ht1) ?_
                rintro e3 a3 w3 ⟨ρ3, ms3, he3, _, _, _, hw3, _⟩
                have hb3 := hw3.le _ _ hb1
                obtain ⟨hz3, rec3, hrec3, hlr3⟩ := hw3.rel.loopAt hx2 hb3
                have fin : ∀ (jump : Option Code) (st : LoopState), st = (if jump.isNone then .ready else .done) → out = .val (.bool jump.isNone) → H' = H2.set b (.loop { x2 with state := st, jump := jump }) →
                    ∃ v w', (Instr.endRound l.blk jump).run P w3 = .ok v w' ∧ CallPost ρ H w out H' (.returned v) w' := by
                  rintro jump st rfl rfl rfl
                  refine ⟨_, _, run_endRound jump hrec3, ?_⟩
                  have hw4 := hw3.rel.loopSet (x' := { x2 with state := if jump.isNone then .ready else .done, jump := jump }) (r' := { rec3 with state := if jump.isNone then .ready else .done, pending := jump }) hx2 hb3 ⟨hlr3.params, hlr3.assign, hlr3.body, hlr3.tmps, rfl, rfl⟩ ⟨rfl, rfl, rfl⟩
                  exact ⟨_, ρ3, rfl, .bool _, (hw12.trans hw3).trans hw4⟩
                cases e with
                | normal =>
                  simp only [Option.some.injEq, Prod.mk.injEq] at h
                  simp only [exitRel] at he3; subst he3
                  exact fin none .ready rfl h.1.symm h.2.symm
                | ret =>
                  simp only [Option.some.injEq, Prod.mk.injEq] at h
                  simp only [exitRel] at he3; subst he3
                  exact fin (some .ret) .done rfl h.1.symm h.2.symm
                | exit id =>
                  simp only [Option.some.injEq, Prod.mk.injEq] at h
                  simp only [exitRel] at he3; subst he3
                  exact fin (some (.exit id)) .done rfl h.1.symm h.2.symm
                | panic p => cases h
              · cases h
            · cases h
          · cases h
        · cases h
      · cases h
    · cases h
  · cases h

theorem runRange_ok {call : CallF} (hcall : CallOK P gs call) {f : Operand} {real : Site} {ca cb : CCode} {ts ts' : List Value} {H H' : AH} {ex : CExit} (hf : okOp gs f = true) (hL : LoopOK P gs ⟨real, ca, cb, ts, .ready, none⟩)
    (h : runRange call (aeval ts f) real ca cb ts H = some (ex, ts', H')) : CodeOK none false P gs (.rangeFunc f real.params real.assign real.body) ts H ex ts' H' := by
  intro ρ w a hrel hg hlo ht
  unfold runRange at h
  split at h
  · rename_i g first caps hfv
    have hfr := aeval_rel hg ht f hf
    rw [hfv] at hfr
    generalize hz : a.eval f = z at hfr
    obtain ⟨first', caps', rfl, h1, h2⟩ := func_inv hfr (fun l h => by cases h)
    generalize hH1 : H.push (.loop ⟨real, ca, cb, ts, .ready, none⟩) = H1 at h
    refine wpIn_rangeFunc fun fn _ => ?_
    -- the two blocks
    have hwA := Went.laid hrel (.deferred (some []))
    generalize hWA : w.alloc (.deferred (some [])) = wA at hwA
    have hsA : wA.heap.size = w.heap.size + 1 := by rw [← hWA]; simp
    let rec0 : Loop := { state := .ready, pending := none, fn, tmps := a.tmps, params := real.params, assign := real.assign, body := real.body, defers := w.heap.size }
    let loc : Loc := ⟨wA.heap.size, 0, 1, 1, 0⟩
    have hnewL : (wA.alloc (.loop rec0)).heap[wA.heap.size]? = some (.loop rec0) := World.alloc_heap_new _ _
    have hwB : Went0 ρ H wA (ρ.put H.next loc) (H.push (.loop ⟨real, ca, cb, ts, .ready, none⟩)) (wA.alloc (.loop rec0)) :=
      hwA.rel.push0 _ _ loc rfl ⟨⟨rfl, rfl, rfl⟩, rec0, hnewL, ⟨rfl, rfl, rfl, ht.mono (hwA.rel.le_put loc), rfl, rfl⟩⟩
    rw [hH1] at hwB
    generalize hρ1 : ρ.put H.next loc = ρ1 at hwB
    have hb1 : ρ1 H.next = some loc := by rw [← hρ1]; simp [Ren.put]
    have hwAB := hwA.to0.trans hwB
    generalize hWB : wA.alloc (.loop rec0) = wB at hwB hwAB hnewL
    have hsB : wB.heap.size = w.heap.size + 2 := by rw [← hWB]; simp [hsA]
    have hlo1 : LoopsOK P gs H1 := by
      intro c y e
      rw [← hH1, AH.get_push] at e
      split at e
      · simp only [Option.some.injEq, AObj.loop.injEq] at e; subst e; exact hL
      · exact hlo c y e
    have hD : wB.heap[w.heap.size]? = some (.deferred (some [])) := by
      rw [← hWB, alloc_old _ (by omega), ← hWA]; exact World.alloc_heap_new _ _
    have hDn : ¬ Lives ρ1 H1 w.heap.size := by
      rintro ⟨c, y, k, e, ek, hbk⟩
      rw [← hH1, AH.get_push] at e
      split at e
      · rename_i hc
        rw [hc, hb1] at ek; cases ek
        simp only [loc] at hbk; omega
      · rename_i hc
        have ek' : ρ c = some k := by
          rw [← hρ1] at ek
          unfold Ren.put at ek
          rwa [if_neg hc] at ek
        exact hrel.notLives (Nat.le_refl _) ⟨c, y, k, e, ek', hbk⟩
    have hargs : VRels ρ1 (first.toList ++ [Value.func (.yield H.next) #[] #[]] ++ caps.toList) (first' ++ #[Value.func (.yield (w.heap.size + 1)) #[] #[]] ++ caps').toList := by
      simp only [Array.toList_append]
      refine ((h1.mono hwAB.le).append (.cons ?_ .nil)).append (h2.mono hwAB.le)
      have e : loc.blk = w.heap.size + 1 := hsA
      rw [← e]; exact .yield hb1
    have hw1eq : (w.alloc (.deferred (some []))).alloc (.loop { state := .ready, pending := none, fn, tmps := a.tmps, params := real.params, assign := real.assign, body := real.body, defers := w.heap.size }) = wB := by
      rw [← hWB, ← hWA]
    -- the call
    have main : ∀ out H2, call (.fn g) (first.toList ++ [Value.func (.yield H.next) #[] #[]] ++ caps.toList) H1 = some (out, H2) →
        (∀ v' ρ3 w3, VRel ρ3 out.value v' → Went ρ1 H1 wB ρ3 H2 w3 → rangePost (FR none) 0 P (w.heap.size + 1) (After false ρ H w ex ts' H' a.defers) { a with defers := [{ target := .collected w.heap.size, args := #[] }] ++ a.defers } (out.ending v') w3) →
        ∃ (l : Nat) (mark : List Deferred) (w₁ : World) (d : Deferred) (w₁' : World) (f₁ : FuncId) (args : Array Value) (w₂ : World),
          (Instr.enterLoop fn a.tmps real.params real.assign real.body (FR none).round).run P w = .ok (l, mark) w₁ ∧
          (resolve a.eval (rangeCall f l) 0).run P w₁ = .ok d w₁' ∧ (∀ f', Target.leads P w₁' d.target d.args = some f' → (FR none).fn f') ∧ (invoke d.target d.args).run P w₁' = .ok (.enter f₁ args) w₂ ∧
          ((FR none).depth.isSome = true → 1 ≤ 0) ∧ CallsIn (FR none) (0 - 1) P f₁ args w₂ (rangePost (FR none) 0 P l (After false ρ H w ex ts' H' a.defers) { a with defers := mark ++ a.defers }) := by
      intro out H2 hc hpost
      obtain ⟨hbod, hac⟩ := hcall.fn _ _ _ _ _ hc
      refine ⟨w.heap.size + 1, [{ target := .collected w.heap.size, args := #[] }], wB, { target := .fn (.func g) caps', args := first' ++ #[.func (.yield (w.heap.size + 1)) #[] #[]] }, wB, g, first' ++ #[.func (.yield (w.heap.size + 1)) #[] #[]] ++ caps', wB, ?_, ?_, fun _ _ => trivial, ?_, fun h => by simp [FR, Fence.wide] at h, ?_⟩
      · rw [← hw1eq]; exact run_enterLoop_outer _ _ _ _ _
      · simp only [resolve, hz, Deferred.ofValue]
        simp [Act.eval]
      · simp only [invoke]; exact run_callFunc hbod _ _
      · refine callsIn_FR none ((hac ρ1 wB _ hwAB.rel (hg.mono hwAB.le) hlo1 hargs).mono ?_)
        rintro e w3 ⟨v', ρ3, rfl, hv, hw⟩
        exact hpost v' ρ3 w3 hv hw
    -- what is known behind it
    have behind : ∀ {H2 ρ3 w3}, Went ρ1 H1 wB ρ3 H2 w3 → Went ρ H w ρ3 (H2.kill H.next) w3 ∧ Marks w w3 ρ3 (H2.kill H.next) [w.heap.size] := by
      intro H2 ρ3 w3 hw
      have hsub : ∀ c y, (H2.kill H.next).get c = some y → c ≠ H.next ∧ H2.get c = some y := by
        intro c y e
        rw [AH.get_kill] at e
        split at e
        · cases e
        · rename_i hc; exact ⟨hc, e⟩
      have h0 := (hwAB.trans hw.to0).weaken (H'' := H2.kill H.next) (Nat.le_refl _) fun c y e => (hsub c y e).2
      refine ⟨.of0 h0 fun c y e => ?_, List.nodup_cons.2 ⟨by simp, List.nodup_nil⟩, ?_, ?_, ?_⟩
      · obtain ⟨hc, e2⟩ := hsub c _ e
        obtain ⟨z, ez, hz⟩ := hw.loops c y e2
        rw [← hH1, AH.get_push, if_neg hc] at ez
        exact ⟨z, ez, hz⟩
      · intro D hD
        simp only [List.mem_singleton] at hD; subst hD
        exact Nat.le_refl _
      · intro D hD
        simp only [List.mem_singleton] at hD; subst hD
        rw [hw.frame _ (by omega) fun o => hDn o.lives]; exact hD
      · intro D hD
        simp only [List.mem_singleton] at hD; subst hD
        rintro ⟨c, y, k, e, ek, hbk⟩
        exact hDn (hw.lives _ (by omega) ⟨c, y, k, (hsub c y e).2, ek, hbk⟩)
    split at h
    · rename_i v0 H2 hc
      refine main _ _ hc fun v' ρ3 w3 hv hw => ?_
      split at h
      · rename_i x hx
        split at h
        · cases h
        · rename_i hbusy
          have hb3 := hw.le _ _ hb1
          obtain ⟨hz3, rec3, hrec3, hlr3⟩ := hw.rel.loopAt hx hb3
          rw [show loc.blk = w.heap.size + 1 from hsA] at hrec3
          obtain ⟨hwK, hmK⟩ := behind hw
          have hnl : ¬ Lives ρ3 (H2.kill H.next) (w.heap.size + 1) := by
            rintro ⟨c, y, k, e, ek, hbk⟩
            rw [AH.get_kill] at e
            split at e
            · cases e
            · rename_i hc2
              exact hw.rel.loopAlone hx hb3 hc2 e ek (by rw [hbk]; exact hsA.symm)
          have hwF := hwK.ghost (.loop { rec3 with state := .exhausted }) hnl (by omega)
          have hmF : Marks w (w3.putObj (w.heap.size + 1) (.loop { rec3 with state := .exhausted })) ρ3 (H2.kill H.next) [w.heap.size] := by
            refine ⟨hmK.nodup, hmK.new, fun D hD => ?_, hmK.not⟩
            have := hmK.at_ D hD
            simp only [List.mem_singleton] at hD; subst hD
            rw [putObj_other (by omega)]; exact this
          have hend := run_endLoop (P := P) hrec3 (by rw [hlr3.state]; exact hbusy)
          generalize w3.putObj (w.heap.size + 1) (.loop { rec3 with state := .exhausted }) = W at hwF hmF hend
          have aft : ∀ {e : Exit} {ex2 : CExit}, exitRel ρ3 ex2 e → ex = ex2 → ts' = ts → H' = H2.kill H.next →
              After false ρ H w ex ts' H' a.defers e { a with defers := [{ target := .collected w.heap.size, args := #[] }] ++ a.defers } W := by
            rintro e ex2 he rfl rfl rfl
            exact ⟨ρ3, [w.heap.size], he, ht.mono hwF.le, rfl, hmF, hwF, fun h => by cases h⟩
          refine ⟨rec3.pending, W, hend, ?_⟩
          rw [hlr3.jump]
          split at h
          · rename_i hj
            simp only [Option.some.injEq, Prod.mk.injEq] at h
            rw [hj]
            exact aft (ex2 := .normal) rfl h.1.symm h.2.1.symm h.2.2.symm
          · rename_i hj
            simp only [Option.some.injEq, Prod.mk.injEq] at h
            rw [hj]
            exact wpIn_ret (aft (ex2 := .ret) rfl h.1.symm h.2.1.symm h.2.2.symm)
          · rename_i id hj
            simp only [Option.some.injEq, Prod.mk.injEq] at h
            rw [hj]
            exact wpIn_exit (aft (ex2 := .exit id) rfl h.1.symm h.2.1.symm h.2.2.symm)
          · cases h
      · cases h
    · rename_i p H2 hc
      refine main _ _ hc fun v' ρ3 w3 hv hw => ?_
      simp only [Option.some.injEq, Prod.mk.injEq] at h
      obtain ⟨rfl, rfl, rfl⟩ := h
      obtain ⟨hwK, hmK⟩ := behind hw
      exact ⟨ρ3, [w.heap.size], ⟨v', hv, rfl⟩, ht.mono hwK.le, rfl, hmK, hwK, fun h => by cases h⟩
    · cases h
  · cases h

end
end Go.Ads
/- A run over the abstract heap tells what the program does. -/
namespace Go.Ads
noncomputable section
variable {P : Program} {gs : List Nat}

structure EnvOK (P : Program) (gs : List Nat) (E : Env) : Prop where
  mixed : P.follows .mixedOrders = true
  spec : ∀ g s, E.spec g = some s → ∀ args H out H', s args H = some (out, H') → bodied P g = true ∧ ACalls P gs g args H out H'
  code : ∀ g cf, E.code g = some cf → ∃ fn, P.funcs[g]? = some fn ∧ compFunc P gs fn = some cf ∧ fn.name ≠ "runtime.NumGoroutine"

def resOne (tmps : Array Value) : ResultVar → Sem Value
  | .tmp t => pure (tmps.getD t undef)
  | .cell a t => do loadVar t (← asAddr (tmps.getD a undef))
theorem results_eq (fn : Func) (tmps : Array Value) : results fn tmps = (do let vs ← fn.results.mapM (resOne tmps); pure (if h : vs.size = 1 then vs[0] else .tuple vs)) := by
  have e : (fun r : ResultVar => (match r with
    | .tmp t => pure (tmps.getD t undef)
    | .cell a t => do loadVar t (← asAddr (tmps.getD a undef)) : Sem Value)) = resOne tmps := by funext x; cases x <;> rfl
  rw [← e]; rfl

theorem aresult_ok {ρ : Ren} {H : AH} {w : World} {ts : List Value} {a : Act} (hrel : Rel ρ H w) (ht : VRels ρ ts a.tmps.toList) : ∀ {rv : List ResultVar} {rs : List CRes} {vs : List Value}, compRes P rv = some rs → aresults ts H rs = some vs →
    ∃ vs', VRels ρ vs vs' ∧ (rv.mapM (m := Sem) (resOne a.tmps)).run P w = .ok vs' w := by
  have hget : ∀ t, VRel ρ (ts.getD t undef) (a.tmps.getD t undef) := fun t => by
    have := ht.getD t (vrel_undef ρ)
    simpa [Array.getD_eq_getD_getElem?, List.getD_eq_getElem?_getD] using this
  intro rv
  induction rv with
  | nil => intro rs vs hc hr; simp only [compRes, Option.some.injEq] at hc; subst hc; simp only [aresults, Option.some.injEq] at hr; subst hr; exact ⟨[], .nil, rfl⟩
  | cons r rv ih =>
    intro rs vs hc hr
    cases r with
    | tmp t =>
      simp only [compRes] at hc
      cases hc2 : compRes P rv with
      | none => rw [hc2] at hc; cases hc
      | some rs2 =>
        rw [hc2] at hc
        simp only [Option.map_some, Option.some.injEq] at hc; subst hc
        simp only [aresults, aresult] at hr
        split at hr
        · rename_i v vs2 hv hvs
          simp only [Option.some.injEq] at hr hv; subst hr; subst hv
          obtain ⟨vs', h1, h2⟩ := ih hc2 hvs
          refine ⟨_, .cons (hget t) h1, ?_⟩
          rw [List.mapM_cons]
          simp only [resOne, Sem.run_bind, Sem.run_pure, Result.andThen_ok, h2]
        · cases hr
    | cell x t =>
      simp only [compRes] at hc
      split at hc
      · rename_i d i rs2 hd hi hc2
        simp only [Option.some.injEq] at hc; subst hc
        simp only [aresults] at hr
        split at hr
        · rename_i v vs2 hv hvs
          simp only [Option.some.injEq] at hr; subst hr
          obtain ⟨vs', h1, h2⟩ := ih hc2 hvs
          have hx := hget x
          have hload : ∃ v', VRel ρ v v' ∧ (do loadVar t (← asAddr (a.tmps.getD x undef)) : Sem Value).run P w = .ok v' w := by
            cases hag : aggD d with
            | true =>
              rw [hag] at hv
              simp only [if_true, aresult] at hv
              split at hv
              · rename_i p hp
                rw [hp] at hx
                obtain ⟨p', ep, hpr⟩ := ptr_inv hx
                split at hv
                · rename_i o ho
                  split at hv
                  · rename_i ch hch
                    simp only [Option.some.injEq] at hv; subst hv
                    obtain ⟨l, el, hs, rfl⟩ := hpr
                    obtain ⟨us', hr3, hlen, hcell⟩ := hrel.chunk ho el hch
                    refine ⟨.agg us'.toArray, .agg (by simpa using hr3), ?_⟩
                    have := run_loadCells_list (P := P) w ⟨l.blk, l.base + p.off, none⟩ us' (fun j v e => by rw [addrAdd]; exact hcell j v e)
                    rw [hlen] at this
                    rw [ep]
                    simp only [asAddr, Sem.run_bind, Sem.run_pure, Result.andThen_ok, loadVar, run_isAgg hd, hag, if_true, sizeOf, typeInfo, run_program, hi, this]
                  · cases hv
                · cases hv
              · cases hv
            | false =>
              rw [hag] at hv
              simp only [Bool.false_eq_true, if_false, aresult] at hv
              split at hv
              · rename_i p hp
                rw [hp] at hx
                obtain ⟨p', ep, hpr⟩ := ptr_inv hx
                split at hv
                · rename_i o ho
                  obtain ⟨v', e, r⟩ := hrel.load hpr ho hv
                  refine ⟨v', r, ?_⟩
                  rw [ep]
                  simp only [asAddr, Sem.run_bind, Sem.run_pure, Result.andThen_ok, loadVar, run_isAgg hd, hag, Bool.false_eq_true, if_false, run_load, e]
                · cases hv
              · cases hv
          obtain ⟨v', hvr, hlr⟩ := hload
          refine ⟨_, .cons hvr h1, ?_⟩
          rw [List.mapM_cons]
          rw [resOne, Sem.run_bind, hlr, Result.andThen_ok, Sem.run_bind, h2]; rfl
        · cases hr
      · cases hc

theorem results_ok {ρ : Ren} {H : AH} {w : World} {ts : List Value} {a : Act} {fn : Func} {rs : List CRes} {vs : List Value} (hrel : Rel ρ H w) (ht : VRels ρ ts a.tmps.toList) (hc : compRes P fn.results.toList = some rs) (hr : aresults ts H rs = some vs) :
    ∃ v', VRel ρ (tupled vs) v' ∧ (results fn a.tmps).run P w = .ok v' w := by
  obtain ⟨vs', h1, h2⟩ := aresult_ok hrel ht hc hr
  have hrun : (results fn a.tmps).run P w = .ok (if h : vs'.toArray.size = 1 then vs'.toArray[0] else .tuple vs'.toArray) w := by
    rw [results_eq, Array.mapM_eq_mapM_toList, Sem.run_bind, Sem.run_map, h2]
    rfl
  cases h1 with
  | nil => exact ⟨_, .tuple .nil, hrun⟩
  | cons hv t =>
    cases t with
    | nil => exact ⟨_, hv, hrun⟩
    | cons hv2 t2 => exact ⟨_, .tuple (.cons hv (.cons hv2 t2)), by rw [hrun]; simp⟩


/-- Marks are come to. -/
theorem leaves_marks {fn : Func} {tmps : Array Value} {R : Ending → World → Prop} {ds : List Deferred} {u : FrameMode} (hu : u ≠ .run) {ρ ρ' : Ren} {H H' : AH} {w : World} : ∀ (ms : List Nat) (w' : World), Marks w w' ρ' H' ms → Went ρ H w ρ' H' w' →
    (∀ w'', Went ρ H w ρ' H' w'' → (∀ k, k ∉ ms → w''.heap[k]? = w'.heap[k]?) → LeavesInM (FR none) 0 P fn tmps R ds u w'') → LeavesInM (FR none) 0 P fn tmps R (ms.map mark ++ ds) u w' := by
  intro ms
  induction ms with
  | nil => intro w' _ hw h; exact h w' hw fun _ _ => rfl
  | cons D ms ih =>
    intro w' hm hw h
    have hD := hm.at_ D (by simp)
    have hnd := List.nodup_cons.1 hm.nodup
    refine ⟨hu, .inl ⟨D, _, rfl, run_takeDeferred hD, ?_⟩⟩
    refine ih _ ⟨hnd.2, fun E hE => hm.new E (by simp [hE]), fun E hE => ?_, fun E hE => hm.not E (by simp [hE])⟩ (hw.ghost _ (hm.not D (by simp)) (hm.new D (by simp))) fun w'' h1 h2 => h w'' h1 fun k hk => ?_
    · rw [putObj_other (by rintro rfl; exact hnd.1 hE)]; exact hm.at_ E (by simp [hE])
    · rw [h2 k (fun z => hk (by simp [z])), putObj_other (by rintro rfl; exact hk (by simp))]

theorem lastOp_spec : ∀ {l a : List Oper} {b : Oper}, lastOp l = some (a, b) → l = a ++ [b] := by
  intro l
  induction l with
  | nil => intro a b h; cases h
  | cons o l ih =>
    intro a b h
    cases l with
    | nil => simp only [lastOp, Option.some.injEq, Prod.mk.injEq] at h; obtain ⟨rfl, rfl⟩ := h; rfl
    | cons p l =>
      simp only [lastOp] at h
      split at h
      · rename_i a' b' h2
        simp only [Option.some.injEq, Prod.mk.injEq] at h; obtain ⟨rfl, rfl⟩ := h
        rw [ih h2]; rfl
      · cases h

theorem wpOpsIn_append {F : Fence} {n : Nat} {ops : Array Oper} {Q : Exit → Act → World → Prop} : ∀ (l1 l2 : List Nat) (a : Act) (w : World), wpOpsIn F n P ops (Exit.then (wpOpsIn F n P ops Q l2) Q) l1 a w → wpOpsIn F n P ops Q (l1 ++ l2) a w := by
  intro l1
  induction l1 with
  | nil => intro l2 a w h; exact h
  | cons i l1 ih =>
    intro l2 a w h
    rw [List.cons_append, wpOpsIn_cons]
    rw [wpOpsIn_cons] at h
    have step : ∀ {K K' : Act → World → Prop} {Q' : Exit → Act → World → Prop}, (∀ a w, K' a w → K a w) → (∀ e a w, e ≠ .normal → Q' e a w → Q e a w) → wpOpIn F n P ops Q' i K' a w → wpOpIn F n P ops Q i K a w := by
      intro K K' Q' hK hQ h
      unfold wpOpIn at h ⊢
      split at h
      · exact hK _ _ h
      · rename_i o ho
        try simp only [ho]
        split at h
        · rename_i hw
          rw [if_pos hw]
          refine ⟨h.1, ?_⟩
          have h2 := h.2
          generalize (o.semAt F.round a.eval).run P w = r at h2
          cases r with
          | ok x w' =>
            cases x <;> simp only [Oper.uponIn] at h2 ⊢ <;>
              first
                | exact hK _ _ h2
                | exact ⟨h2.1, CallsIn.mono h2.2 (fun e w'' he => by cases e <;> first | exact hK _ _ he | exact hQ _ _ _ (by simp) he | exact let ⟨a0, w0, h0⟩ := he; ⟨a0, w0, hQ _ _ _ (by simp) h0⟩)⟩
                | exact ⟨h2.1, RowsIn.mono h2.2 (fun _ _ he => hK _ _ he)⟩
                | exact ⟨h2.1, RoundIn.mono h2.2 (fun e w'' he => by cases e <;> first | exact hK _ _ he | exact hQ _ _ _ (by simp) he | exact let ⟨a0, w0, h0⟩ := he; ⟨a0, w0, hQ _ _ _ (by simp) h0⟩)⟩
          | halt x w' => cases x <;> simp only [Oper.uponIn] at h2 ⊢ <;> first | exact hQ _ _ _ (by simp) h2 | exact h2
        · rename_i hw
          rw [if_neg hw]
          exact ⟨h.1, hK _ _ h.2⟩
    refine step (fun a w h => ih l2 a w h) (fun e a w he h => ?_) h
    cases e <;> first | exact absurd rfl he | exact h


/-- Codes, one behind the other; then something. -/
def PreOK (P : Program) (Q : Exit → Act → World → Prop) (X : Act → World → Prop) : List Code → Act → World → Prop
  | [], a, w => X a w
  | c :: l, a, w => c.wpIn (FR none) 0 P (Exit.then (PreOK P Q X l) Q) a w

def ExecOK (P : Program) (gs : List Nat) (ex : ExecF) : Prop := ∀ real code ts H e ts' H', compCode P gs real = some code → ex code ts H = some (e, ts', H') → CodeOK none false P gs real ts H e ts' H'

theorem runCodes_ok {ex : ExecF} (hex : ExecOK P gs ex) {Q : Exit → Act → World → Prop} {X : Act → World → Prop} : ∀ (l : List Code) (cl : List CCode) (ts : List Value) (H : AH) (ts' : List Value) (H' : AH) (ρ : Ren) (w : World) (a : Act), compCodes P gs l = some cl → runCodes ex cl ts H = some (ts', H') →
    Rel ρ H w → GlobOK ρ gs → LoopsOK P gs H → VRels ρ ts a.tmps.toList → (∀ a' w', After false ρ H w .normal ts' H' a.defers .normal a' w' → X a' w') → PreOK P Q X l a w := by
  intro l
  induction l with
  | nil =>
    intro cl ts H ts' H' ρ w a hc hr hrel hg hlo ht hX
    simp only [compCodes, Option.some.injEq] at hc; subst hc
    simp only [runCodes, Option.some.injEq, Prod.mk.injEq] at hr
    obtain ⟨rfl, rfl⟩ := hr
    exact hX a w (.plain rfl ht rfl (Went.refl hrel))
  | cons c l ih =>
    intro cl ts H ts' H' ρ w a hc hr hrel hg hlo ht hX
    simp only [compCodes] at hc
    split at hc
    · rename_i x xs hx hxs
      simp only [Option.some.injEq] at hc; subst hc
      simp only [runCodes] at hr
      split at hr
      · rename_i ts1 H1 h1
        refine wpIn_mono (hex _ _ _ _ _ _ _ hx h1 ρ w a hrel hg hlo ht) ?_
        rintro e a1 w1 ⟨ρ1, ms, he, ht1, hd1, hm1, hw1, hp1⟩
        simp only [exitRel] at he; subst he
        refine ih xs ts1 H1 ts' H' ρ1 w1 a1 hxs hr hw1.rel (hg.mono hw1.le) (hlo.same hw1.loops) ht1 fun a' w' h => hX a' w' ?_
        rw [hd1] at h
        exact After.trans hw1 hm1 hp1 (fun h => by cases h) h
      · cases hr
    · cases hc

theorem endDefer_spec {ops : Array Oper} {l : List Oper} {x : Operand} (h : endDefer ops = some (l, x)) : ∃ o c, ops.toList = l ++ [o] ∧ o.dst = none ∧ o.guard = none ∧ o.op = .defer c ∧ c.callee = .value x ∧ c.args = #[] := by
  unfold endDefer at h
  split at h
  · rename_i l' x' as tys ty pos aft hl
    split at h
    · rename_i has
      simp only [Option.some.injEq, Prod.mk.injEq] at h
      obtain ⟨rfl, rfl⟩ := h
      exact ⟨_, _, lastOp_spec hl, rfl, rfl, rfl, rfl, by simpa using has⟩
    · cases h
  · cases h

theorem cutDefer_wp : ∀ (c : Code) {p : List Code} {ops : Array Oper} {l : List Oper} {x : Operand} {rr : Code} {Q : Exit → Act → World → Prop} {a : Act} {w : World}, cutDefer c = some (p, ops, l, x, rr) →
    PreOK P Q (fun a1 w1 => wpOpsIn (FR none) 0 P ops (Exit.then (fun a2 w2 => ∃ g first caps, a2.eval x = .func (.func g) first caps ∧ rr.wpIn (FR none) 0 P Q { a2 with defers := { target := .fn (.func g) caps, args := first } :: a2.defers } w2) Q) (List.range l.length) a1 w1) p a w →
    c.wpIn (FR none) 0 P Q a w := by
  intro c
  induction c with
  | seq x y ihx ihy =>
    intro p ops l z rr Q a w hc h
    have gen : ∀ {p' : List Code}, cutDefer y = some (p', ops, l, z, rr) → p = x :: p' → (Code.seq x y).wpIn (FR none) 0 P Q a w := by
      rintro p' hy rfl
      refine wpIn_seq (wpIn_mono h fun e a1 w1 hq => ?_)
      cases e with
      | normal => exact ihy hy hq
      | _ => exact hq
    cases x with
    | region id os draw =>
      cases draw with
      | true =>
        simp only [cutDefer] at hc
        split at hc
        · rename_i p' _ _ _ _ hy
          simp only [Option.some.injEq, Prod.mk.injEq] at hc
          obtain ⟨rfl, rfl, rfl, rfl, rfl⟩ := hc
          exact gen hy rfl
        · cases hc
      | false =>
        simp only [cutDefer] at hc
        split at hc
        · rename_i l' x' hd
          simp only [Option.some.injEq, Prod.mk.injEq] at hc
          obtain ⟨rfl, rfl, rfl, rfl, rfl⟩ := hc
          obtain ⟨o, cl, hops, hdst, hgd, hop, hcal, hargs⟩ := endDefer_spec hd
          refine wpIn_seq (wpIn_region ?_)
          have hsize : os.size = l'.length + 1 := by rw [← Array.length_toList, hops]; simp
          rw [hsize, List.range_succ]
          refine wpOpsIn_append _ _ _ _ ?_
          have hmono : ∀ {Q1 Q2 : Exit → Act → World → Prop} (l : List Nat) a w, (∀ e a w, Q1 e a w → Q2 e a w) → wpOpsIn (FR none) 0 P os Q1 l a w → wpOpsIn (FR none) 0 P os Q2 l a w := by
            intro Q1 Q2 l
            induction l with
            | nil => intro a w hq h; exact hq _ _ _ h
            | cons i l ih =>
              intro a w hq h
              rw [wpOpsIn_cons] at h ⊢
              unfold wpOpIn at h ⊢
              split at h
              · exact ih _ _ hq h
              · rename_i o ho
                try simp only [ho]
                split at h
                · rename_i hw
                  rw [if_pos hw]
                  refine ⟨h.1, ?_⟩
                  have h2 := h.2
                  generalize (Oper.semAt (FR none).round a.eval _).run P w = r at h2
                  cases r with
                  | ok x w' =>
                    cases x <;> simp only [Oper.uponIn] at h2 ⊢ <;>
                      first
                        | exact ih _ _ hq h2
                        | exact ⟨h2.1, CallsIn.mono h2.2 (fun e w'' he => by cases e <;> first | exact ih _ _ hq he | exact hq _ _ _ he | exact let ⟨a0, w0, h0⟩ := he; ⟨a0, w0, hq _ _ _ h0⟩)⟩
                        | exact ⟨h2.1, RowsIn.mono h2.2 (fun _ _ he => ih _ _ hq he)⟩
                        | exact ⟨h2.1, RoundIn.mono h2.2 (fun e w'' he => by cases e <;> first | exact ih _ _ hq he | exact hq _ _ _ he | exact let ⟨a0, w0, h0⟩ := he; ⟨a0, w0, hq _ _ _ h0⟩)⟩
                  | halt x w' => cases x <;> simp only [Oper.uponIn] at h2 ⊢ <;> first | exact hq _ _ _ h2 | exact h2
                · rename_i hw
                  rw [if_neg hw]
                  exact ⟨h.1, ih _ _ hq h.2⟩
          refine hmono _ _ _ (fun e a1 w1 hq => ?_) h
          cases e with
          | normal =>
            obtain ⟨g, first, caps, hev, hr⟩ := hq
            show wpOpsIn (FR none) 0 P os _ [l'.length] a1 w1
            rw [wpOpsIn_cons]
            unfold wpOpIn
            have ho : os[l'.length]? = some o := by rw [← Array.getElem?_toList, hops]; simp
            simp only [ho, Region.wanted, hgd, if_true]
            refine ⟨fun _ _ => trivial, ?_⟩
            have hrun : (o.semAt (FR none).round a1.eval).run P w1 = .ok (.defer { target := .fn (.func g) caps, args := first }) w1 := by
              show (execOp a1.eval o).run P w1 = _
              simp only [execOp, hop, resolve, hcal, hargs, hev, Deferred.ofValue]
              simp
            rw [hrun, Oper.uponIn_defer, hdst]
            exact hr
          | _ => exact hq
        · split at hc
          · rename_i p' _ _ _ _ hy
            simp only [Option.some.injEq, Prod.mk.injEq] at hc
            obtain ⟨rfl, rfl, rfl, rfl, rfl⟩ := hc
            exact gen hy rfl
          · cases hc
    | _ =>
      simp only [cutDefer] at hc
      split at hc
      · rename_i p' _ _ _ _ hy
        simp only [Option.some.injEq, Prod.mk.injEq] at hc
        obtain ⟨rfl, rfl, rfl, rfl, rfl⟩ := hc
        exact gen hy rfl
      · cases hc
  | _ => intro p ops l z rr Q a w hc h; simp [cutDefer] at hc

end
end Go.Ads
/- A run over the abstract heap tells what the program does. -/
namespace Go.Ads
noncomputable section
variable {P : Program} {gs : List Nat}

theorem cutRecover_spec {c : Code} {ops : Array Oper} {t : Tmp} {l : List Oper} {r : Code} (h : cutRecover c = some (ops, t, l, r)) :
    ∃ id o cl, c = .seq (.region id ops false) r ∧ ops.toList = o :: l ∧ o.dst = some t ∧ o.guard = none ∧ o.op = .call cl ∧ cl.callee = .builtin .recover ∧ cl.args = #[] := by
  unfold cutRecover at h
  split at h
  · rename_i id os r'
    split at h
    · rename_i t' as tys ty pos aft l' hl
      split at h
      · rename_i has
        simp only [Option.some.injEq, Prod.mk.injEq] at h
        obtain ⟨rfl, rfl, rfl, rfl⟩ := h
        exact ⟨id, _, _, rfl, hl, rfl, rfl, rfl, rfl, by simpa using has⟩
      · cases h
    · cases h
  · cases h

theorem compFunc_recov {fn : Func} {cf : CFunc} {t : Tmp} {cs : List COper} (h : compFunc P gs fn = some cf) (hr : cf.recov = some (t, cs)) :
    ∃ c ops l r cr, fn.body = some c ∧ cutRecover c = some (ops, t, l, r) ∧ compOps P gs ops l = some cs ∧ compCode P gs r = some cr ∧ cr.plain = true ∧ (∀ x ∈ cs, x.op.isCall = false) ∧ cf.body = cr ∧ cf.ntmps = fn.ntmps ∧ compRes P fn.results.toList = some cf.results := by
  unfold compFunc at h
  split at h
  · rename_i c rs hb hrs
    split at h
    · rename_i ops t' l r hcut
      split at h
      · rename_i cs' cr hcs hcr
        split at h
        · rename_i hp
          simp only [Option.some.injEq] at h; subst h
          simp only [Option.some.injEq, Prod.mk.injEq] at hr
          obtain ⟨rfl, rfl⟩ := hr
          simp only [Bool.and_eq_true, List.all_eq_true, Bool.not_eq_true'] at hp
          exact ⟨c, ops, l, r, cr, hb, hcut, hcs, hcr, hp.1, hp.2, rfl, rfl, hrs⟩
        · cases h
      · cases h
    · split at h
      · split at h
        · split at h
          · simp only [Option.some.injEq] at h; subst h; cases hr
          · cases h
        · cases h
      · split at h
        · simp only [Option.some.injEq] at h; subst h; cases hr
        · cases h
  · cases h

theorem compFunc_plain {fn : Func} {cf : CFunc} (h : compFunc P gs fn = some cf) (hr : cf.recov = none) :
    ∃ c, fn.body = some c ∧ cf.ntmps = fn.ntmps ∧ compRes P fn.results.toList = some cf.results ∧
      ((cf.rest = none ∧ compCode P gs c = some cf.body) ∨ ∃ p ops l x r pc cs, cf.rest = some (pc, cs, x) ∧ cutDefer c = some (p, ops, l, x, r) ∧ compCodes P gs p = some pc ∧ compOps P gs ops l = some cs ∧ compCode P gs r = some cf.body ∧ okOp gs x = true) := by
  unfold compFunc at h
  split at h
  · rename_i c rs hb hrs
    refine ⟨c, hb, ?_⟩
    split at h
    · split at h
      · split at h
        · simp only [Option.some.injEq] at h; subst h; cases hr
        · cases h
      · cases h
    · split at h
      · rename_i p ops l x r hcut
        split at h
        · rename_i pc cs cr h1 h2 h3
          split at h
          · rename_i hx
            simp only [Option.some.injEq] at h; subst h
            exact ⟨rfl, hrs, .inr ⟨p, ops, l, x, r, pc, cs, rfl, hcut, h1, h2, h3, hx⟩⟩
          · cases h
        · cases h
      · split at h
        · rename_i code hcode
          simp only [Option.some.injEq] at h; subst h
          exact ⟨rfl, hrs, .inl ⟨rfl, hcode⟩⟩
        · cases h
  · cases h

/-- The operations behind what is recovered, in its region. -/
theorem opsS_ok {call : CallF} {ops : Array Oper} {Q : Exit → Act → List Frame → World → Prop} {fs : List Frame} : ∀ (l : List Oper) (cs : List COper) (k : Nat) (ts : List Value) (H : AH) (a : Act) (w : World) (ρ : Ren) (ts' : List Value) (H' : AH),
    (∀ j, ops[k + j]? = l[j]?) → compOps P gs ops l = some cs → (∀ x ∈ cs, x.op.isCall = false) → runOps call cs ts H = some (none, ts', H') → Rel ρ H w → GlobOK ρ gs → VRels ρ ts a.tmps.toList →
    (∀ ρ' a' w', VRels ρ' ts' a'.tmps.toList → a'.defers = a.defers → Went ρ H w ρ' H' w' → Q .normal a' fs w') →
    wpOpsSIn (FR none) 0 P ops Q (List.range' k l.length) a fs w := by
  intro l
  induction l with
  | nil =>
    intro cs k ts H a w ρ ts' H' hops hc _ hr hrel hg ht hQ
    simp only [compOps, Option.some.injEq] at hc; subst hc
    simp only [runOps, Option.some.injEq, Prod.mk.injEq] at hr
    obtain ⟨_, rfl, rfl⟩ := hr
    exact hQ ρ a w ht rfl (Went.refl hrel)
  | cons o l ih =>
    intro cs k ts H a w ρ ts' H' hops hc hnc hr hrel hg ht hQ
    simp only [compOps] at hc
    split at hc
    · rename_i c cs2 hco hcs
      simp only [Option.some.injEq] at hc; subst hc
      obtain ⟨hcomp, hdst⟩ := compOper_comp hco
      have ho : ops[k]? = some o := by have := hops 0; simpa using this
      have hops' : ∀ j, ops[k + 1 + j]? = l[j]? := fun j => by
        have := hops (j + 1)
        rw [show k + (j + 1) = k + 1 + j by omega] at this
        simpa using this
      rw [List.length_cons, List.range'_succ]
      simp only [wpOpsSIn, ho]
      refine ⟨fun _ _ => trivial, ?_⟩
      have hgw := guarded_wanted ht hco
      simp only [runOps] at hr
      split at hr
      · rename_i hgd
        rw [hgw, if_pos hgd]
        split at hr
        · rename_i v H1 hop
          rcases hcomp with hcomp | hcomp
          case inr => rw [hcomp, failOpO_none fun _ => rfl] at hop; cases hop
          have hnc0 := hnc c (by simp)
          have hrun : c.op.run (aeval ts) H = some (v, H1) := by
            have h2 : runOpO call c.op (aeval ts) H = valOut (c.op.run (aeval ts) H) := by
              cases hcop : c.op <;> first | rfl | (rw [hcop] at hnc0; cases hnc0)
            rw [h2] at hop
            unfold valOut at hop
            split at hop
            · rename_i u H2 hu; cases hop; exact hu
            · cases hop
          obtain ⟨ρ1, v1, w1, hx, hv1, hw1⟩ := comp_ok hrel (aeval_rel hg ht) hcomp hrun
          have go : wpOpsSIn (FR none) 0 P ops Q (List.range' (k + 1) l.length) (a.put o.dst v1) fs w1 := by
            refine ih cs2 (k + 1) _ _ _ _ ρ1 ts' H' hops' hcs (fun x hx => hnc x (by simp [hx])) hr hw1.rel (hg.mono hw1.le) ?_ fun ρ2 a2 w2 h1 h2 h3 => ?_
            · rw [hdst]; exact aput_rel (ht.mono hw1.le) hv1
            · exact hQ ρ2 a2 w2 h1 (by rw [h2, Act.put_defers']) (hw1.trans h3)
          rcases hx with hx | ⟨hx, rfl⟩
          · simp only [hx]; exact go
          · simp only [hx]; exact go
        · simp at hr
        · cases hr
      · rename_i hgd
        rw [hgw, if_neg hgd]
        refine ih cs2 (k + 1) _ _ _ _ ρ ts' H' hops' hcs (fun x hx => hnc x (by simp [hx])) hr hrel hg ?_ fun ρ2 a2 w2 h1 h2 h3 => ?_
        · rw [hdst]; exact aput_rel ht (vrel_undef _)
        · exact hQ ρ2 a2 w2 h1 (by rw [h2, Act.put_defers']) h3
    · cases hc

theorem runDefer_ok {ex : ExecF} {call : CallF} {E : Env} (hE : EnvOK P gs E) (hex : PlainOK P gs ex) {d : FuncId} {args : List Value} {rv : Value} {H H' : AH} (h : runDefer ex call E d args rv H = some H') :
    bodied P d = true ∧ ∀ (ρ : Ren) (w : World) (args' : Array Value) (u : FrameMode) (rv' : Value), Rel ρ H w → GlobOK ρ gs → LoopsOK P gs H → VRels ρ args args'.toList →
      ((rv = .nilIface ∧ u = .returning) ∨ (VRel ρ rv rv' ∧ u = .panicking [{ v := rv', recovered := false }])) →
      CallsDIn (FR none) 0 P d args' u w fun e u' w' => (∃ v, e = .returned v) ∧ settle u' = .returning ∧ ∃ ρ', Went ρ H w ρ' H' w' := by
  unfold runDefer at h
  split at h
  · rename_i cf hcf
    obtain ⟨fn, hfn, hcomp, hname⟩ := hE.code d cf hcf
    split at h
    · rename_i t cs hrec hres
      obtain ⟨c, ops, l, r, cr, hbody, hcut, hcs, hcr, hpl, hnc, hcb, hnt, hrs⟩ := compFunc_recov hcomp hrec
      refine ⟨by unfold bodied; rw [hfn]; simp [hbody, hname], ?_⟩
      intro ρ w args' u rv' hrel hg hlo hargs hrv
      obtain ⟨id, o, cl, rfl, hops, hdst, hgd, hop, hcal, hca⟩ := cutRecover_spec hcut
      split at h
      · rename_i ts1 H1 h1
        have fin : ∀ e ts2, (e = CExit.normal ∨ e = .ret) → ex cf.body ts1 H1 = some (e, ts2, H') → CallsDIn (FR none) 0 P d args' u w fun e u' w' => (∃ v, e = .returned v) ∧ settle u' = .returning ∧ ∃ ρ', Went ρ H w ρ' H' w' := by
          intro e ts2 he h2
          refine callsDIn_of_wpSIn hfn hbody trivial fun c₀ fs hu => ?_
          refine wpSIn_seq (wpSIn_region ?_)
          have hsize : ops.size = l.length + 1 := by rw [← Array.length_toList, hops]; simp
          have ho : ops[0]? = some o := by rw [← Array.getElem?_toList, hops]; rfl
          rw [hsize, List.range_eq_range', List.range'_succ]
          simp only [wpOpsSIn, ho]
          refine ⟨fun _ _ => trivial, ?_⟩
          have hw0 : Region.wanted o (yielded ops (args' ++ Array.replicate (fn.ntmps - args'.size) undef)) = true := by simp [Region.wanted, hgd]
          rw [if_pos hw0]
          have hrun : ∀ a : Act, (execOp a.eval o).run P w = .ok .recover w := by
            intro a
            simp only [execOp, hop, resolve, hcal, hca]
            simp [invoke, builtin]
          simp only [hrun]
          have hlen : args'.size = args.length := by have := hargs.length; simpa using this
          have ht0 : VRels ρ (args ++ List.replicate (cf.ntmps - args.length) undef) (args' ++ Array.replicate (fn.ntmps - args'.size) undef).toList := by
            rw [Array.toList_append, Array.toList_replicate, hlen, hnt]
            exact hargs.append (VRels.replicate _ (vrel_undef _))
          -- on from what is recovered
          have go : ∀ (v : Value) (fs' : List Frame) (u' : FrameMode), VRel ρ rv v → fs' = { c₀ with mode := u' } :: fs → settle u' = .returning →
              wpOpsSIn (FR none) 0 P ops (Exit.thenS (r.wpSIn (FR none) 0 P (bodyPostS P fn c₀ fs fun e u' w' => (∃ v, e = .returned v) ∧ settle u' = .returning ∧ ∃ ρ', Went ρ H w ρ' H' w')) (bodyPostS P fn c₀ fs fun e u' w' => (∃ v, e = .returned v) ∧ settle u' = .returning ∧ ∃ ρ', Went ρ H w ρ' H' w'))
                (List.range' (0 + 1) l.length) (({ tmps := args' ++ Array.replicate (fn.ntmps - args'.size) undef, defers := [] } : Act).put o.dst v) fs' w := by
            rintro v fs' u' hv rfl hset
            refine opsS_ok l cs 1 _ H _ w ρ ts1 H1 (fun j => ?_) hcs hnc h1 hrel hg ?_ fun ρ1 a1 w1 ht1 hd1 hw1 => ?_
            · rw [← Array.getElem?_toList, hops, Nat.add_comm 1 j]; simp
            · rw [hdst]; exact aput_rel (d := some t) ht0 hv
            · refine wpSIn_of_wpIn rfl ?_
              have hd0 : a1.defers = [] := by rw [hd1, Act.put_defers']
              refine wpIn_mono (hex none r cr ts1 H1 e ts2 H' hcr hpl (by rw [← hcb]; exact h2) ρ1 w1 a1 hw1.rel (hg.mono hw1.le) (hlo.same hw1.loops) ht1) ?_
              rintro e2 a2 w2 ⟨ρ2, ms, he2, ht2, hd2, _, hw2, hms⟩
              rw [hms rfl, hd0] at hd2
              obtain ⟨v2, _, hr2⟩ := results_ok (fn := fn) (vs := []) hw2.rel ht2 hrs (by rw [hres]; rfl)
              rcases he with rfl | rfl
              · simp only [exitRel] at he2; subst he2
                exact ⟨by simpa using hd2, u', rfl, v2, hr2, ⟨v2, rfl⟩, hset, ρ2, hw1.trans hw2⟩
              · simp only [exitRel] at he2; subst he2
                exact ⟨by simpa using hd2, u', rfl, v2, hr2, ⟨v2, rfl⟩, hset, ρ2, hw1.trans hw2⟩
          rcases hrv with ⟨rfl, rfl⟩ | ⟨hv, rfl⟩
          · have : recoverD (c₀ :: fs) = none := by simp [recoverD, hu]
            simp only [this]
            exact go .nilIface _ .returning .nilIface (by rw [← hu]) rfl
          · have : recoverD (c₀ :: fs) = some (rv', { c₀ with mode := .panicking [{ v := rv', recovered := true }] } :: fs) := by simp [recoverD, hu]
            simp only [this]
            exact go rv' _ _ hv rfl rfl
        split at h
        · rename_i ts2 H2 h2
          simp only [Option.some.injEq] at h; subst h
          exact fin .normal ts2 (.inl rfl) h2
        · rename_i ts2 H2 h2
          simp only [Option.some.injEq] at h; subst h
          exact fin .ret ts2 (.inr rfl) h2
        · cases h
      · cases h
    · cases h
  · cases h

theorem finish_ok {fn : Func} {cf : CFunc} {ts : List Value} {H H' : AH} {out : COut} (hrs : compRes P fn.results.toList = some cf.results) (h : finish cf ts H = some (out, H')) {ρ : Ren} {w : World} {a : Act} (hrel : Rel ρ H w) (ht : VRels ρ ts a.tmps.toList) :
    H' = H ∧ ∃ r v', out = .val r ∧ VRel ρ r v' ∧ (results fn a.tmps).run P w = .ok v' w := by
  unfold finish at h
  split at h
  · rename_i vs hvs
    simp only [Option.some.injEq, Prod.mk.injEq] at h
    obtain ⟨rfl, rfl⟩ := h
    obtain ⟨v', h1, h2⟩ := results_ok hrel ht hrs hvs
    exact ⟨rfl, _, v', rfl, h1, h2⟩
  · cases h

theorem cutDefer_last : ∀ (c : Code) {p : List Code} {ops : Array Oper} {l : List Oper} {x : Operand} {rr : Code}, cutDefer c = some (p, ops, l, x, rr) → ∃ o, ops.toList = l ++ [o] := by
  intro c
  induction c with
  | seq a b iha ihb =>
    intro p ops l x rr hc
    cases a with
    | region id os draw =>
      cases draw with
      | true =>
        simp only [cutDefer] at hc
        split at hc
        · rename_i hy
          simp only [Option.some.injEq, Prod.mk.injEq] at hc
          obtain ⟨_, rfl, rfl, _, _⟩ := hc
          exact ihb hy
        · cases hc
      | false =>
        simp only [cutDefer] at hc
        split at hc
        · rename_i hd
          simp only [Option.some.injEq, Prod.mk.injEq] at hc
          obtain ⟨_, rfl, rfl, _, _⟩ := hc
          obtain ⟨o, _, ho, _⟩ := endDefer_spec hd
          exact ⟨o, ho⟩
        · split at hc
          · rename_i hy
            simp only [Option.some.injEq, Prod.mk.injEq] at hc
            obtain ⟨_, rfl, rfl, _, _⟩ := hc
            exact ihb hy
          · cases hc
    | _ =>
      simp only [cutDefer] at hc
      split at hc
      · rename_i hy
        simp only [Option.some.injEq, Prod.mk.injEq] at hc
        obtain ⟨_, rfl, rfl, _, _⟩ := hc
        exact ihb hy
      · cases hc
  | _ => intro p ops l x rr hc; simp [cutDefer] at hc

theorem runFn_ok {ex : ExecF} {call : CallF} {E : Env} (hE : EnvOK P gs E) (hcall : CallOK P gs call) (hex : ExecOK P gs ex) (hpl : PlainOK P gs ex) {g : FuncId} {cf : CFunc} (hcf : E.code g = some cf) {args : List Value} {H : AH} {out : COut} {H' : AH} (h : runFn ex call E cf args H = some (out, H')) :
    bodied P g = true ∧ ACalls P gs g args H out H' := by
  obtain ⟨fn, hfn, hcomp, hname⟩ := hE.code g cf hcf
  unfold runFn at h
  have hrec : cf.recov = none := by
    cases hr : cf.recov with
    | none => rfl
    | some x => rw [hr] at h; cases h
  obtain ⟨c, hbody, hnt, hrs, hcase⟩ := compFunc_plain hcomp hrec
  refine ⟨by unfold bodied; rw [hfn]; simp [hbody, hname], ?_⟩
  intro ρ w args' hrel hg hlo hargs
  rw [hrec] at h
  have hlen : args'.size = args.length := by have := hargs.length; simpa using this
  have ht0 : VRels ρ (args ++ List.replicate (cf.ntmps - args.length) undef) (args' ++ Array.replicate (fn.ntmps - args'.size) undef).toList := by
    rw [Array.toList_append, Array.toList_replicate, hlen, hnt]
    exact hargs.append (VRels.replicate _ (vrel_undef _))
  refine (callsIn_wide (n := 0)).1 (callsIn_of_wp_marks (F := Fence.wide) hfn hbody trivial ?_)
  show c.wpIn (FR none) 0 P (bodyPostM (FR none) 0 P fn (CallPost ρ H w out H')) _ w
  rcases hcase with ⟨hrest, hcode⟩ | ⟨p, ops, l, x, rr, pc, cs, hrest, hcut, hpc, hcs, hcode, hx⟩
  · rw [hrest] at h
    simp only at h
    have key : ∀ e ts1 H1, ex cf.body (args ++ List.replicate (cf.ntmps - args.length) undef) H = some (e, ts1, H1) → leave cf (some (e, ts1, H1)) = some (out, H') →
        c.wpIn (FR none) 0 P (bodyPostM (FR none) 0 P fn (CallPost ρ H w out H')) { tmps := args' ++ Array.replicate (fn.ntmps - args'.size) undef, defers := [] } w := by
      intro e ts1 H1 hx hlv
      refine wpIn_mono (hex _ _ _ _ _ _ _ hcode hx ρ w _ hrel hg hlo ht0) ?_
      rintro e2 a2 w2 ⟨ρ2, ms, he2, ht2, hd2, hm2, hw2, _⟩
      have hd2' : a2.defers = ms.map mark ++ [] := hd2
      have normal : finish cf ts1 H1 = some (out, H') → LeavesInM (FR none) 0 P fn a2.tmps (CallPost ρ H w out H') a2.defers .returning w2 := by
        intro hf
        rw [hd2']
        refine leaves_marks (by simp) ms w2 hm2 hw2 fun w3 hw3 _ => ?_
        obtain ⟨rfl, r, v', rfl, hv, hres⟩ := finish_ok hrs hf hw3.rel ht2
        exact ⟨v', hres, v', ρ2, rfl, hv, hw3⟩
      cases e with
      | normal => simp only [exitRel] at he2; subst he2; exact normal hlv
      | ret => simp only [exitRel] at he2; subst he2; exact normal hlv
      | exit id => cases hlv
      | panic v =>
        obtain ⟨v', hv, rfl⟩ := he2
        simp only [leave, Option.some.injEq, Prod.mk.injEq] at hlv
        obtain ⟨rfl, rfl⟩ := hlv
        show LeavesInM _ _ _ _ _ _ a2.defers _ w2
        rw [hd2']
        exact leaves_marks (by simp) ms w2 hm2 hw2 fun w3 hw3 _ => ⟨v', ρ2, rfl, hv, hw3⟩
    cases hxx : ex cf.body (args ++ List.replicate (cf.ntmps - args.length) undef) H with
    | none => rw [hxx] at h; cases h
    | some q => obtain ⟨e, ts1, H1⟩ := q; rw [hxx] at h; exact key e ts1 H1 hxx h
  · rw [hrest] at h
    simp only at h
    split at h
    · rename_i ts H1 h1
      split at h
      · rename_i ts2 H2 h2
        refine cutDefer_wp c hcut (runCodes_ok hex p pc _ H ts H1 ρ w _ hpc h1 hrel hg hlo ht0 ?_)
        rintro a1 w1 ⟨ρ1, ms1, _, ht1, hd1, hm1, hw1, _⟩
        have hd1' : a1.defers = ms1.map mark := by rw [hd1]; simp
        have hlist := cutDefer_last c hcut
        obtain ⟨o, hops⟩ := hlist
        rw [List.range_eq_range']
        refine runOps_ok hcall l cs 0 ts H1 a1 w1 ρ1 none ts2 H2 (fun j o' e => ?_) hcs h2 hw1.rel (hg.mono hw1.le) (hlo.same hw1.loops) ht1 fun ρ2 a2 w2 ht2 hd2 hw2 => ?_
        · rw [← Array.getElem?_toList, hops, Nat.zero_add]
          rw [List.getElem?_append_left (List.getElem?_eq_some_iff.1 e).1]; exact e
        show ∃ g first caps, _
        have hw12 := hw1.trans hw2
        unfold leaveD at h
        split at h
        · rename_i e ts3 H3 h3
          split at h
          · rename_i d first caps hcl
            have hev := aeval_rel (hg.mono hw12.le) ht2 x hx
            rw [hcl] at hev
            generalize hz : a2.eval x = z at hev
            obtain ⟨first', caps', rfl, hf1, hf2⟩ := func_inv hev (fun l h => by cases h)
            refine ⟨d, first', caps', rfl, ?_⟩
            refine wpIn_mono (hex _ _ _ _ _ _ _ hcode h3 ρ2 w2 { a2 with defers := { target := .fn (.func d) caps', args := first' } :: a2.defers } hw2.rel (hg.mono hw12.le) (hlo.same hw12.loops) ht2) ?_
            rintro e3 a3 w3 ⟨ρ3, ms3, he3, ht3, hd3, hm3, hw3, _⟩
            have hw123 := hw12.trans hw3
            have hm3' : Marks w w3 ρ3 H3 ms3 := ⟨hm3.nodup, fun D hD => Nat.le_trans hw12.size (hm3.new D hD), hm3.at_, hm3.not⟩
            have hm1' : Marks w w3 ρ3 H3 ms1 := hm1.went (hw2.trans hw3).to0
            have hm1lt : ∀ D ∈ ms1, D < w1.heap.size := fun D hD => (Array.getElem?_eq_some_iff.1 (hm1.at_ D hD)).1
            have hds : a3.defers = ms3.map mark ++ ({ target := .fn (.func d) caps', args := first' } :: (ms1.map mark ++ [])) := by
              rw [hd3]; simp only; rw [hd2, hd1', List.append_nil]
            -- the deferred call, and on
            have go : ∀ (rv rv' : Value) (u : FrameMode), u ≠ .run → ((rv = .nilIface ∧ u = .returning) ∨ (VRel ρ3 rv rv' ∧ u = .panicking [{ v := rv', recovered := false }])) →
                (match runDefer ex call E d (first.toList ++ caps.toList) rv H3 with | some H' => finish cf ts3 H' | none => none) = some (out, H') →
                LeavesInM (FR none) 0 P fn a3.tmps (CallPost ρ H w out H') a3.defers u w3 := by
              intro rv rv' u hu hrv hr
              rw [hds]
              refine leaves_marks hu ms3 w3 hm3' hw123 fun w4 hw4 hsame => ?_
              split at hr
              · rename_i H5 hrd
                obtain ⟨hbod, hdc⟩ := runDefer_ok hE hpl hrd
                refine ⟨hu, .inr ⟨fun h => by simp [FR, Fence.wide] at h, .func d, caps', d, first' ++ caps', rfl, run_callFunc hbod _ _, fun _ _ => trivial, ?_⟩⟩
                have hargs4 : VRels ρ3 (first.toList ++ caps.toList) (first' ++ caps').toList := by
                  rw [Array.toList_append]; exact (hf1.mono hw3.le).append (hf2.mono hw3.le)
                have hdcall := hdc ρ3 w4 (first' ++ caps') u rv' hw4.rel (hg.mono hw123.le) (hlo.same hw123.loops) hargs4 hrv
                refine ⟨trivial, fun c₀ fs hc₀ hroom => ?_⟩
                obtain ⟨e5, u5, w5, fr, ⟨⟨v5, rfl⟩, hset, ρ5, hw5⟩, hcomes, hk, hfnd, hgo⟩ := hdcall.2 c₀ fs hc₀ hroom
                refine ⟨.returned v5, u5, w5, fr, ?_, hcomes, hk, hfnd, hgo⟩
                show LeavesInM _ _ _ _ _ _ _ (settle u5) w5
                rw [hset]
                have hm4 : Marks w w4 ρ3 H3 ms1 := by
                  refine ⟨hm1'.nodup, hm1'.new, fun D hD => ?_, hm1'.not⟩
                  rw [hsame D fun hD3 => ?_]
                  · exact hm1'.at_ D hD
                  · have := hm3.new D hD3; have := hm1lt D hD; have := hw2.size; omega
                refine leaves_marks (by simp) ms1 w5 (hm4.went hw5.to0) (hw4.trans hw5) fun w6 hw6 _ => ?_
                obtain ⟨rfl, r, v', rfl, hv, hres⟩ := finish_ok hrs hr hw6.rel (ht3.mono hw5.le)
                exact ⟨v', hres, v', ρ5, rfl, hv, hw6⟩
              · cases hr
            cases e with
            | normal => simp only [exitRel] at he3; subst he3; exact go .nilIface .nilIface .returning (by simp) (.inl ⟨rfl, rfl⟩) h
            | ret => simp only [exitRel] at he3; subst he3; exact go .nilIface .nilIface .returning (by simp) (.inl ⟨rfl, rfl⟩) h
            | exit id => cases h
            | panic v =>
              obtain ⟨v', hv, rfl⟩ := he3
              exact go v v' _ (by simp) (.inr ⟨hv, rfl⟩) h
          · cases h
        · cases h
      · cases h
    · cases h

theorem roundsIn_mono {F : Fence} {n : Nat} {c : Code} {Q Q' : Exit → Act → World → Prop} (h : ∀ e a w, Q e a w → Q' e a w) : ∀ m a w, Code.roundsIn F n P c Q m a w → Code.roundsIn F n P c Q' m a w := by
  intro m
  induction m with
  | zero => intro a w hr; exact hr
  | succ m ih =>
    intro a w hr
    rw [roundsIn_succ] at hr ⊢
    refine wpIn_mono hr fun e a w hq => ?_
    cases e <;> first | exact ih _ _ hq | exact h _ _ _ hq

/-- The induction's statement. -/
structure AllOK (P : Program) (gs : List Nat) (E : Env) (f : Nat) : Prop where
  code : ∀ (r : Option Nat) real code ts H ex ts' H', compCode P gs real = some code → (r = none ∨ code.plain = true) → exec E f code ts H = some (ex, ts', H') → CodeOK r code.plain P gs real ts H ex ts' H'
  loop : ∀ (r : Option Nat) real code ts H ex ts' H', compCode P gs real = some code → (r = none ∨ code.plain = true) → exec E f (.loop code) ts H = some (ex, ts', H') →
      ∀ (ρ : Ren) (w : World) (a : Act), Rel ρ H w → GlobOK ρ gs → LoopsOK P gs H → VRels ρ ts a.tmps.toList → Code.roundsIn (FR r) 0 P real (After code.plain ρ H w ex ts' H' a.defers) f a w
  call : CallOK P gs (callF E f)

theorem AllOK.exec {E : Env} {f : Nat} (h : AllOK P gs E f) : ExecOK P gs (fun c ts H => exec E f c ts H) := fun real code ts H e ts' H' hc hx ρ w a hrel hg hlo ht =>
  wpIn_mono (h.code none real code ts H e ts' H' hc (.inl rfl) hx ρ w a hrel hg hlo ht) fun e a w hq => hq.weak fun h => by cases h
theorem AllOK.plain {E : Env} {f : Nat} (h : AllOK P gs E f) : PlainOK P gs (fun c ts H => Ads.exec E f c ts H) := fun r real code ts H e ts' H' hc hp hx => by
  have := h.code r real code ts H e ts' H' hc (.inr hp) hx
  rwa [hp] at this

theorem exec_sound {E : Env} (hE : EnvOK P gs E) : ∀ f : Nat, AllOK P gs E f := by
  intro f
  induction f with
  | zero =>
    refine ⟨fun r real code ts H ex ts' H' _ _ h => ?_, fun r real code ts H ex ts' H' _ _ h => ?_, ⟨fun g args H r H' h => ?_, fun b args H r H' h => ?_⟩⟩
    · simp [Ads.exec] at h
    · simp [Ads.exec] at h
    · simp [callF] at h
    · simp [callF] at h
  | succ f ih =>
    have hloop : ∀ (r : Option Nat) real code ts H ex ts' H', compCode P gs real = some code → (r = none ∨ code.plain = true) → Ads.exec E (f + 1) (.loop code) ts H = some (ex, ts', H') →
      ∀ (ρ : Ren) (w : World) (a : Act), Rel ρ H w → GlobOK ρ gs → LoopsOK P gs H → VRels ρ ts a.tmps.toList → Code.roundsIn (FR r) 0 P real (After code.plain ρ H w ex ts' H' a.defers) (f + 1) a w := by
      intro r real code ts H ex ts' H' hc hp h ρ w a hrel hg hlo ht
      simp only [Ads.exec] at h
      rw [roundsIn_succ]
      split at h
      · rename_i ts1 H1 h1
        refine wpIn_mono (ih.code r real code ts H _ _ _ hc hp h1 ρ w a hrel hg hlo ht) fun e a1 w1 hq => ?_
        obtain ⟨ρ1, ms, he, h2, h3, hm, h4, hpl⟩ := hq
        simp only [exitRel] at he; subst he
        have := ih.loop r real code ts1 H1 ex ts' H' hc hp h ρ1 w1 a1 h4.rel (hg.mono h4.le) (hlo.same h4.loops) h2
        rw [h3] at this
        exact roundsIn_mono (fun e a w hq => After.trans h4 hm hpl (fun h => ⟨h, h⟩) hq) _ _ _ this
      · rename_i hne
        refine wpIn_mono (ih.code r real code ts H _ _ _ hc hp h ρ w a hrel hg hlo ht) fun e a1 w1 hq => ?_
        obtain ⟨ρ1, ms, he, hrest⟩ := hq
        cases ex with
        | normal => exact absurd h (hne _ _)
        | exit id => have he' := he; simp only [exitRel] at he'; subst he'; exact ⟨ρ1, ms, he, hrest⟩
        | ret => have he' := he; simp only [exitRel] at he'; subst he'; exact ⟨ρ1, ms, he, hrest⟩
        | panic v => have he' := he; obtain ⟨v', hv, rfl⟩ := he'; exact ⟨ρ1, ms, he, hrest⟩
    refine ⟨?_, hloop, ⟨?_, ?_⟩⟩
    · intro r real code ts H ex ts' H' hc hp h ρ w a hrel hg hlo ht
      cases real with
      | skip =>
        simp only [compCode, Option.some.injEq] at hc; subst hc
        simp only [Ads.exec, Option.some.injEq, Prod.mk.injEq] at h
        obtain ⟨rfl, rfl, rfl⟩ := h
        exact wpIn_skip (.plain rfl ht rfl (Went.refl hrel))
      | region id ops draw =>
        cases draw with
        | false =>
          simp only [compCode] at hc
          cases hco : compOps P gs ops ops.toList with
          | none => rw [hco] at hc; cases hc
          | some cs =>
            rw [hco] at hc
            simp only [Option.map_some, Option.some.injEq] at hc; subst hc
            simp only [Ads.exec] at h
            have key : ∀ out ts1 H1, runOps (fun g args H => callF E f g args H) cs ts H = some (out, ts1, H1) → (match out with | none => CExit.normal | some p => .panic p) = ex → ts1 = ts' → H1 = H' →
                (Code.region id ops false).wpIn (FR r) 0 P (After (CCode.region cs).plain ρ H w ex ts' H' a.defers) a w := by
              rintro out ts1 H1 h1 rfl rfl rfl
              refine wpIn_region ?_
              rw [List.range_eq_range', ← Array.length_toList]
              refine runOps_ok ih.call ops.toList cs 0 ts H a w ρ out ts1 H1 (fun j o e => by simpa using e) hco h1 hrel hg hlo ht fun ρ' a' w' x y z => ?_
              cases out with
              | none => exact .plain rfl x y z
              | some p => exact fun v' hv => .plain ⟨v', hv, rfl⟩ x y z
            split at h
            · rename_i ts1 H1 h1
              simp only [Option.some.injEq, Prod.mk.injEq] at h
              exact key _ _ _ h1 h.1 h.2.1 h.2.2
            · rename_i p ts1 H1 h1
              simp only [Option.some.injEq, Prod.mk.injEq] at h
              exact key _ _ _ h1 h.1 h.2.1 h.2.2
            · cases h
        | true =>
          simp only [compCode] at hc
          split at hc
          · rename_i cs hco
            split at hc
            · rename_i hst
              simp only [Option.some.injEq] at hc; subst hc
              simp only [Ads.exec] at h
              split at h
              · rename_i ts1 H1 h1
                simp only [Option.some.injEq, Prod.mk.injEq] at h
                obtain ⟨rfl, rfl, rfl⟩ := h
                exact draw_ok hE.mixed ih.call hco hst h1 hrel hg hlo ht fun ρ' a' w' x y z => .plain rfl x y z
              · cases h
            · cases hc
          · cases hc
      | seq x y =>
        simp only [compCode] at hc
        split at hc
        · rename_i cx cy hx hy
          simp only [Option.some.injEq] at hc; subst hc
          have hpx : r = none ∨ cx.plain = true := hp.imp id fun h => by simp only [CCode.plain, Bool.and_eq_true] at h; exact h.1
          have hpy : r = none ∨ cy.plain = true := hp.imp id fun h => by simp only [CCode.plain, Bool.and_eq_true] at h; exact h.2
          have hpp : (CCode.seq cx cy).plain = true → cx.plain = true ∧ cy.plain = true := fun h => by simpa only [CCode.plain, Bool.and_eq_true] using h
          simp only [Ads.exec] at h
          refine wpIn_seq ?_
          split at h
          · rename_i ts1 H1 h1
            refine wpIn_mono (ih.code r x cx ts H _ _ _ hx hpx h1 ρ w a hrel hg hlo ht) fun e a1 w1 hq => ?_
            obtain ⟨ρ1, ms, he, h2, h3, hm, h4, hpl⟩ := hq
            simp only [exitRel] at he; subst he
            have := ih.code r y cy ts1 H1 ex ts' H' hy hpy h ρ1 w1 a1 h4.rel (hg.mono h4.le) (hlo.same h4.loops) h2
            rw [h3] at this
            exact wpIn_mono this fun e a w hq => After.trans h4 hm hpl hpp hq
          · rename_i hne
            refine wpIn_mono (ih.code r x cx ts H _ _ _ hx hpx h ρ w a hrel hg hlo ht) fun e a1 w1 hq => ?_
            have hq2 := hq.weak fun h => (hpp h).1
            obtain ⟨ρ1, ms, he, hrest⟩ := hq2
            cases ex with
            | normal => exact absurd h (hne _ _)
            | exit id => have he' := he; simp only [exitRel] at he'; subst he'; exact ⟨ρ1, ms, he, hrest⟩
            | ret => have he' := he; simp only [exitRel] at he'; subst he'; exact ⟨ρ1, ms, he, hrest⟩
            | panic v => have he' := he; obtain ⟨v', hv, rfl⟩ := he'; exact ⟨ρ1, ms, he, hrest⟩
        · cases hc
      | cond c x y =>
        simp only [compCode] at hc
        split at hc
        · rename_i hok
          split at hc
          · rename_i cx cy hx hy
            simp only [Option.some.injEq] at hc; subst hc
            have hpx : r = none ∨ cx.plain = true := hp.imp id fun h => by simp only [CCode.plain, Bool.and_eq_true] at h; exact h.1
            have hpy : r = none ∨ cy.plain = true := hp.imp id fun h => by simp only [CCode.plain, Bool.and_eq_true] at h; exact h.2
            simp only [Ads.exec] at h
            have hcv := aeval_rel hg ht c hok
            split at h
            · rename_i hb
              rw [hb] at hcv
              exact wpIn_mono (wpIn_cond_true hcv.bool_inv (ih.code r x cx ts H _ _ _ hx hpx h ρ w a hrel hg hlo ht)) fun e a w hq => hq.weak fun h => by simp only [CCode.plain, Bool.and_eq_true] at h; exact h.1
            · rename_i hb
              rw [hb] at hcv
              exact wpIn_mono (wpIn_cond_false hcv.bool_inv (ih.code r y cy ts H _ _ _ hy hpy h ρ w a hrel hg hlo ht)) fun e a w hq => hq.weak fun h => by simp only [CCode.plain, Bool.and_eq_true] at h; exact h.2
            · cases h
          · cases hc
        · cases hc
      | block id body =>
        simp only [compCode] at hc
        cases hcb : compCode P gs body with
        | none => rw [hcb] at hc; cases hc
        | some cb =>
          rw [hcb] at hc
          simp only [Option.map_some, Option.some.injEq] at hc; subst hc
          simp only [Ads.exec] at h
          refine wpIn_block ?_
          split at h
          · rename_i id' ts1 H1 h1
            refine wpIn_mono (ih.code r body cb ts H _ _ _ hcb hp h1 ρ w a hrel hg hlo ht) fun e a1 w1 hq => ?_
            obtain ⟨ρ1, ms, he, hrest⟩ := hq
            simp only [exitRel] at he; subst he
            split at h
            · rename_i hid
              simp only [Option.some.injEq, Prod.mk.injEq] at h
              obtain ⟨rfl, rfl, rfl⟩ := h
              simp only [Exit.inBlock, hid, if_true]
              exact ⟨ρ1, ms, rfl, hrest⟩
            · rename_i hid
              simp only [Option.some.injEq, Prod.mk.injEq] at h
              obtain ⟨rfl, rfl, rfl⟩ := h
              simp only [Exit.inBlock, hid, if_false]
              exact ⟨ρ1, ms, rfl, hrest⟩
          · rename_i hne
            refine wpIn_mono (ih.code r body cb ts H _ _ _ hcb hp h ρ w a hrel hg hlo ht) fun e a1 w1 hq => ?_
            obtain ⟨ρ1, ms, he, hrest⟩ := hq
            cases ex with
            | normal => have he' := he; simp only [exitRel] at he'; subst he'; exact ⟨ρ1, ms, he, hrest⟩
            | exit id => exact absurd h (hne _ _ _)
            | ret => have he' := he; simp only [exitRel] at he'; subst he'; exact ⟨ρ1, ms, he, hrest⟩
            | panic v => have he' := he; obtain ⟨v', hv, rfl⟩ := he'; exact ⟨ρ1, ms, he, hrest⟩
      | loop body =>
        simp only [compCode] at hc
        cases hcb : compCode P gs body with
        | none => rw [hcb] at hc; cases hc
        | some cb =>
          rw [hcb] at hc
          simp only [Option.map_some, Option.some.injEq] at hc; subst hc
          exact wpIn_loop_rounds (f + 1) (hloop r body cb ts H ex ts' H' hcb hp h ρ w a hrel hg hlo ht)
      | exit id =>
        simp only [compCode, Option.some.injEq] at hc; subst hc
        simp only [Ads.exec, Option.some.injEq, Prod.mk.injEq] at h
        obtain ⟨rfl, rfl, rfl⟩ := h
        exact wpIn_exit (.plain rfl ht rfl (Went.refl hrel))
      | ret =>
        simp only [compCode, Option.some.injEq] at hc; subst hc
        simp only [Ads.exec, Option.some.injEq, Prod.mk.injEq] at h
        obtain ⟨rfl, rfl, rfl⟩ := h
        exact wpIn_ret (.plain rfl ht rfl (Went.refl hrel))
      | rangeFunc fo ps asg body =>
        simp only [compCode] at hc
        split at hc
        · rename_i ca cb hca hcb
          split at hc
          · rename_i hok
            simp only [Option.some.injEq] at hc; subst hc
            simp only [Bool.and_eq_true] at hok
            have hr : r = none := hp.resolve_right fun h => by cases h
            subst hr
            simp only [Ads.exec] at h
            exact runRange_ok ih.call (real := ⟨ps, asg, body⟩) hok.1 ⟨hca, hcb, hok.2.1, hok.2.2⟩ h ρ w a hrel hg hlo ht
          · simp only [Option.some.injEq] at hc; subst hc
            simp [Ads.exec, failCode, aeval, undef] at h
        · cases hc
      | _ =>
        simp only [compCode, Option.some.injEq] at hc; subst hc
        simp [Ads.exec, failCode, aeval, undef] at h
    · intro g args H out H' h
      simp only [callF] at h
      split at h
      · rename_i s hs
        exact hE.spec g s hs args H out H' h
      · split at h
        · cases h
        · rename_i cf hcf
          exact runFn_ok hE ih.call ih.exec ih.plain hcf h
    · intro b args H out H' h
      simp only [callF] at h
      exact runRound_ok ih.plain h

end
end Go.Ads
