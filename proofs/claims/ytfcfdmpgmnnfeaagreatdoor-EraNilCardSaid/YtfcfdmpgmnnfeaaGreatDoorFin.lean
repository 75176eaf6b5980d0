/- Of no chip, a zero one, and a dead one, the era's state and tree are refused, whatever the input: proved of every world that holds the room's bounds. -/
import Derived.Test.YtfcfdmpgmnnfeaaGreatDoorAdsM
import Derived.Test.YtfcfdmpgmnnfeaaGreatDoorAdsN
import Derived.Test.YtfcfdmpgmnnfeaaGreatDoorAdsP
import Derived.Test.YtfcfdmpgmnnfeaaGreatDoorAdsG
import Derived.Test.YtfcfdmpgmnnfeaaGreatDoorCards
import Derived.Test.YtfcfdmpgmnnfeaaGreatDoorTie
import Derived.WalkKit
import Derived.ProofKit
import Derived.OpenShut
import Derived.Deep.DeepHandedRow
import Derived.Lib.LaidTab
set_option linter.unusedSimpArgs false
set_option linter.unusedVariables false
namespace Go.Proofs.YtfcfdmpgmnnfeaaGreatDoor.fnEraNil
open Go.ChangeShapes Go.WideShapes Go.ChangeAt Go.RowKit Go.Ads
noncomputable section

theorem mixed : Tryz.prog.follows .mixedOrders = true := by kernel_rfl
theorem slowOf (l : List (Nat × CFunc)) (h : AllL (Slow Tryz.prog gs0) l) : ∀ x ∈ l, Slow Tryz.prog gs0 x := h.mem
theorem low_ok : ∀ x ∈ low, Slow Tryz.prog gs0 x := slowOf _ ⟨s40Ok, s62Ok, s94Ok, trivial⟩
theorem lowLook_ok : ∀ x ∈ lowLook, Slow Tryz.prog gs0 x := slowOf _ ⟨s40Ok, s27Ok, s26Ok, s20Ok, s16Ok, s38Ok, s25Ok, s19Ok, s39Ok, s45Ok, s61Ok, trivial⟩
theorem lowDone_ok : ∀ x ∈ lowDone, Slow Tryz.prog gs0 x := slowOf _ ⟨s21Ok, s22Ok, s33Ok, trivial⟩
theorem slowX_ok : ∀ x ∈ slowX, Slow Tryz.prog gs0 x := slowOf _ ⟨s96Ok, s145Ok, s49Ok, s70Ok, trivial⟩
theorem lawsOf (l : List (Nat × Go.Ads.Spec)) (h : AllL (Law Tryz.prog gs0) l) : ∀ x ∈ l, Law Tryz.prog gs0 x := h.mem
theorem use {g : Nat} {s : Go.Ads.Spec} (h : Law Tryz.prog gs0 (g, s)) {args : List Value} {H : AH} {v : Value} {H' : AH} (e : s args H = some (v, H')) : bodied Tryz.prog g = true ∧ ACalls Tryz.prog gs0 g args H (.val v) H' := h args H v H' e
theorem sp0_ok : ∀ x ∈ sp0, Law Tryz.prog gs0 x := lawsOf _ ⟨blank_law mixed low_ok, noughts_law mixed low_ok, trivial⟩
theorem runN_ok (g : Nat) : Law Tryz.prog gs0 (Go.Ads.runN g) := runK_law mixed fl_ok sp0_ok 100000 g
theorem spX_ok : ∀ x ∈ spX, Law Tryz.prog gs0 x := lawsOf _ ⟨runN_ok 125, runN_ok 126, runN_ok 127, runN_ok 128, runN_ok 129, runN_ok 19, runN_ok 35, runN_ok 36, runN_ok 71, runN_ok 72, runN_ok 73, trivial⟩
theorem sp1_all : AllL (Law Tryz.prog gs0) sp1 := ⟨blank_law mixed low_ok, noughts_law mixed low_ok, Law.or (look_law mixed lowLook_ok) (runK_law mixed fl_ok sp0_ok 100000 27), Law.or (done_law mixed lowDone_ok) (runK_law mixed fl_ok sp0_ok 100000 21), runS_law mixed slowX_ok spX_ok 100000 96, runS_law mixed slowX_ok spX_ok 100000 49, trivial⟩
theorem sp1_ok : ∀ x ∈ sp1, Law Tryz.prog gs0 x := lawsOf _ sp1_all

theorem isTrue_some {r : Option (Value × AH)} (h : isTrueV r = true) : ∃ H', r = some (.bool true, H') := by
  cases r with
  | none => cases h
  | some p =>
    obtain ⟨v, H'⟩ := p
    cases v with
    | bool b => cases b with
      | true => exact ⟨H', rfl⟩
      | false => cases h
    | _ => cases h

theorem H0get {b : Nat} {o : AObj} (h : H0.get b = some o) : b = 0 ∧ o = bounds := by
  have hlt : b < 1 := AH.get_lt h
  have : b = 0 := by omega
  subst this
  exact ⟨rfl, (Option.some.inj ((AH.get_push_new ⟨0, .leaf⟩ bounds).symm.trans h)).symm⟩
theorem H0zero : H0.get 0 = some bounds := AH.get_push_new ⟨0, .leaf⟩ bounds
theorem H0still : Still H0 := by
  intro b o h
  obtain ⟨rfl, rfl⟩ := H0get h
  refine ⟨rfl, fun v hv => ?_⟩
  simp only [bounds, AObj.vals, List.mem_cons, List.not_mem_nil, or_false] at hv
  rcases hv with rfl | rfl | rfl | rfl | rfl | rfl | rfl | rfl <;> rfl

theorem kBounds_some {H : AH} (h : kBounds H = true) : H.get 0 = some bounds := by
  unfold kBounds at h
  split at h
  · assumption
  · cases h

theorem works_law : Law Tryz.prog gs0 (10, sWorks) := by
  intro args H v H' h
  obtain ⟨K, hK⟩ := isTrue_some works_true
  obtain ⟨hb, hac⟩ := use (runK_law mixed fl_ok sp1_ok 100000 10) hK
  change sWorks args H = _ at h
  unfold sWorks at h
  split at h
  · cases hk : kBounds H with
    | false => rw [hk] at h; cases h
    | true =>
      rw [hk] at h
      cases h
      refine ⟨hb, hac.pure H0still (fun g hg => ?_) rfl rfl fun b o hb => ?_⟩
      · obtain rfl : g = 0 := by simpa using hg
        exact Nat.zero_lt_one
      · obtain ⟨rfl, rfl⟩ := H0get hb
        exact kBounds_some hk
  · cases h
theorem sp2_ok : ∀ x ∈ sp2, Law Tryz.prog gs0 x := lawsOf _ ⟨works_law, sp1_all⟩

theorem calls_of (zero : Bool) : ∃ K, ACalls Tryz.prog gs0 3 [.bool zero] H0 (.val (.bool true)) K := by
  cases zero with
  | false =>
    obtain ⟨K, hK⟩ := isTrue_some nil_false
    exact ⟨K, (use (runK_law mixed fl_ok sp2_ok 100000 3) hK).2⟩
  | true =>
    obtain ⟨K, hK⟩ := isTrue_some nil_true
    exact ⟨K, (use (runK_law mixed fl_ok sp2_ok 100000 3) hK).2⟩

/-- The room's bounds, as they lie in a world. -/
def Holds (W : World) : Prop := (∀ i, i < 8 → W.cell? ⟨0, i, none⟩ = bounds.vals[i]?)

noncomputable def ren0 : Ren := fun b => if b = 0 then some ⟨0, 0, 8, 8, 0⟩ else none
theorem rel0 {W : World} (h : Holds W) : Rel ren0 H0 W := by
  have hc0 : W.cell? ⟨0, 0, none⟩ = some (.int .i64 8) := h 0 (by omega)
  have hs : (W.shape? 0).isSome = true := by
    cases hx : W.heap[0]? with
    | none => simp [World.cell?, hx] at hc0
    | some o => cases o <;> first | (simp [World.shape?, hx]; done) | (simp [World.cell?, hx] at hc0)
  refine ⟨fun b o hb => ?_, fun b l e => ?_, fun b o b' o' l l' hb hb' hne => ?_⟩
  · obtain ⟨rfl, rfl⟩ := H0get hb
    refine ⟨⟨0, 0, 8, 8, 0⟩, rfl, ⟨⟨rfl, hs, fun i v hv => ?_, fun i hi => ?_, fun hf => by cases hf⟩, rfl, Nat.le_refl _⟩⟩
    · have hi : i < 8 := (List.getElem?_eq_some_iff.1 hv).1
      refine ⟨v, ?_, plain1_rel ((H0still 0 bounds H0zero).2 v (List.mem_of_getElem? hv))⟩
      show W.cell? ⟨0, 0 + i, none⟩ = some v
      rw [Nat.zero_add, h i hi]; exact hv
    · have hi : i < 8 := hi
      show (W.cell? ⟨0, 0 + i, none⟩).isSome = true
      rw [Nat.zero_add, h i hi, List.getElem?_eq_getElem (show i < bounds.vals.length from hi)]; rfl
  · unfold ren0 at e
    split at e
    · rename_i hb; subst hb; exact Nat.zero_lt_one
    · cases e
  · obtain ⟨rfl, rfl⟩ := H0get hb
    obtain ⟨rfl, rfl⟩ := H0get hb'
    exact absurd rfl hne

theorem walk (W : World) (h : Holds W) (zero : Bool) : Calls Tryz.prog 3 #[.bool zero] W fun e w' => e = .returned (.bool true) ∧ W.keptBut w' (fun _ => False) := by
  obtain ⟨K, hac⟩ := calls_of zero
  refine (hac ren0 W #[.bool zero] (rel0 h) (fun g hg => ?_) (fun b x hb => ?_) (.cons (.bool zero) .nil)).mono ?_
  · obtain rfl : g = 0 := by simpa using hg
    exact ⟨⟨0, 0, 8, 8, 0⟩, rfl, rfl, rfl⟩
  · obtain ⟨_, h2⟩ := H0get hb; cases h2
  · rintro e w' ⟨v', ρ', rfl, hr, hw⟩
    cases hr
    refine ⟨rfl, kept_of_same hw.os hw.output (fun r hr => hw.frame r hr fun ⟨b, o, l, h1, h2, _⟩ => ?_) _⟩
    obtain ⟨rfl, rfl⟩ := H0get h1
    cases h2

theorem own : ownKnob Tryz.prog.godebug = none := by kernel_rfl
theorem gBounds : Tryz.prog.globalNamed "carrack/room.bounds" = some 0 := by kernel_rfl
theorem gType : (Tryz.prog.globals[0]?).map (·.type) = some 169 := by kernel_rfl
theorem cT1 : Tryz.prog.cellsOf 169 = 8 := by kernel_rfl
theorem cT2 : Tryz.prog.cellsOf 168 = 2 := by kernel_rfl
theorem cT3 : Tryz.prog.cellsOf 3 = 1 := by kernel_rfl
theorem uT2 : Tryz.prog.underlying 168 = some (.array 2 3) := by kernel_rfl
theorem uT3 : Tryz.prog.underlying 3 = some (.int .i64) := by kernel_rfl

noncomputable def rows : List (List Int) := [[8, 64], [4, 32], [128, 256], [0, 4]]
theorem holds_of_laid {W : World} (h : laidMetH Tryz.prog Rows.eraNilRow.laid W) : Holds W := by
  obtain ⟨ps, ⟨g', t', cs, fuel, p, q, hg', ht', hvar, hd, _, _⟩, _⟩ := h
  obtain rfl := Option.some.inj (gBounds.symm.trans hg')
  obtain rfl := Option.some.inj (gType.symm.trans ht')
  obtain ⟨hl, hr⟩ := cells_of_tab2 (n := 4) (rows := rows) Tryz.underlying169 uT2 uT3 cT3 cT2 cT1 hd
  have h0 := hr 0 _ rfl
  have h1 := hr 1 _ rfl
  have h2 := hr 2 _ rfl
  have h3 := hr 3 _ rfl
  intro i hi
  rw [World.var?_cell gBounds hvar i]
  obtain ⟨a⟩ := cs
  simp only at hl h0 h1 h2 h3
  match a, hl with
  | [x0, x1, x2, x3, x4, x5, x6, x7], _ =>
    simp at h0 h1 h2 h3
    obtain ⟨rfl, rfl⟩ := h0
    obtain ⟨rfl, rfl⟩ := h1
    obtain ⟨rfl, rfl⟩ := h2
    obtain ⟨rfl, rfl⟩ := h3
    show (List.toArray _)[i]? = _
    rw [List.getElem?_toArray]
    rfl

set_option maxRecDepth 100000 in
theorem contract (H : Type) (enc : TypeId × Value → H) (W : World) (base : Nat) (args : Array Value) (ds gs : List (DataW H)) (before : List MemPlace)
    (hval : ∀ (j : Nat) t v, Tryz.f3.params[j]? = some t → args[j]? = some v → Value.okWide Tryz.prog W .any base t v)
    (hW : DataW.Whole enc Tryz.prog Tryz.f3.params.toList Rows.eraNilSpec.vars false W args.toList ds gs before) (hL : laidMetH Tryz.prog Rows.eraNilRow.laid W) :
    Calls Tryz.prog 3 args W fun e W' => ∃ v, e = .returned v ∧ Rows.eraNilSpec.post enc Tryz.prog Tryz.f3 false true false false W args v W' := by
  have hW' := hW
  obtain ⟨p, q, hA0, hV, rfl, hfz, hnd⟩ := hW
  have hA : DataW.TrodAll enc Tryz.prog W 0 (fun _ => true) true Tryz.f3.params.toList args.toList ds p := hA0
  rw [Tryz.params3] at hA hval
  obtain ⟨v0, vs0, d0, ds0, p0, q0, hargs, rfl, rfl, h0, r0⟩ := trodAll_cons hA
  obtain ⟨rfl, rfl, rfl⟩ := trodAll_nil r0
  obtain rfl : args = #[v0] := by cases args; simp_all
  obtain ⟨rfl, rfl⟩ := trodVars_none hV
  obtain ⟨zero, rfl, rfl, rfl⟩ := open_bool Tryz.underlying4 (hval 0 4 v0 rfl rfl) h0
  clear hA0
  simp only [List.append_nil] at hW'
  refine (walk W (holds_of_laid hL) zero).mono fun e W' ⟨he, hg⟩ => ?_
  subst he
  exact ⟨_, rfl, post_plain hW' (fun _ _ _ => trodAll_cons_mk (shut_bool Tryz.underlying4 _) trodAll_mk0) (fun _ => trodAll_cons_mk (shut_bool Tryz.underlying4 _) trodAll_mk0) (fun _ => rfl)
    hg (ok_one (by kernel_rfl) rfl (okWide_bool_mk Tryz.underlying4 _))⟩

/-- A world for the witness: the settled one, the bounds holding what their initialiser lays. -/
noncomputable def laidWorld (os : Os) : World :=
  { World.holding Tryz.prog os ⟨#[], #[], []⟩ with heap := (World.holding Tryz.prog os ⟨#[], #[], []⟩).heap.modify 0 fun
      | .cells _ t frozen => .cells #[.int .i64 8, .int .i64 64, .int .i64 4, .int .i64 32, .int .i64 128, .int .i64 256, .int .i64 0, .int .i64 4] t frozen
      | o => o }
set_option maxRecDepth 100000 in
theorem laid_met (os : Os) : laidMet Tryz.prog Rows.eraNilRow.laid ((laidWorld os).forCall (fun _ _ => 0) ⟨#[], #[.bool false], []⟩).memory :=
  laidMet_of_run' 8 (by kernel_rfl) (by kernel_rfl)
set_option maxRecDepth 100000 in
theorem reads (os : Os) {H : Type} (enc : TypeId × Value → H) : ∃ places, DataW.whole enc Tryz.prog ((laidWorld os).forCall (fun _ _ => 0) ⟨#[], #[.bool false], []⟩).memory Tryz.f3.params.toList Rows.eraNilSpec.vars false #[Value.bool false].toList 8 = some ([.lit (.bool false)], [], places) :=
  ⟨[], by kernel_rfl⟩

set_option maxRecDepth 100000 in
theorem lifted (os : Os) (started : os.Started) (H : Type) (enc : TypeId × Value → H) (F : Stop.Interp) :
    ReturnsInHanded {} Tryz.checked os 3 .any ((OpenSpec.ofChange Rows.eraNilSpec).preRow enc Tryz.prog Tryz.f3 Rows.eraNilRow.domain false Rows.eraNilRow.laid) (((OpenSpec.ofChange Rows.eraNilSpec).at F).post enc Tryz.prog Tryz.f3 false true false false) := by
  obtain ⟨places, hx⟩ := reads os enc
  refine returnsInHanded_of_row (C := Tryz.checked) (s := OpenSpec.ofChange Rows.eraNilSpec) own started (by kernel_rfl) Tryz.func3
    (witness_row_at (enc := enc) (C := Tryz.checked) false (laidWorld os) #[.bool false] rfl (by kernel_rfl) (by kernel_rfl) (by kernel_rfl)
      (OpenSpec.preRow_of_cond 8 hx (by kernel_rfl) (fun k hk => by cases hk) (by kernel_rfl) (laid_met os))) ?_
  intro W base args ds gs before hval hW _ _ _ hL _ _
  exact contract H enc W base args ds gs before hval hW hL

theorem said : Rows.EraNilSaid :=
  OpenClaim.holds_of_cond 3 Tryz.f3 rfl rfl rfl rfl rfl rfl rfl ⟨rfl, rfl, rfl, rfl, rfl⟩ rfl rfl rfl rfl rfl (by kernel_rfl) Tryz.func3 (by kernel_rfl)
    (of_decide_eq_true (by kernel_rfl)) (by unfold Func.isWrapper; first | (rw [if_pos (by decide +kernel)]; kernel_rfl) | (rw [if_neg (by decide +kernel)]; exact ⟨rfl, rfl⟩))
    (fun os started H enc _ F => by rw [OpenClaim.pre_eq_preRow]; exact lifted os started H enc F)

theorem plain (f : FuncId) (fn : Func) (hf : Tryz.pinned.checked.prog.funcNamed "carrack/carracklaw23.EraNil" = some f) (hfn : Tryz.pinned.checked.prog.funcs[f]? = some fn) :
    true = Tryz.pinned.checked.prog.looks [] ∧ ∀ (j : Nat) t, fn.params[j]? = some t → Tryz.pinned.checked.prog.wantsStandIn t = false := by
  obtain rfl : f = 3 := Option.some.inj ((show Tryz.prog.funcNamed "carrack/carracklaw23.EraNil" = some 3 by kernel_rfl).symm.trans hf) |>.symm
  obtain rfl : fn = Tryz.f3 := (Option.some.inj (Tryz.func3.symm.trans hfn)).symm
  refine ⟨by kernel_rfl, fun j t ht => ?_⟩
  rw [Tryz.params3] at ht
  obtain rfl : t = 4 := by simpa using Array.mem_of_getElem? ht
  exact (show Tryz.prog.wantsStandIn 4 = false by kernel_rfl)

/-- The card. -/
theorem card : Rows.EraNilCardSaid :=
  Claim7.holds_tied_plain_at .later [] _ _ _ _ said (fun _ h => by cases h) (by kernel_rfl) (fun _ h => by cases h) eraNil_row_tie rfl ⟨rfl, rfl⟩ (by kernel_rfl) rfl plain (by kernel_rfl)
end
end Go.Proofs.YtfcfdmpgmnnfeaaGreatDoor.fnEraNil
