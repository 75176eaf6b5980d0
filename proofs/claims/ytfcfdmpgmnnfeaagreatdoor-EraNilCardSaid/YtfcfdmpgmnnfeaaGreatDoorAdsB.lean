/- Each operation of the model does to the world what its twin does to the abstract heap: reads, writes, appends, copies. -/
import Derived.Test.YtfcfdmpgmnnfeaaGreatDoorAdsA
import Derived.Laws.Append
import Derived.Laws.Entries
import Derived.Laws.StructEq
import Derived.WalkSpells
import Derived.Laws.IdiomStrings
set_option linter.unusedSimpArgs false
set_option linter.unusedVariables false
namespace Go.Ads
noncomputable section

/-- A piece of the model's code gives what is told, and the world stands to the heap that is told. -/
def SemOK (P : Program) (s : Sem Value) (ρ : Ren) (H : AH) (w : World) (v : Value) (H' : AH) : Prop :=
  ∃ ρ' v' w', s.run P w = .ok v' w' ∧ VRel ρ' v v' ∧ Went ρ H w ρ' H' w'
def SemOKu (P : Program) (s : Sem Unit) (ρ : Ren) (H : AH) (w : World) (H' : AH) : Prop :=
  ∃ ρ' w', s.run P w = .ok () w' ∧ Went ρ H w ρ' H' w'

variable {P : Program} {ρ : Ren} {H : AH} {w : World}

theorem SemOK.same {s : Sem Value} {v v' : Value} (h : Rel ρ H w) (hr : s.run P w = .ok v' w) (hv : VRel ρ v v') : SemOK P s ρ H w v H :=
  ⟨ρ, v', w, hr, hv, Went.refl h⟩

theorem VRel.oneCell {v v' : Value} (h : VRel ρ v v') : v'.oneCell' = v.oneCell' := by cases h <;> rfl
theorem VRel.cells {v v' : Value} (h : VRel ρ v v') : VRels ρ v.cells.toList v'.cells.toList := by
  cases h with
  | agg hx => exact hx
  | bool b => exact .cons (.bool b) .nil
  | int k n => exact .cons (.int k n) .nil
  | string s => exact .cons (.string s) .nil
  | nilp => exact .cons .nilp .nil
  | ptr a => exact .cons (.ptr a) .nil
  | nils n c => exact .cons (.nils n c) .nil
  | sl a => exact .cons (.sl a) .nil
  | slEnd e s l x => exact .cons (.slEnd e s l x) .nil
  | nilm => exact .cons .nilm .nil
  | map e => exact .cons (.map e) .nil
  | func fn hy x y => exact .cons (.func fn hy x y) .nil
  | yield e => exact .cons (.yield e) .nil
  | nilFunc => exact .cons .nilFunc .nil
  | iface t x => exact .cons (.iface t x) .nil
  | nilIface => exact .cons .nilIface .nil
  | tuple x => exact .cons (.tuple x) .nil

theorem VRels.oneCell : ∀ {vs vs' : List Value}, VRels ρ vs vs' → (∀ v ∈ vs, v.oneCell' = true) → ∀ v ∈ vs', v.oneCell' = true := by
  intro vs
  induction vs with
  | nil => intro vs' h _ v hv; cases h; cases hv
  | cons x xs ih =>
    intro vs' h hx v hv
    cases h with | cons h1 h2 =>
    rcases List.mem_cons.1 hv with rfl | hv
    · rw [h1.oneCell]; exact hx x (by simp)
    · exact ih h2 (fun u hu => hx u (by simp [hu])) v hv

theorem addrAdd (b o n : Nat) : (⟨b, o, none⟩ : Addr).add n = ⟨b, o + n, none⟩ := by unfold Addr.add; split <;> simp_all

theorem AddrRel.plus {a a' : Addr} (h : AddrRel ρ a a') (n : Nat) : AddrRel ρ (a.add n) (a'.add n) := by
  obtain ⟨l, e, hs, rfl⟩ := h
  obtain ⟨b, o, sp⟩ := a
  simp only at hs; subst hs
  rw [addrAdd, addrAdd]
  exact ⟨l, e, rfl, by simp [Nat.add_assoc]⟩

/-- A chunk of a block lies in the world. -/
theorem Rel.chunk (h : Rel ρ H w) {b off n : Nat} {o : AObj} {l : Loc} {c : Chunk} (ho : H.get b = some o) (hl : ρ b = some l) (hc : o.chunk off n = some c) :
    ∃ vs', VRels ρ c.cells vs' ∧ vs'.length = n ∧ ∀ (j : Nat) (v : Value), vs'[j]? = some v → w.cell? ⟨l.blk, l.base + off + j, none⟩ = some v := by
  obtain ⟨l', el', hobj⟩ := h.obj _ _ ho
  rw [hl] at el'; cases el'
  obtain ⟨hle, hlen, hm, hget⟩ := AObj.chunk_spec hc
  have hrow := (hobj.row hm).1
  have hex : ∀ i, i < n → ∃ v v', c.cells[i]? = some v ∧ w.cell? ⟨l.blk, l.base + off + i, none⟩ = some v' ∧ VRel ρ v v' := by
    intro i hi
    have hlt : off + i < o.vals.length := by rw [AObj.vals_length]; omega
    obtain ⟨v', e, r⟩ := hrow.cells (off + i) _ (List.getElem?_eq_getElem hlt)
    exact ⟨_, v', (hget i hi).trans (List.getElem?_eq_getElem hlt), by rw [← e, Nat.add_assoc], r⟩
  refine ⟨(List.range n).map fun i => (w.cell? ⟨l.blk, l.base + off + i, none⟩).getD undef, ?_, by simp, fun j v e => ?_⟩
  · refine VRels.of_get (by simp [Chunk.cells_length, hlen]) fun i v e => ?_
    have hi : i < n := by have := (List.getElem?_eq_some_iff.1 e).1; rw [Chunk.cells_length, hlen] at this; exact this
    obtain ⟨u, v', eu, ev, r⟩ := hex i hi
    rw [e] at eu; cases eu
    exact ⟨v', by simp [hi, ev], r⟩
  · have hj : j < n := by have := (List.getElem?_eq_some_iff.1 e).1; simpa using this
    obtain ⟨u, v', eu, ev, r⟩ := hex j hj
    simp [hj, ev] at e
    rw [ev, e]

def aggD : TypeDesc → Bool
  | .struct _ => true
  | .array _ _ => true
  | _ => false

theorem run_isAgg {t : TypeId} {d : TypeDesc} (h : P.underlying t = some d) (w : World) :
    (isAgg t).run P w = .ok (aggD d) w := by
  unfold isAgg
  simp only [Sem.run_bind, run_underlying h, Result.andThen_ok]
  cases d <;> rfl

/-- A cell is loaded. -/
theorem load1_ok (h : Rel ρ H w) {t : TypeId} {d : TypeDesc} {a a' : Addr} {o : AObj} {v : Value} (hd : P.underlying t = some d)
    (hna : (aggD d) = false) (ha : AddrRel ρ a a') (ho : H.get a.block = some o) (hv : o.cell? a.off = some v) :
    SemOK P (Instr.loadAt t (.pointer (some a'))) ρ H w v H := by
  obtain ⟨v', e, r⟩ := h.load ha ho hv
  refine SemOK.same h ?_ r
  simp only [Instr.loadAt, Instr.sureAddr, Sem.run_bind, Sem.run_pure, Result.andThen_ok, loadVar, run_isAgg hd, hna, Bool.false_eq_true, if_false, run_load, e]

/-- Some cells are loaded. -/
theorem loadN_ok (h : Rel ρ H w) {t : TypeId} {d : TypeDesc} {i : TypeInfo} {a a' : Addr} {o : AObj} {c : Chunk} (hd : P.underlying t = some d) (hi : P.info? t = some i)
    (hna : (aggD d) = true) (ha : AddrRel ρ a a') (ho : H.get a.block = some o) (hv : o.chunk a.off i.size = some c) :
    SemOK P (Instr.loadAt t (.pointer (some a'))) ρ H w (.agg c.cells.toArray) H := by
  obtain ⟨l, el, hs, rfl⟩ := ha
  obtain ⟨vs', hr, hlen, hc⟩ := h.chunk ho el hv
  refine SemOK.same h (v' := .agg vs'.toArray) ?_ (.agg (by simpa using hr))
  have := run_loadCells_list (P := P) w ⟨l.blk, l.base + a.off, none⟩ vs' (fun j v e => by rw [addrAdd]; exact hc j v e)
  rw [hlen] at this
  simp only [Instr.loadAt, Instr.sureAddr, Sem.run_bind, Sem.run_pure, Result.andThen_ok, loadVar, run_isAgg hd, hna, if_true, sizeOf, typeInfo, run_program, hi, this]

/-- Cells are stored. -/
theorem storeCells_ok (h : Rel ρ H w) {a a' : Addr} {o o' : AObj} {ch : Chunk} {vs' : List Value} (ha : AddrRel ρ a a') (ho : H.get a.block = some o) (hp : o.put a.off ch = some o')
    (hr : VRels ρ ch.cells vs') : SemOKu P (storeCells a' vs') ρ H w (H.set a.block o') := by
  obtain ⟨l, el, hs, rfl⟩ := ha
  obtain ⟨hro, hm, hm', hsz, hlo, hro', hle, hone, hvals⟩ := AObj.put_spec hp
  obtain ⟨l', el', hobj⟩ := h.obj _ _ ho
  rw [el] at el'; cases el'
  obtain ⟨hrow, hloE, hse⟩ := hobj.row hm
  have hos : o.size = l.size := by rw [← AObj.vals_length, hrow.size]
  have hlen : vs'.length = ch.len := by rw [hr.length, Chunk.cells_length]
  have hrun := run_storeCells_cells (P := P) l.blk (l.base + a.off) vs' 0 w
    (fun j hj => by
      have := hrow.there (a.off + j) (by omega)
      rwa [show l.base + a.off + 0 + j = l.base + (a.off + j) by omega])
    (fun j hj => by
      have := hrow.free hro (a.off + j) (by omega)
      rwa [show l.base + a.off + 0 + j = l.base + (a.off + j) by omega])
    (hr.oneCell hone)
  refine ⟨ρ, _, hrun, ?_⟩
  exact h.store ho hro el hm hm' hsz hlo hro' (off := a.off) (vs' := vs') (by omega) (fun i v e => by
    obtain ⟨h1, h2⟩ := hvals i v e
    rw [hlen]
    exact ⟨fun hi => hr.get? (h1 hi), h2⟩)

theorem store_ok (h : Rel ρ H w) {t : TypeId} {i : TypeInfo} {a a' : Addr} {o o' : AObj} {v v' : Value} (hi : P.info? t = some i) (hn : v.cells.size = i.size)
    (ha : AddrRel ρ a a') (ho : H.get a.block = some o) (hp : o.put a.off (.vals v.cells.toList) = some o') (hr : VRel ρ v v') :
    SemOKu P (Instr.storeAt t (.pointer (some a')) v') ρ H w (H.set a.block o') := by
  have hc := hr.cells
  obtain ⟨ρ', w', hrun, hw⟩ := storeCells_ok (P := P) h ha ho hp (vs' := v'.cells.toList) hc
  refine ⟨ρ', w', ?_, hw⟩
  have hsz : v'.cells.size = i.size := by
    have := hc.length
    simp only [Array.length_toList] at this; omega
  simp only [Instr.storeAt, Instr.sureAddr, Sem.run_bind, Sem.run_pure, Result.andThen_ok, storeVar, sizeOf, typeInfo, run_program, hi, hsz, ne_eq, not_true_eq_false, if_false, hrun]

theorem alloc_new (w : World) (o : Obj) : (w.alloc o).heap[w.heap.size]? = some o := by
  show (w.heap.push o)[w.heap.size]? = _
  simp
theorem shape_alloc_new (w : World) (c : Array Value) (t : TypeId) (fr : Nat × Nat) : ((w.alloc (.cells c t fr)).shape? w.heap.size).isSome = true := by
  unfold World.shape?; rw [alloc_new]; rfl
theorem alloc_eq' (w : World) (o : Obj) : ({ w with heap := w.heap.push o } : World) = w.alloc o := rfl

/-- A block is laid whose cells are those. -/
theorem newRow_ok (h : Rel ρ H w) {o : AObj} {cs' : List Value} (extra : List Value) (t : TypeId) (hm : o.isMap = false) (hr : VRels ρ o.vals cs') :
    ∃ l, l.blk = w.heap.size ∧ l.base = 0 ∧ l.size = o.size ∧ l.total = o.size + extra.length ∧ l.loose = o.loose ∧
      Went ρ H w (ρ.put H.next l) (H.push o) (w.alloc (.cells (cs' ++ extra).toArray t)) := by
  refine ⟨⟨w.heap.size, 0, o.size, o.size + extra.length, o.loose⟩, rfl, rfl, rfl, rfl, rfl, ?_⟩
  refine h.push o _ _ rfl (ObjRel.of_row hm ⟨⟨AObj.vals_length o, shape_alloc_new _ _ _ _, fun i v e => ?_, fun i hi => ?_, fun _ i _ => ?_⟩, rfl, ?_⟩) (fun x e => by subst e; cases hm)
  · obtain ⟨v', e', r⟩ := hr.get? e
    refine ⟨v', ?_, r.mono (h.le_put _)⟩
    rw [World.cell?_alloc_new]
    have := (List.getElem?_eq_some_iff.1 e').1
    simp [List.getElem?_append_left this, e']
  · rw [World.cell?_alloc_new]
    have hl := hr.length
    rw [AObj.vals_length] at hl
    have : i < (cs' ++ extra).length := by
      simp only [Loc.ext] at hi
      rw [List.length_append]
      split at hi <;> omega
    simp only [Nat.zero_add, List.getElem?_toArray, List.getElem?_eq_getElem this, Option.isSome_some]
  · rw [World.frozen?_alloc_new]
  · simp only [Loc.ext]; split <;> omega

/-- A pointer to a new block. -/
theorem box_ok (h : Rel ρ H w) {v v' : Value} (t : TypeId) (hr : VRel ρ v v') :
    SemOK P (Instr.box t v') ρ H w (.pointer (some ⟨H.next, 0, none⟩)) (H.push (.cells v.cells.toList 0 false)) := by
  obtain ⟨l, h1, h2, h3, h4, h5, hw⟩ := newRow_ok h (o := .cells v.cells.toList 0 false) [] t rfl hr.cells
  refine ⟨_, .pointer (some ⟨w.heap.size, 0, none⟩), _, ?_, .ptr ⟨l, by simp [Ren.put], rfl, by simp [h1, h2]⟩, hw⟩
  simp [Instr.box, newVar, newRow]

theorem alloc_ok (h : Rel ρ H w) {t : TypeId} {i : TypeInfo} {z : Value} (hi : P.info? t = some i) (hz : i.zero = some z) (hr : VRel ρ z z) (old : Value) :
    SemOK P (Instr.alloc t true old) ρ H w (.pointer (some ⟨H.next, 0, none⟩)) (H.push (.cells z.cells.toList 0 false)) := by
  obtain ⟨l, h1, h2, h3, h4, h5, hw⟩ := newRow_ok h (o := .cells z.cells.toList 0 false) [] t rfl hr.cells
  refine ⟨_, .pointer (some ⟨w.heap.size, 0, none⟩), _, ?_, .ptr ⟨l, by simp [Ren.put], rfl, by simp [h1, h2]⟩, hw⟩
  simp [Instr.alloc, zeroValue, typeInfo, hi, hz, newVar, newRow]

/-- What stands in the place of an operand that is appended or copied from. -/
inductive SrcRel (ρ : Ren) (H : AH) (w : World) (size : Nat) : Value → Nat → List Value → Prop
  | nil (c : Nat) : SrcRel ρ H w size (.slice none 0 c) 0 []
  | sl {a' : Addr} {n c' : Nat} {vs' : List Value} (hl : vs'.length = n * size) (hc : ∀ (j : Nat) (v : Value), vs'[j]? = some v → w.cell? (a'.add j) = some v) : SrcRel ρ H w size (.slice (some a') n c') n vs'
  | str (s : ByteArray) (h : size = 1) : SrcRel ρ H w size (.string s) s.size (s.data.toList.map fun b => .int .u8 b.toNat)

theorem chunkOf_src (h : Rel ρ H w) {size : Nat} {x x' : Value} {k : Nat} {ch : Chunk} (hx : VRel ρ x x') (hc : chunkOf size H x = some (k, ch)) :
    ∃ vs', VRels ρ ch.cells vs' ∧ vs'.length = k * size ∧ SrcRel ρ H w size x' k vs' := by
  cases hx with
  | nils n c =>
    cases n with
    | zero =>
      simp only [chunkOf, Option.some.injEq, Prod.mk.injEq] at hc
      obtain ⟨rfl, rfl⟩ := hc
      exact ⟨[], .nil, by simp, .nil c⟩
    | succ n => cases hc
  | @sl a a' n c c' hs =>
    simp only [chunkOf] at hc
    split at hc
    · rename_i o ho
      cases he : o.chunk a.off (n * size) with
      | none => rw [he] at hc; cases hc
      | some ch2 =>
        rw [he] at hc
        simp only [Option.map_some, Option.some.injEq, Prod.mk.injEq] at hc
        obtain ⟨rfl, rfl⟩ := hc
        obtain ⟨l, el, hsp, rfl, _⟩ := hs
        obtain ⟨vs', hr, hlen, hcell⟩ := h.chunk ho el he
        exact ⟨vs', hr, hlen, .sl hlen fun j v e => by rw [addrAdd]; exact hcell j v e⟩
    · cases hc
  | @slEnd a a' l e hs hl he =>
    simp only [chunkOf] at hc
    split at hc
    · rename_i o ho
      cases hk : o.chunk a.off (0 * size) with
      | none => rw [hk] at hc; cases hc
      | some ch2 =>
        rw [hk] at hc
        simp only [Option.map_some, Option.some.injEq, Prod.mk.injEq] at hc
        obtain ⟨rfl, rfl⟩ := hc
        have : ch2.cells = [] := List.eq_nil_of_length_eq_zero (by rw [Chunk.cells_length, (AObj.chunk_spec hk).2.1, Nat.zero_mul])
        rw [this]
        exact ⟨[], .nil, by simp, .sl (by simp) fun j v e => by simp at e⟩
    · cases hc
  | string s =>
    simp only [chunkOf] at hc
    split at hc
    · rename_i h1
      simp only [Option.some.injEq, Prod.mk.injEq] at hc
      obtain ⟨rfl, rfl⟩ := hc
      refine ⟨_, VRels.map_same _ _ fun b _ => .int _ _, ?_, .str s h1⟩
      simp only [List.length_map, Array.length_toList, h1, Nat.mul_one]; rfl
    · cases hc
  | _ => cases hc

theorem run_firstCells_src {size k : Nat} {x' : Value} {vs' : List Value} (hs : SrcRel ρ H w size x' k vs') (n : Nat) (hn : n = k) (w2 : World) (hw : w2.heap = w.heap) :
    (Builtin.firstCells size n x').run P w2 = .ok vs'.toArray w2 := by
  subst hn
  cases hs with
  | nil c => simp [Builtin.firstCells]
  | sl hl hc =>
    have := run_loadCells_list (P := P) w2 _ vs' (fun j v e => by
      have := hc j v e
      simpa [World.cell?, hw] using this)
    rw [hl] at this
    simpa [Builtin.firstCells] using this
  | str s h1 =>
    simp only [Builtin.firstCells, Sem.run_pure, Result.ok.injEq, and_true]
    apply Array.ext'
    simp

theorem run_lenOf_src {size k : Nat} {x' : Value} {vs' : List Value} (hs : SrcRel ρ H w size x' k vs') (w2 : World) :
    (Builtin.lenOf x').run P w2 = .ok k w2 := by
  cases hs with
  | nil c => rfl
  | sl hl hc => rfl
  | str s h1 => rfl

theorem slice_matches (e : TypeId) : (match (TypeDesc.slice e) with | .int _ => true | _ => false) = false := rfl

/-- An append that has room. -/
theorem run_append_in {t u ty e : TypeId} {i : TypeInfo} (ht : P.underlying t = some (.slice e)) (hu : (∃ e2, P.underlying u = some (.slice e2)) ∨ P.underlying u = some .string) (hi : P.info? e = some i)
    {x' : Value} {k : Nat} {vs' : List Value} (hs : SrcRel ρ H w i.size x' k vs') (base : Option Addr) (sLen sCap : Nat) (hroom : sLen + k ≤ sCap) :
    (Builtin.append_ #[t, u] ty #[.slice base sLen sCap, x']).run P w =
      (match base with | some a => (storeCells (a.add (sLen * i.size)) vs').run P w | none => .ok () w).andThen fun _ w' => .ok (.slice base (sLen + k) sCap) w' := by
  have hf := run_firstCells_src (P := P) hs k rfl w rfl
  have hl := run_lenOf_src (P := P) hs w
  rcases hu with ⟨e2, hu⟩ | hu <;> cases base <;>
    simp [Builtin.append_, run_underlying ht, run_underlying hu, sizeOf, typeInfo, hi, hl, hroom, hf]

/-- An append that lays a new block. -/
theorem run_append_new {t u ty e : TypeId} {i : TypeInfo} {z : Value} (ht : P.underlying t = some (.slice e)) (hu : (∃ e2, P.underlying u = some (.slice e2)) ∨ P.underlying u = some .string) (hi : P.info? e = some i)
    (hz : i.zero = some z) {x' : Value} {k : Nat} {vs' : List Value} (hs : SrcRel ρ H w i.size x' k vs') {s' : Value} {sLen sCap : Nat} {base : Option Addr} (hse : s' = .slice base sLen sCap) {olds : List Value}
    (hso : SrcRel ρ H w i.size (.slice base sLen sCap) sLen olds)
    (hg : sCap < sLen + k) (hfit : (sLen + k) * i.bytes < maxRoom) (h63 : sLen + k < 2 ^ 62) :
    (Builtin.append_ #[t, u] ty #[s', x']).run P w =
      .ok (.slice (some ⟨w.heap.size, 0, none⟩) (sLen + k) (grownCap w (sLen + k) sCap e))
        (w.drew.alloc (.cells (olds ++ vs' ++ (Builtin.zeroCells z.cells (grownCap w (sLen + k) sCap e - (sLen + k))).toList).toArray e)) := by
  subst hse
  have hl := run_lenOf_src (P := P) hs w
  have hn : ¬ (sLen + k ≤ sCap) := by omega
  have h63' : ¬ (9223372036854775807 < ((sLen : Int) + (k : Int))) := by omega
  have h48 : Builtin.nextslicecap (sLen + k) sCap * i.bytes ≤ 281474976710656 := growslice_fits hg (by unfold maxRoom at hfit; omega)
  have h48' : ¬ (281474976710656 < Builtin.nextslicecap (sLen + k) sCap * i.bytes) := by omega
  have hf := run_firstCells_src (P := P) hs k rfl w.drew rfl
  have hfo := run_firstCells_src (P := P) hso sLen rfl w.drew rfl
  rcases hu with ⟨e2, hu⟩ | hu <;>
    (simp [Builtin.append_, run_underlying ht, run_underlying hu, sizeOf, typeInfo, zeroValue, hi, hz, hl, hn, h63', h48', Question.forced, hf, hfo, newRow, grownCap]
     congr 2; apply Array.ext'; simp)

theorem grownCap_ge (w : World) (need old : Nat) (e : TypeId) : need ≤ grownCap w need old e := by
  unfold grownCap Question.cut; exact Nat.le_add_right _ _

theorem size_zeroCells' (z : Array Value) (n : Nat) : (Builtin.zeroCells z n).size = n * z.size := by simp [Builtin.zeroCells]

theorem Addr.eta_none {a : Addr} (h : a.spot = none) : a = ⟨a.block, a.off, none⟩ := by cases a; simp_all

/-- append, of whatever is appended. -/
theorem append_gen (h : Rel ρ H w) {t u ty e : TypeId} {i : TypeInfo} {z : Value}
    (hzc : z.cells.size = i.size) (hsz : 0 < i.size) (hby : 0 < i.bytes) {s s' x' v : Value} {k : Nat} {ch : Chunk} {vs' : List Value} {H' : AH} (hs : VRel ρ s s')
    (hr : VRels ρ ch.cells vs') (hlen : vs'.length = k * i.size)
    (hIn : ∀ (base : Option Addr) (sLen sCap : Nat), sLen + k ≤ sCap → (Builtin.append_ #[t, u] ty #[.slice base sLen sCap, x']).run P w =
      (match base with | some a => (storeCells (a.add (sLen * i.size)) vs').run P w | none => .ok () w).andThen fun _ w' => .ok (.slice base (sLen + k) sCap) w')
    (hNew : ∀ (sLen sCap : Nat) (base : Option Addr) (olds : List Value), SrcRel ρ H w i.size (.slice base sLen sCap) sLen olds → sCap < sLen + k → (sLen + k) * i.bytes < maxRoom → sLen + k < 2 ^ 62 →
      (Builtin.append_ #[t, u] ty #[.slice base sLen sCap, x']).run P w = .ok (.slice (some ⟨w.heap.size, 0, none⟩) (sLen + k) (grownCap w (sLen + k) sCap e))
        (w.drew.alloc (.cells (olds ++ vs' ++ (Builtin.zeroCells z.cells (grownCap w (sLen + k) sCap e - (sLen + k))).toList).toArray e)))
    (ha : aappend i.size i.bytes H s k ch = some (v, H')) :
    SemOK P (Builtin.append_ #[t, u] ty #[s', x']) ρ H w v H' := by
  cases hs with
  | nils n c =>
    cases n with
    | succ n => simp [aappend] at ha
    | zero => cases c with
      | succ c => simp [aappend] at ha
      | zero =>
        simp only [aappend] at ha
        by_cases hk : k = 0
        · rw [if_pos hk] at ha
          simp only [Option.some.injEq, Prod.mk.injEq] at ha
          obtain ⟨rfl, rfl⟩ := ha
          have := hIn none 0 0 (by omega)
          refine SemOK.same h (v' := .slice none 0 0) ?_ (.nils 0 0)
          rw [this, hk]; rfl
        · rw [if_neg hk] at ha
          split at ha
          · rename_i hroom
            cases hm : mkObj i.size (.vals []) ch with
            | none => rw [hm] at ha; cases ha
            | some o =>
              rw [hm] at ha
              simp only [Option.map_some, Option.some.injEq, Prod.mk.injEq] at ha
              obtain ⟨rfl, rfl⟩ := ha
              obtain ⟨hv, hlo, hro, hmm⟩ := mkObj_spec hm
              rw [show (Chunk.vals []).cells = [] from rfl, List.nil_append] at hv
              have hkb : k < maxRoom := Nat.lt_of_le_of_lt (Nat.le_mul_of_pos_right _ hby) hroom
              have hrun := hNew 0 0 none [] (SrcRel.nil 0) (by omega) (by simpa using hroom) (by unfold maxRoom at hkb; omega)
              have hd := Went.drawn h (w.drawn + 1)
              have hge := grownCap_ge w (0 + k) 0 e
              rw [show 0 + k = k from Nat.zero_add k] at hrun hge
              obtain ⟨l, h1, h2, h3, h4, h5, hw⟩ := newRow_ok hd.rel (o := o) (Builtin.zeroCells z.cells (grownCap w k 0 e - k)).toList e hmm (by rw [hv]; exact hr)
              refine ⟨_, _, _, hrun, ?_, hd.trans hw⟩
              refine .sl ⟨l, by simp [Ren.put], rfl, by simp [h1, h2], .inr ⟨by rw [h5, hlo]; exact hsz, ?_, hge, ?_⟩⟩
              · rw [h5, hlo, h3, ← AObj.vals_length, hv, ← hr.length, hlen]; simp
              · rw [h5, hlo, h4, ← AObj.vals_length, hv, ← hr.length, hlen]
                simp only [Array.length_toList, size_zeroCells', hzc, Nat.zero_add]
                rw [← Nat.add_mul]; exact Nat.mul_le_mul_right _ (by omega)
          · cases ha
  | @sl a a' n c c' hsl =>
    simp only [aappend] at ha
    obtain ⟨l, el, hsp, hadr, hcap⟩ := hsl
    by_cases hk : k = 0
    · rw [if_pos hk] at ha
      split at ha
      · rename_i hnc
        simp only [Option.some.injEq, Prod.mk.injEq] at ha
        obtain ⟨rfl, rfl⟩ := ha
        subst hk
        have hv0 : vs' = [] := List.eq_nil_of_length_eq_zero (by simpa using hlen)
        subst hv0
        have hle : n ≤ c' := by rcases hcap with rfl | ⟨_, _, hcc, _⟩ <;> omega
        have := hIn (some a') n c' (by omega)
        refine SemOK.same h (v' := .slice (some a') n c') ?_ (.sl ⟨l, el, hsp, hadr, hcap⟩)
        rw [this]; rfl
      · cases ha
    · rw [if_neg hk] at ha
      split at ha
      · cases ha
      · rename_i o ho
        obtain ⟨l', el', hobj⟩ := h.obj _ _ ho
        rw [el] at el'; cases el'
        split at ha
        · -- room that is known
          rename_i hroom
          cases hp : o.put (a.off + n * i.size) ch with
          | none => rw [hp] at ha; cases ha
          | some o' =>
            rw [hp] at ha
            simp only [Option.map_some, Option.some.injEq, Prod.mk.injEq] at ha
            obtain ⟨rfl, rfl⟩ := ha
            have hle : n + k ≤ c' := by rcases hcap with rfl | ⟨_, _, hcc, _⟩ <;> omega
            have hrun := hIn (some a') n c' hle
            have harel : AddrRel ρ ⟨a.block, a.off + n * i.size, none⟩ (a'.add (n * i.size)) := by
              subst hadr; rw [addrAdd]; exact ⟨l, el, rfl, by simp [Nat.add_assoc]⟩
            obtain ⟨ρ', w', hst, hw⟩ := storeCells_ok (P := P) h harel ho hp hr
            refine ⟨ρ', .slice (some a') (n + k) c', w', ?_, (VRel.sl ⟨l, el, hsp, hadr, hcap⟩).mono hw.le, hw⟩
            rw [hrun]; simp [hst]
        · rename_i hroom
          split at ha
          · rename_i hfit
            have hkb : n + k < maxRoom := Nat.lt_of_le_of_lt (Nat.le_mul_of_pos_right _ hby) hfit
            split at ha
            · cases ha
            · rename_i old hold
              obtain ⟨vold, hro', hlo', hco'⟩ := h.chunk ho el hold
              split at ha
              · cases ha
              · rename_i o2 ho2
                obtain ⟨hv2, hlo2, hro2, hm2⟩ := mkObj_spec ho2
                have hsrc : SrcRel ρ H w i.size (.slice (some a') n c') n vold := .sl hlo' fun j v e => by subst hadr; rw [addrAdd]; exact hco' j v e
                have hsize : o2.size = (n + k) * i.size := by
                  rw [← AObj.vals_length, hv2, List.length_append, ← hro'.length, ← hr.length, hlo', hlen, Nat.add_mul]
                -- a new block
                have hnew : c' < n + k → SemOK P (Builtin.append_ #[t, u] ty #[.slice (some a') n c', x']) ρ H w (.slice (some ⟨H.next, 0, none⟩) (n + k) (n + k)) (H.push o2) := by
                  intro hg
                  have hrun := hNew _ _ _ _ hsrc hg hfit (by unfold maxRoom at hkb; omega)
                  have hd := Went.drawn h (w.drawn + 1)
                  have hge := grownCap_ge w (n + k) c' e
                  obtain ⟨l2, h1, h2, h3, h4, h5, hw⟩ := newRow_ok hd.rel (o := o2) (Builtin.zeroCells z.cells (grownCap w (n + k) c' e - (n + k))).toList e hm2 (by rw [hv2]; exact hro'.append hr)
                  refine ⟨_, _, _, hrun, ?_, hd.trans hw⟩
                  refine .sl ⟨l2, by simp [Ren.put], rfl, by simp [h1, h2], .inr ⟨by rw [h5, hlo2]; exact hsz, ?_, hge, ?_⟩⟩
                  · rw [h5, hlo2, h3, hsize]; simp
                  · rw [h5, hlo2, h4, hsize]
                    simp only [Array.length_toList, size_zeroCells', hzc, Nat.zero_add]
                    rw [← Nat.add_mul]; exact Nat.mul_le_mul_right _ (by omega)
                have hmo : o.isMap = false := (AObj.chunk_spec hold).2.2.1
                have hlE := (hobj.row hmo).2.1
                have hos : o.size = l.size := by rw [← AObj.vals_length, (hobj.row hmo).1.size]
                split at ha
                · rename_i hloose
                  simp only [Option.some.injEq, Prod.mk.injEq] at ha
                  obtain ⟨rfl, rfl⟩ := ha
                  refine hnew ?_
                  rcases hcap with rfl | ⟨hl0, _, _, _⟩
                  · omega
                  · omega
                · rename_i hloose
                  split at ha
                  · rename_i hls
                    simp only [Option.some.injEq, Prod.mk.injEq] at ha
                    obtain ⟨rfl, rfl⟩ := ha
                    by_cases hg : c' < n + k
                    · obtain ⟨ρ', v', w', hrun, hv, hw⟩ := hnew hg
                      have hnx : ∀ G : AH, G = (if a.off + c * i.size = o.size then H.kill a.block else H) → G.next = H.next ∧ ∀ b x, G.get b = some x → H.get b = some x := by
                        rintro G rfl
                        split
                        · refine ⟨rfl, fun b x e => ?_⟩
                          rw [AH.get_kill] at e
                          split at e
                          · cases e
                          · exact e
                        · exact ⟨rfl, fun _ _ e => e⟩
                      obtain ⟨hn1, hn2⟩ := hnx _ rfl
                      refine ⟨ρ', v', w', hrun, hv, hw.weaken (by rw [AH.push_eq, AH.push_eq]; simp only; rw [hn1]; exact Nat.le_refl _) fun b x e => ?_⟩
                      rw [AH.get_push] at e ⊢
                      rw [hn1] at e
                      split
                      · rename_i hb; rw [if_pos hb] at e; exact e
                      · rename_i hb; rw [if_neg hb] at e; exact hn2 _ _ e
                    · -- in place, behind the end that is known
                      have hle : n + k ≤ c' := by omega
                      have hlp : 0 < o.loose := Nat.pos_of_ne_zero hloose
                      rcases hcap with rfl | ⟨_, hend, hcc, htot⟩
                      · omega
                      · have hrun := hIn (some a') n c' hle
                        have hchk := AObj.chunk_spec hold
                        have hone : ∀ v ∈ ch.cells, v.oneCell' = true := mkObj_one ho2
                        have hlz : l.loose = i.size := by rw [hlE, hls.1]
                        rw [hlz] at htot hend
                        rw [if_pos (by rw [hos]; exact hend)]
                        have htot' : a.off + (n + k) * i.size ≤ l.total := Nat.le_trans (Nat.add_le_add_left (Nat.mul_le_mul_right _ hle) _) htot
                        rw [Nat.add_mul] at htot'
                        have hext : l.ext = l.total := by unfold Loc.ext; rw [if_neg (by omega)]
                        have hst := run_storeCells_cells (P := P) l.blk (l.base + a.off + n * i.size) vs' 0 w
                          (fun j hj => by
                            have := (hobj.row hmo).1.there (a.off + n * i.size + j) (by rw [hext]; omega)
                            rwa [show l.base + a.off + n * i.size + 0 + j = l.base + (a.off + n * i.size + j) by omega])
                          (fun j hj => by
                            have := (hobj.row hmo).1.free hls.2 (a.off + n * i.size + j) (by rw [hext]; omega)
                            rwa [show l.base + a.off + n * i.size + 0 + j = l.base + (a.off + n * i.size + j) by omega])
                          (hr.oneCell hone)
                        have hw := h.grow ho hls.2 el hmo hm2 hlp (by rw [hlo2, hls.1]) hro2 (off := a.off) (n := n * i.size) (vs' := vs') (by rw [hsize, hlen, Nat.add_mul]) (by rw [hlen]; omega)
                          (fun j v e => by
                            rw [hv2] at e
                            have hol : old.cells.length = n * i.size := by rw [Chunk.cells_length, hchk.2.1]
                            refine ⟨fun hj => ?_, fun hj => ?_⟩
                            · rw [List.getElem?_append_left (by omega), hchk.2.2.2 j hj] at e; exact e
                            · rw [List.getElem?_append_right (by omega), hol] at e; exact hr.get? e)
                        refine ⟨_, .slice (some a') (n + k) c', _, ?_, ?_, hw⟩
                        · rw [hrun]; subst hadr; simp only [addrAdd]; rw [hst]; rfl
                        · refine .sl ⟨⟨l.blk, l.base + a.off, n * i.size + vs'.length, l.total - a.off, l.loose⟩, by simp [Ren.put], rfl, by subst hadr; simp, .inr ⟨by simp only; omega, ?_, hle, ?_⟩⟩
                          · simp only [hlz, hlen, Nat.zero_add, Nat.add_mul]
                          · simp only [hlz, Nat.zero_add]; omega
                  · cases ha
          · cases ha
  | @slEnd a a' l el hsp hll hend =>
    simp only [aappend] at ha
    by_cases hk : k = 0
    · rw [if_pos hk, if_pos (Nat.le_refl 0)] at ha
      simp only [Option.some.injEq, Prod.mk.injEq] at ha
      obtain ⟨rfl, rfl⟩ := ha
      subst hk
      have hv0 : vs' = [] := List.eq_nil_of_length_eq_zero (by simpa using hlen)
      subst hv0
      have := hIn (some a') 0 0 (by omega)
      refine SemOK.same h (v' := .slice (some a') 0 0) ?_ (.slEnd el hsp hll hend)
      rw [this]; rfl
    · rw [if_neg hk] at ha
      split at ha
      · cases ha
      · rename_i o ho
        rw [if_neg (by omega)] at ha
        split at ha
        · rename_i hfit
          have hkb : 0 + k < maxRoom := Nat.lt_of_le_of_lt (Nat.le_mul_of_pos_right _ hby) hfit
          split at ha
          · cases ha
          · rename_i old hold
            have hoc : old.cells = [] := List.eq_nil_of_length_eq_zero (by rw [Chunk.cells_length, (AObj.chunk_spec hold).2.1, Nat.zero_mul])
            split at ha
            · cases ha
            · rename_i o2 ho2
              obtain ⟨hv2, hlo2, hro2, hm2⟩ := mkObj_spec ho2
              rw [hoc, List.nil_append] at hv2
              have hsrc : SrcRel ρ H w i.size (.slice (some a') 0 0) 0 [] := .sl (by simp) fun j v e => by simp at e
              have hnew : SemOK P (Builtin.append_ #[t, u] ty #[.slice (some a') 0 0, x']) ρ H w (.slice (some ⟨H.next, 0, none⟩) (0 + k) (0 + k)) (H.push o2) := by
                have hrun := hNew _ _ _ _ hsrc (by omega) hfit (by unfold maxRoom at hkb; omega)
                have hd := Went.drawn h (w.drawn + 1)
                have hge := grownCap_ge w (0 + k) 0 e
                obtain ⟨l2, h1, h2, h3, h4, h5, hw⟩ := newRow_ok hd.rel (o := o2) (Builtin.zeroCells z.cells (grownCap w (0 + k) 0 e - (0 + k))).toList e hm2 (by rw [hv2]; exact hr)
                refine ⟨_, _, _, hrun, ?_, hd.trans hw⟩
                refine .sl ⟨l2, by simp [Ren.put], rfl, by simp [h1, h2], .inr ⟨by rw [h5, hlo2]; exact hsz, ?_, hge, ?_⟩⟩
                · rw [h5, hlo2, h3, ← AObj.vals_length, hv2, ← hr.length, hlen]; simp
                · rw [h5, hlo2, h4, ← AObj.vals_length, hv2, ← hr.length, hlen]
                  simp only [Array.length_toList, size_zeroCells', hzc, Nat.zero_add]
                  rw [Nat.zero_add] at hge
                  rw [← Nat.add_mul]; exact Nat.mul_le_mul_right _ (by omega)
              split at ha
              · simp only [Option.some.injEq, Prod.mk.injEq] at ha
                obtain ⟨rfl, rfl⟩ := ha
                exact hnew
              · split at ha
                · simp only [Option.some.injEq, Prod.mk.injEq] at ha
                  obtain ⟨rfl, rfl⟩ := ha
                  obtain ⟨ρ', v', w', hrun, hv, hw⟩ := hnew
                  have hnx : ∀ G : AH, G = (if a.off + 0 * i.size = o.size then H.kill a.block else H) → G.next = H.next ∧ ∀ b x, G.get b = some x → H.get b = some x := by
                    rintro G rfl
                    split
                    · refine ⟨rfl, fun b x e => ?_⟩
                      rw [AH.get_kill] at e
                      split at e
                      · cases e
                      · exact e
                    · exact ⟨rfl, fun _ _ e => e⟩
                  obtain ⟨hn1, hn2⟩ := hnx _ rfl
                  refine ⟨ρ', v', w', hrun, hv, hw.weaken (by rw [AH.push_eq, AH.push_eq]; simp only; rw [hn1]; exact Nat.le_refl _) fun b x e => ?_⟩
                  rw [AH.get_push] at e ⊢
                  rw [hn1] at e
                  split
                  · rename_i hb; rw [if_pos hb] at e; exact e
                  · rename_i hb; rw [if_neg hb] at e; exact hn2 _ _ e
                · cases ha
        · cases ha
  | _ => simp [aappend] at ha


/-- append. -/
theorem append_ok (h : Rel ρ H w) {t u ty e : TypeId} {i : TypeInfo} {z : Value} (ht : P.underlying t = some (.slice e)) (hu : (∃ e2, P.underlying u = some (.slice e2)) ∨ P.underlying u = some .string)
    (hi : P.info? e = some i) (hz : i.zero = some z) (hzc : z.cells.size = i.size) (hsz : 0 < i.size) (hby : 0 < i.bytes) {s s' x' v : Value} {k : Nat} {ch : Chunk} {vs' : List Value} {H' : AH} (hs : VRel ρ s s')
    (hr : VRels ρ ch.cells vs') (hlen : vs'.length = k * i.size) (hx : SrcRel ρ H w i.size x' k vs') (ha : aappend i.size i.bytes H s k ch = some (v, H')) :
    SemOK P (Builtin.append_ #[t, u] ty #[s', x']) ρ H w v H' := by
  exact append_gen h hzc hsz hby hs hr hlen (fun base sLen sCap hle => run_append_in ht hu hi hx base sLen sCap hle)
    (fun sLen sCap base olds hso h1 h2 h3 => run_append_new ht hu hi hz hx rfl hso h1 h2 h3) ha

end
end Go.Ads
/- Each operation of the model does to the world what its twin does to the abstract heap: slices, indexes, fields. -/
namespace Go.Ads
noncomputable section
variable {P : Program} {ρ : Ren} {H : AH} {w : World}

theorem VRel.int_inv {k : IntKind} {n : Int} {v' : Value} (h : VRel ρ (.int k n) v') : v' = .int k n := by cases h; rfl
theorem VRel.bool_inv {b : Bool} {v' : Value} (h : VRel ρ (.bool b) v') : v' = .bool b := by cases h; rfl
theorem VRel.string_inv {s : ByteArray} {v' : Value} (h : VRel ρ (.string s) v') : v' = .string s := by cases h; rfl

/-- Optional operands. -/
inductive ORel (ρ : Ren) : Option Value → Option Value → Prop
  | none : ORel ρ none none
  | some {v v' : Value} (h : VRel ρ v v') : ORel ρ (some v) (some v')

theorem natArg_inv {x x' : Option Value} {r : Option Nat} (h : ORel ρ x x') (e : natArg x = some r) :
    (x' = none ∧ r = none) ∨ ∃ k n, x' = some (.int k (.ofNat n)) ∧ r = some n := by
  cases h with
  | none => simp only [natArg, Option.some.injEq] at e; exact .inl ⟨rfl, e.symm⟩
  | some h =>
    unfold natArg at e
    split at e
    · rename_i he; cases he
    · rename_i he
      simp only [Option.some.injEq] at he; subst he
      have := h.int_inv; subst this
      simp only [Option.some.injEq] at e
      exact .inr ⟨_, _, rfl, e.symm⟩
    · cases e

theorem run_sliceBound {k : IntKind} {n y : Nat} (code : BoundsCode) (h : n ≤ y) (w : World) : (Instr.sliceBound (.int k (n : Int)) y code).run P w = .ok n w := by
  have : (0 : Int) ≤ n ∧ (n : Int) ≤ y := by omega
  simp [Instr.sliceBound, asIntOf, this]

theorem bounds_ok {isSlice : Bool} {len cap cap' : Nat} {lo hi mx lo' hi' mx' : Option Value} {l h m : Nat} (hl : ORel ρ lo lo') (hh : ORel ρ hi hi') (hm : ORel ρ mx mx') (hc : cap ≤ cap')
    (e : abounds len cap lo hi mx = some (l, h, m)) : ∃ m', (Instr.sliceBounds isSlice len cap' lo' hi' mx').run P w = .ok (l, h, m') w ∧ l ≤ h ∧ h ≤ m ∧ m ≤ cap ∧
      ((mx = none ∧ m = cap ∧ m' = cap') ∨ (mx ≠ none ∧ m' = m)) := by
  unfold abounds at e
  split at e
  · rename_i l0 h0 m0 el eh em
    have L := natArg_inv hl el
    have Hh := natArg_inv hh eh
    have M := natArg_inv hm em
    split at e
    · cases e
    · rename_i hne
      simp only at e
      split at e
      · rename_i hb
        simp only [Option.some.injEq, Prod.mk.injEq] at e
        obtain ⟨e1, e2, e3⟩ := e
        rcases M with ⟨rfl, rfl⟩ | ⟨km, nm, rfl, rfl⟩ <;> rcases Hh with ⟨rfl, rfl⟩ | ⟨kh, nh, rfl, rfl⟩ <;> rcases L with ⟨rfl, rfl⟩ | ⟨kl, nl, rfl, rfl⟩ <;>
          simp only [Option.getD_none, Option.getD_some] at hb e1 e2 e3 <;> subst e1 <;> subst e2 <;> subst e3
        · exact ⟨cap', by simp [Instr.sliceBounds], by omega, by omega, by omega, .inl ⟨by cases hm; rfl, rfl, rfl⟩⟩
        · exact ⟨cap', by simp [Instr.sliceBounds, run_sliceBound _ hb.2.2], by omega, by omega, by omega, .inl ⟨by cases hm; rfl, rfl, rfl⟩⟩
        · exact ⟨cap', by simp [Instr.sliceBounds, run_sliceBound _ (Nat.le_trans hb.2.1 hc)], by omega, by omega, by omega, .inl ⟨by cases hm; rfl, rfl, rfl⟩⟩
        · exact ⟨cap', by simp [Instr.sliceBounds, run_sliceBound _ (Nat.le_trans hb.2.1 hc), run_sliceBound _ hb.2.2], by omega, by omega, by omega, .inl ⟨by cases hm; rfl, rfl, rfl⟩⟩
        · exact absurd rfl (hne _ rfl)
        · exact absurd rfl (hne _ rfl)
        · exact ⟨nm, by simp [Instr.sliceBounds, run_sliceBound _ (Nat.le_trans hb.1 hc), run_sliceBound _ hb.2.1], by omega, by omega, by omega, .inr ⟨by cases hm; simp, rfl⟩⟩
        · exact ⟨nm, by simp [Instr.sliceBounds, run_sliceBound _ (Nat.le_trans hb.1 hc), run_sliceBound _ hb.2.1, run_sliceBound _ hb.2.2], by omega, by omega, by omega, .inr ⟨by cases hm; simp, rfl⟩⟩
      · cases e
  · cases e

theorem AddrRel.of_slice {a a' : Addr} {c c' : Nat} (h : SliceRel ρ a a' c c') : AddrRel ρ a a' := let ⟨l, e, s, x, _⟩ := h; ⟨l, e, s, x⟩

theorem run_elem {t e : TypeId} (ht : P.underlying t = some (.slice e)) : (underlying t).run P w = .ok (.slice e) w := run_underlying ht w

theorem slice_ok (h : Rel ρ H w) {t e : TypeId} {i : TypeInfo} (ht : P.underlying t = some (.slice e)) (hi : P.info? e = some i) {x x' v : Value} {lo hi' mx lo' hi2 mx' : Option Value}
    (hx : VRel ρ x x') (hl : ORel ρ lo lo') (hh : ORel ρ hi' hi2) (hm : ORel ρ mx mx') (hs : aslice i.size H x lo hi' mx = some v) :
    SemOK P (Instr.slice t x' lo' hi2 mx') ρ H w v H := by
  have hrun : ∀ (a : Option Addr) (n c : Nat) (q : Nat × Nat × Nat), (Instr.sliceBounds true n c lo' hi2 mx').run P w = .ok q w →
      (Instr.slice t (.slice a n c) lo' hi2 mx').run P w = .ok (.slice (if q.2.2 = q.1 then a else a.map (·.add (q.1 * i.size))) (q.2.1 - q.1) (q.2.2 - q.1)) w := by
    intro a n c q hq
    simp [Instr.slice, run_underlying ht, hq, sizeOf, typeInfo, hi]
  cases hx with
  | nils n c =>
    simp only [aslice] at hs
    cases eb : abounds n c lo hi' mx with
    | none => rw [eb] at hs; cases hs
    | some q =>
      obtain ⟨l, hb, m⟩ := q
      rw [eb] at hs
      simp only [Option.some.injEq] at hs; subst hs
      obtain ⟨m', hq, h1, h2, h3, h4⟩ := bounds_ok (P := P) (w := w) (isSlice := true) hl hh hm (Nat.le_refl c) eb
      have hmm : m' = m := by rcases h4 with ⟨_, a, b⟩ | ⟨_, a⟩ <;> omega
      subst hmm
      refine SemOK.same h (v' := .slice none (hb - l) (m' - l)) ?_ (.nils _ _)
      rw [hrun none n c _ hq]; simp
  | @sl a a' n c c' hsl =>
    simp only [aslice] at hs
    split at hs
    · cases hs
    · rename_i o ho
      split at hs
      · rename_i hlo
        cases eb : abounds n c lo hi' mx with
        | none => rw [eb] at hs; cases hs
        | some q =>
          obtain ⟨l, hb, m⟩ := q
          rw [eb] at hs
          simp only at hs
          obtain ⟨k, ek, hsp, hadr, hcap⟩ := hsl
          have hcc : c ≤ c' := by rcases hcap with rfl | ⟨_, _, hcc, _⟩ <;> omega
          obtain ⟨m', hq, h1, h2, h3, h4⟩ := bounds_ok (P := P) (w := w) (isSlice := true) hl hh hm hcc eb
          have hrun' := hrun (some a') n c' _ hq
          simp only at hrun'
          obtain ⟨k', ek', hobj⟩ := h.obj _ _ ho
          rw [ek] at ek'; cases ek'
          have hkl : k.loose = o.loose ∧ (0 < k.loose → k.size = o.size) := by
            cases o with
            | map es => exact ⟨hobj.1.2.2, fun hp => by have := hobj.1.2.2; omega⟩
            | loop es => exact ⟨hobj.1.2.2, fun hp => by have := hobj.1.2.2; omega⟩
            | cells vs lo ro => exact ⟨hobj.2.1, fun _ => hobj.1.size.symm⟩
            | bytes len x lo ro => exact ⟨hobj.2.1, fun _ => by rw [← hobj.1.size, AObj.vals_length]⟩
          have hm' : m' = m ∨ (mx = none ∧ m = c ∧ m' = c' ∧ 0 < k.loose ∧ k.loose = i.size ∧ a.off + c * i.size = o.size ∧ c ≤ c' ∧ a.off + c' * i.size ≤ k.total) := by
            rcases h4 with ⟨hn, e1, e2⟩ | ⟨_, e1⟩
            · rcases hcap with e3 | ⟨hp, he, hcc, ht⟩
              · exact .inl (by omega)
              · have hz : k.loose = i.size := by omega
                rw [hz] at he ht
                exact .inr ⟨hn, e1, e2, hp, hz, by rw [he, hkl.2 hp], hcc, ht⟩
            · exact .inl e1
          split at hs
          · rename_i hml
            have hhl : hb - l = 0 := by omega
            split at hs
            · rename_i hend
              simp only [Option.some.injEq] at hs; subst hs
              have hpos : 0 < k.loose := by omega
              have hks := hkl.2 hpos
              rcases hm' with e1 | ⟨hn, e1, e2, hp, hz, he, hcc2, ht⟩
              · refine SemOK.same h (v' := .slice (some a') 0 0) ?_ (.slEnd ek rfl hpos hks.symm)
                rw [hrun', e1, if_pos hml, hhl, show m - l = 0 by omega]
              · by_cases hz2 : m' = l
                · refine SemOK.same h (v' := .slice (some a') 0 0) ?_ (.slEnd ek rfl hpos hks.symm)
                  rw [hrun', if_pos hz2, hhl, show m' - l = 0 by omega]
                · refine SemOK.same h (v' := .slice (some (a'.add (l * i.size))) 0 (m' - l)) ?_ (.sl ⟨k, ek, rfl, ?_, .inr ⟨hpos, by rw [hks]; simp, Nat.zero_le _, ?_⟩⟩)
                  · rw [hrun', if_neg hz2, hhl]; rfl
                  · subst hadr; rw [addrAdd]; simp only [Addr.mk.injEq, true_and, and_true]
                    have : l = c := by omega
                    subst this; omega
                  · rw [hz]
                    simp only
                    have : l = c := by omega
                    subst this
                    rw [e2, Nat.sub_mul]; have := Nat.mul_le_mul_right i.size hcc2; omega
            · rename_i hend
              simp only [Option.some.injEq] at hs; subst hs
              have e1 : m' = m := by
                rcases hm' with e1 | ⟨hn, _, _, hp, hz, he, _, _⟩
                · exact e1
                · exact absurd ⟨by rw [hn]; rfl, by omega, he⟩ hend
              refine SemOK.same h (v' := .slice (some a') 0 0) ?_ (.sl ⟨k, ek, hsp, hadr, .inl rfl⟩)
              rw [hrun', e1, if_pos hml, hhl, show m - l = 0 by omega]
          · rename_i hml
            simp only [Option.some.injEq] at hs; subst hs
            have hml' : m' ≠ l := by rcases hm' with e1 | ⟨_, _, _, _, _, _, _, _⟩ <;> omega
            refine SemOK.same h (v' := .slice (some (a'.add (l * i.size))) (hb - l) (m' - l)) ?_ (.sl ?_)
            · rw [hrun', if_neg hml']; rfl
            · obtain ⟨ab, ao, asp⟩ := a
              simp only at hsp ek; subst hsp
              refine ⟨k, by simpa [addrAdd] using ek, by rw [addrAdd], by subst hadr; rw [addrAdd, addrAdd]; simp [Nat.add_assoc], ?_⟩
              rw [addrAdd]
              rcases hm' with e1 | ⟨hn, e1, e2, hp, hz, he, hcc2, ht⟩
              · exact .inl (by rw [e1])
              · refine .inr ⟨hp, ?_, by omega, ?_⟩
                · rw [hz, hkl.2 hp]; simp only; rw [Nat.sub_mul, ← he, e1]; have := Nat.mul_le_mul_right i.size (show l ≤ c by omega); simp only; omega
                · rw [hz]; simp only; rw [Nat.sub_mul, e2]; have := Nat.mul_le_mul_right i.size (show l ≤ c' by omega); simp only at ht; omega
      · cases hs
  | @slEnd a a' k ek hsp hll hend =>
    simp only [aslice] at hs
    split at hs
    · cases hs
    · rename_i o ho
      split at hs
      · rename_i hlo
        cases eb : abounds 0 0 lo hi' mx with
        | none => rw [eb] at hs; cases hs
        | some q =>
          obtain ⟨l, hb, m⟩ := q
          rw [eb] at hs
          simp only at hs
          obtain ⟨m', hq, h1, h2, h3, h4⟩ := bounds_ok (P := P) (w := w) (isSlice := true) hl hh hm (Nat.le_refl 0) eb
          have hrun' := hrun (some a') 0 0 _ hq
          simp only at hrun'
          obtain ⟨k', ek', hobj⟩ := h.obj _ _ ho
          rw [ek] at ek'; cases ek'
          have hks : k.size = o.size := by
            cases o with
            | map es => have := hobj.1.2.2; omega
            | loop es => have := hobj.1.2.2; omega
            | cells vs lo ro => exact hobj.1.size.symm
            | bytes len x lo ro => rw [← hobj.1.size, AObj.vals_length]
          have e1 : m' = m := by rcases h4 with ⟨_, e1, e2⟩ | ⟨_, e1⟩ <;> omega
          have hl0 : l = 0 := by omega
          have hb0 : hb = 0 := by omega
          have hm0 : m = 0 := by omega
          subst e1
          rw [if_pos (by omega)] at hs
          have hres : (Instr.slice t (.slice (some a') 0 0) lo' hi2 mx').run P w = .ok (.slice (some a') 0 0) w := by
            rw [hrun', if_pos (by omega), hl0, hb0, hm0]
          split at hs
          · simp only [Option.some.injEq] at hs; subst hs
            exact SemOK.same h hres (.slEnd ek rfl hll hks.symm)
          · simp only [Option.some.injEq] at hs; subst hs
            exact SemOK.same h hres (.slEnd ek hsp hll hend)
      · cases hs
  | _ => cases hs

end
end Go.Ads
/- Each operation of the model does to the world what its twin does to the abstract heap: addresses, parts, makes, copies. -/
namespace Go.Ads
noncomputable section
variable {P : Program} {ρ : Ren} {H : AH} {w : World}

theorem sliceAt_slice {t e : TypeId} (ht : P.underlying t = some (.slice e)) (x : Value) (lo hi mx : Option Value) :
    (Instr.sliceAt t x lo hi mx).run P w = (Instr.slice t x lo hi mx).run P w := by
  simp [Instr.sliceAt, run_underlying ht]
theorem sliceAt_string {t : TypeId} (ht : P.underlying t = some .string) (x : Value) (lo hi mx : Option Value) :
    (Instr.sliceAt t x lo hi mx).run P w = (Instr.slice t x lo hi mx).run P w := by
  simp [Instr.sliceAt, run_underlying ht]

theorem sliceStr_ok (h : Rel ρ H w) {t : TypeId} (ht : P.underlying t = some .string) {x x' v : Value} {lo hi lo' hi' : Option Value}
    (hx : VRel ρ x x') (hl : ORel ρ lo lo') (hh : ORel ρ hi hi') (hs : asliceStr x lo hi = some v) :
    SemOK P (Instr.sliceAt t x' lo' hi' none) ρ H w v H := by
  cases hx with
  | string s =>
    simp only [asliceStr] at hs
    cases eb : abounds s.size s.size lo hi none with
    | none => rw [eb] at hs; cases hs
    | some q =>
      obtain ⟨l, hb, m⟩ := q
      rw [eb] at hs
      simp only [Option.some.injEq] at hs; subst hs
      obtain ⟨m', hq, h1, h2, h3, h4⟩ := bounds_ok (P := P) (w := w) (isSlice := false) hl hh .none (Nat.le_refl _) eb
      refine SemOK.same h (v' := .string (s.extract l hb)) ?_ (.string _)
      rw [sliceAt_string ht]
      simp [Instr.slice, run_underlying ht, hq]
  | _ => cases hs

theorem sliceArr_ok (h : Rel ρ H w) {t e : TypeId} {n : Nat} {i : TypeInfo} (ht : P.underlying t = some (.array n e)) (hI : P.info? e = some i) {x x' v : Value} {lo hi lo' hi' mx mx' : Option Value}
    (hx : VRel ρ x x') (hl : ORel ρ lo lo') (hh : ORel ρ hi hi') (hm : ORel ρ mx mx') (hs : asliceArr n i.size x lo hi mx = some v) :
    SemOK P (Instr.sliceAt t x' lo' hi' mx') ρ H w v H := by
  cases hx with
  | @ptr a a' ha =>
    simp only [asliceArr] at hs
    cases eb : abounds n n lo hi mx with
    | none => rw [eb] at hs; cases hs
    | some q =>
      obtain ⟨l, hb, m⟩ := q
      rw [eb] at hs
      simp only [Option.some.injEq] at hs; subst hs
      obtain ⟨m', hq, h1, h2, h3, h4⟩ := bounds_ok (P := P) (w := w) (isSlice := false) hl hh hm (Nat.le_refl _) eb
      have hmm : m' = m := by rcases h4 with ⟨_, a, b⟩ | ⟨_, a⟩ <;> omega
      subst hmm
      obtain ⟨k, ek, hsp, rfl⟩ := ha
      refine SemOK.same h (v' := .slice (some (if m' = l then ⟨k.blk, k.base + a.off, none⟩ else (⟨k.blk, k.base + a.off, none⟩ : Addr).add (l * i.size))) (hb - l) (m' - l)) ?_ ?_
      · simp [Instr.sliceAt, run_underlying ht, Instr.sureAddr, hq, sizeOf, typeInfo, hI]
      · obtain ⟨ab, ao, asp⟩ := a
        simp only at hsp; subst hsp
        split
        · exact .sl ⟨k, ek, rfl, rfl, .inl rfl⟩
        · rw [addrAdd, addrAdd]; exact .sl ⟨k, ek, rfl, by simp [Nat.add_assoc], .inl rfl⟩
  | _ => cases hs

theorem indexAddr_ok (h : Rel ρ H w) {t e : TypeId} {i : TypeInfo} (ht : P.underlying t = some (.slice e)) (hi : P.info? e = some i) {x x' ix ix' v : Value}
    (hx : VRel ρ x x') (hix : VRel ρ ix ix') (hs : aindexAddr i.size x ix = some v) : SemOK P (Instr.indexAt t x' ix') ρ H w v H := by
  unfold aindexAddr at hs
  split at hs
  · rename_i a n c k j
    have := hix.int_inv; subst this
    split at hs
    · rename_i hlt
      simp only [Option.some.injEq] at hs; subst hs
      cases hx with
      | @sl _ a' _ _ c' hsl =>
        refine SemOK.same h (v' := .pointer (some (a'.add (j * i.size)))) ?_ (.ptr ((AddrRel.of_slice hsl).plus _))
        have : (j : Int) < n := by omega
        simp [Instr.indexAt, asIntOf, run_underlying ht, hlt, sizeOf, typeInfo, hi]
      | slEnd => omega
    · cases hs
  · cases hs

theorem indexAddrA_ok (h : Rel ρ H w) {t e : TypeId} {n : Nat} {i : TypeInfo} (ht : P.underlying t = some (.array n e)) (hi : P.info? e = some i) {x x' ix ix' v : Value}
    (hx : VRel ρ x x') (hix : VRel ρ ix ix') (hs : aindexAddrA n i.size x ix = some v) : SemOK P (Instr.indexAt t x' ix') ρ H w v H := by
  unfold aindexAddrA at hs
  split at hs
  · rename_i a k j
    have := hix.int_inv; subst this
    split at hs
    · rename_i hlt
      simp only [Option.some.injEq] at hs; subst hs
      cases hx with
      | @ptr _ a' ha =>
        refine SemOK.same h (v' := .pointer (some (a'.add (j * i.size)))) ?_ (.ptr (ha.plus _))
        simp [Instr.indexAt, asIntOf, run_underlying ht, Instr.sureAddr, hlt, sizeOf, typeInfo, hi]
    · cases hs
  · cases hs

theorem indexStr_ok (h : Rel ρ H w) {t : TypeId} (ht : P.underlying t = some .string) {x x' ix ix' v : Value}
    (hx : VRel ρ x x') (hix : VRel ρ ix ix') (hs : aindexStr x ix = some v) : SemOK P (Instr.index t x' ix') ρ H w v H := by
  unfold aindexStr at hs
  split at hs
  · rename_i s k j
    have := hix.int_inv; subst this
    have := hx.string_inv; subst this
    split at hs
    · rename_i b hb
      simp only [Option.some.injEq] at hs; subst hs
      refine SemOK.same h (v' := .int .u8 b.toNat) ?_ (.int _ _)
      simp [Instr.index, asIntOf, run_underlying ht, hb]
    · cases hs
  · cases hs

theorem part_ok (h : Rel ρ H w) {t : TypeId} {d : TypeDesc} {i : TypeInfo} (ht : P.underlying t = some d) (hi : P.info? t = some i) {cs cs' : Array Value} {off : Nat} {v : Value}
    (hx : VRels ρ cs.toList cs'.toList) (hs : apart (aggD d) off i.size (.agg cs) = some v) : SemOK P (part t cs' off) ρ H w v H := by
  cases hag : aggD d with
  | true =>
    rw [hag] at hs
    simp only [apart, cond_true, Option.some.injEq] at hs; subst hs
    refine SemOK.same h (v' := .agg (cs'.extract off (off + i.size))) ?_ (.agg ?_)
    · simp only [part, Sem.run_bind, run_isAgg ht, hag, Result.andThen_ok, if_true, sizeOf, typeInfo, run_program, hi, Sem.run_pure]
    · simp only [Array.toList_extract, List.extract_eq_take_drop]
      exact (hx.drop _).take _
  | false =>
    rw [hag] at hs
    simp only [apart, cond_false] at hs
    obtain ⟨v', e, r⟩ := hx.get? (i := off) (v := v) (by simpa using hs)
    refine SemOK.same h (v' := v') ?_ r
    have e' : cs'[off]? = some v' := by simpa using e
    simp only [part, Sem.run_bind, run_isAgg ht, hag, Result.andThen_ok, Bool.false_eq_true, if_false, e', Sem.run_pure]

theorem field_ok (h : Rel ρ H w) {t : TypeId} {fs : Array Field} {f : Field} {d : TypeDesc} {i : TypeInfo} {n : Nat} (ht : P.underlying t = some (.struct fs)) (hf : fs[n]? = some f)
    (hd : P.underlying f.type = some d) (hi : P.info? f.type = some i) {x x' v : Value} (hx : VRel ρ x x')
    (hs : apart (aggD d) f.offset i.size x = some v) : SemOK P (Instr.field t x' n) ρ H w v H := by
  cases hx with
  | agg hxs =>
    obtain ⟨ρ', v', w', hr, hv, hw⟩ := part_ok (P := P) h hd hi hxs hs
    refine ⟨ρ', v', w', ?_, hv, hw⟩
    simp [Instr.field, run_underlying ht, hf, asAgg, hr]
  | _ => simp [apart] at hs

theorem indexArr_ok (h : Rel ρ H w) {t e : TypeId} {d : TypeDesc} {n : Nat} {i : TypeInfo} (ht : P.underlying t = some (.array n e)) (hd : P.underlying e = some d) (hi : P.info? e = some i) {x x' ix ix' v : Value}
    (hx : VRel ρ x x') (hix : VRel ρ ix ix') (hs : aindexArr (aggD d) n i.size x ix = some v) : SemOK P (Instr.index t x' ix') ρ H w v H := by
  unfold aindexArr at hs
  split at hs
  · rename_i k j
    have := hix.int_inv; subst this
    split at hs
    · rename_i hlt
      cases hx with
      | @agg cs cs' hxs =>
        obtain ⟨ρ', v', w', hr, hv, hw⟩ := part_ok (P := P) h hd hi hxs hs
        refine ⟨ρ', v', w', ?_, hv, hw⟩
        simp [Instr.index, asIntOf, run_underlying ht, hlt, sizeOf, typeInfo, hi, hr]
      | _ => simp [apart] at hs
    · cases hs
  · cases hs

theorem fieldAddr_ok (h : Rel ρ H w) {t : TypeId} {fs : Array Field} {f : Field} {i : TypeInfo} {n : Nat} (ht : P.underlying t = some (.struct fs)) (hf : fs[n]? = some f)
    (hi : P.info? f.type = some i) (hz : i.size ≠ 0) {a a' : Addr} (ha : AddrRel ρ a a') : SemOK P (Instr.fieldAt t (.pointer (some a')) n) ρ H w (.pointer (some (a.add f.offset))) H := by
  refine SemOK.same h (v' := .pointer (some (a'.add f.offset))) ?_ (.ptr (ha.plus _))
  simp [Instr.fieldAt, run_underlying ht, hf, Instr.sureAddr, fieldPlace, sizeOf, typeInfo, hi, hz]

theorem VRels.flatten_replicate {ρ : Ren} {zs : List Value} (h : VRels ρ zs zs) (m : Nat) : VRels ρ (List.replicate m zs).flatten (List.replicate m zs).flatten := by
  induction m with
  | zero => exact .nil
  | succ m ih => simp only [List.replicate_succ, List.flatten_cons]; exact h.append ih

theorem range_zero_cells (zero : Array Value) (m : Nat) (hz : 0 < zero.size) :
    ((Array.range (m * zero.size)).map (fun j => zero[j % zero.size]!)).toList = (List.replicate m zero.toList).flatten := by
  induction m with
  | zero => simp
  | succ m ih =>
    have key : ((List.range ((m + 1) * zero.size)).map (fun j => zero[j % zero.size]!)) = (List.range (m * zero.size)).map (fun j => zero[j % zero.size]!) ++ zero.toList := by
      rw [Nat.add_mul, Nat.one_mul, List.range_add, List.map_append, List.map_map]
      congr 1
      apply List.ext_getElem?
      intro j
      by_cases hj : j < zero.size
      · simp [hj, Nat.mod_eq_of_lt hj]
      · simp [hj]
    have e1 : ∀ n, ((Array.range n).map (fun j => zero[j % zero.size]!)).toList = (List.range n).map (fun j => zero[j % zero.size]!) := by intro n; simp
    rw [e1] at ih ⊢
    rw [key, ih, List.replicate_succ', List.flatten_append]; simp

theorem makeSlice_ok (h : Rel ρ H w) {t e : TypeId} {i : TypeInfo} {z : Value} (ht : P.underlying t = some (.slice e)) (hi : P.info? e = some i) (hz : i.zero = some z) (hzc : z.cells.size = i.size) (hsz : 0 < i.size)
    (hzr : VRel ρ z z) {u8 : Bool} (hu8 : u8 = true → z.cells.toList = [byteV 0]) {l l' c c' v : Value} {H' : AH} (hl : VRel ρ l l') (hc : VRel ρ c c')
    (ha : amakeSlice i.size i.bytes z.cells.toList u8 H l c = some (v, H')) : SemOK P (Instr.makeSlice t l' c') ρ H w v H' := by
  unfold amakeSlice at ha
  split at ha
  · rename_i k1 n k2 m
    have := hl.int_inv; subst this
    have := hc.int_inv; subst this
    split at ha
    · rename_i hb
      simp only [Option.some.injEq, Prod.mk.injEq] at ha
      obtain ⟨rfl, rfl⟩ := ha
      have hm : m < maxRoom := by
        have := Nat.mul_le_mul_left m (show 1 ≤ i.bytes + 1 by omega); omega
      have hbm : i.bytes * m < maxRoom := by
        have : i.bytes * m ≤ m * (i.bytes + 1) := by rw [Nat.mul_comm]; exact Nat.mul_le_mul_left _ (Nat.le_succ _)
        omega
      unfold maxRoom at hm hbm
      have wn : IntKind.i64.wrap (n : Int) = n := by simp [IntKind.wrap, IntKind.bits, IntKind.signed]; omega
      have wm : IntKind.i64.wrap (m : Int) = m := by simp [IntKind.wrap, IntKind.bits, IntKind.signed]; omega
      have hbm' : ¬ ((281474976710656 : Int) < (i.bytes : Int) * (m : Int)) := by
        have : ((i.bytes * m : Nat) : Int) = (i.bytes : Int) * (m : Int) := by simp
        rw [← this]; omega
      generalize hO : (bif u8 then AObj.bytes m 0 0 false else AObj.cells (List.replicate m z.cells.toList).flatten 0 false) = O
      have hvals : O.vals = (List.replicate m z.cells.toList).flatten := by
        subst hO
        cases u8 with
        | false => rfl
        | true =>
          rw [hu8 rfl]
          simp only [cond_true, AObj.vals]
          apply List.ext_getElem?
          intro j
          rw [natCells_get?]
          by_cases hj : j < m
          · rw [if_pos hj]; simp [hj, nbyte]
          · rw [if_neg hj]; simp [Nat.le_of_not_lt hj]
      have hO2 : O.isMap = false ∧ O.loose = 0 := by subst hO; cases u8 <;> exact ⟨rfl, rfl⟩
      obtain ⟨k, h1, h2, h3, h4, h5, hw⟩ := newRow_ok h (o := O) (cs' := (List.replicate m z.cells.toList).flatten) [] e hO2.1 (by rw [hvals]; exact (VRels.flatten_replicate hzr.cells m))
      refine ⟨_, .slice (some ⟨w.heap.size, 0, none⟩) n m, _, ?_, .sl ⟨k, by simp [Ren.put], rfl, by simp [h1, h2], .inl rfl⟩, hw⟩
      have hzeroes := range_zero_cells z.cells m (by omega)
      rw [hzc] at hzeroes
      have harr : (Array.range (m * i.size)).map (fun j => z.cells[j % i.size]!) = (List.replicate m z.cells.toList).flatten.toArray := by
        apply Array.ext'; rw [hzeroes]
      by_cases hm0 : m = 0
      · subst hm0
        have hn0 : n = 0 := by omega
        subst hn0
        have w0 : IntKind.i64.wrap 0 = 0 := by decide
        simp [Instr.makeSlice, run_underlying ht, asInt, asIntOf, typeInfo, hi, w0, sizeOf, newRow, Array.range_zero']
      · have hms : m * i.size ≠ 0 := by
          have := Nat.mul_le_mul (show 1 ≤ m by omega) (show 1 ≤ i.size by omega); omega
        have hnn : ¬ ((n : Int) < 0) := by omega
        have hmn : ¬ ((m : Int) < 0) := by omega
        have hnm : ¬ ((m : Int) < (n : Int)) := by omega
        simp [Instr.makeSlice, run_underlying ht, asInt, asIntOf, typeInfo, hi, hz, wn, wm, sizeOf, newRow, hbm', hms, hnn, hmn, hnm, zeroValue]
        rw [hzc, harr]
    · cases ha
  · cases ha

theorem run_lenOf? {x x' : Value} {k : Nat} (hx : VRel ρ x x') (hk : lenOf? x = some k) (w : World) : (Builtin.lenOf x').run P w = .ok k w := by
  cases hx <;> simp only [lenOf?, Option.some.injEq] at hk <;> first | (cases hk; done) | (subst hk; rfl) | skip

theorem firstCells_zero {size : Nat} {x x' : Value} {k : Nat} (hx : VRel ρ x x') (hk : lenOf? x = some k) (w : World) : (Builtin.firstCells size 0 x').run P w = .ok #[] w := by
  cases hx <;> simp only [lenOf?, Option.some.injEq] at hk <;> first | (cases hk; done) | (simp [Builtin.firstCells, loadCells, loadCellsFrom]; done) | skip

theorem srcChunk_ok (h : Rel ρ H w) {size m : Nat} {x x' : Value} {ch : Chunk} (hx : VRel ρ x x') (hc : srcChunk size H x m = some ch) (hm : 0 < m) (hms : 0 < size) :
    ∃ vs', VRels ρ ch.cells vs' ∧ (Builtin.firstCells size m x').run P w = .ok vs'.toArray w := by
  cases hx with
  | nils n c => simp only [srcChunk] at hc; rw [if_neg (by omega)] at hc; cases hc
  | @sl a a' n c c' hs =>
    simp only [srcChunk] at hc
    split at hc
    · rename_i o ho
      obtain ⟨l, el, hsp, rfl, _⟩ := hs
      obtain ⟨vs', hr, hlen, hcell⟩ := h.chunk ho el hc
      refine ⟨vs', hr, ?_⟩
      have := run_loadCells_list (P := P) w ⟨l.blk, l.base + a.off, none⟩ vs' (fun j v e => by rw [addrAdd]; exact hcell j v e)
      rw [hlen] at this
      simpa [Builtin.firstCells] using this
    · cases hc
  | @slEnd a a' l e hs hl he =>
    exfalso
    simp only [srcChunk] at hc
    split at hc
    · rename_i o ho
      have hsp := (AObj.chunk_spec hc).1
      obtain ⟨l', el', hobj⟩ := h.obj _ _ ho
      rw [e] at el'; cases el'
      have hks : l.size = o.size := by
        cases o with
        | map es => have := hobj.1.2.2; omega
        | loop es => have := hobj.1.2.2; omega
        | cells vs lo ro => exact hobj.1.size.symm
        | bytes len x lo ro => rw [← hobj.1.size, AObj.vals_length]
      have : 1 ≤ m * size := Nat.mul_le_mul (show 1 ≤ m by omega) (show 1 ≤ size by omega)
      omega
    · cases hc
  | string s =>
    simp only [srcChunk] at hc
    split at hc
    · simp only [Option.some.injEq] at hc; subst hc
      refine ⟨_, VRels.map_same _ _ fun b _ => .int _ _, ?_⟩
      simp only [Builtin.firstCells, Sem.run_pure, Result.ok.injEq, and_true]
      apply Array.ext'
      simp [List.extract_eq_take_drop]
    · cases hc
  | _ => cases hc

theorem copy_ok (h : Rel ρ H w) {t u ty e : TypeId} {i : TypeInfo} (ht : P.underlying t = some (.slice e)) (hi : P.info? e = some i) (hsz : 0 < i.size) {d d' x x' v : Value} {H' : AH} (hd : VRel ρ d d') (hx : VRel ρ x x')
    (ha : acopy i.size H d x = some (v, H')) : SemOK P (Builtin.copy_ #[t, u] ty #[d', x']) ρ H w v H' := by
  have hrun : ∀ (base : Option Addr) (dLen c k : Nat), lenOf? x = some k →
      (Builtin.copy_ #[t, u] ty #[.slice base dLen c, x']).run P w = ((Builtin.firstCells i.size (Nat.min k dLen) x').run P w).andThen fun cells w' =>
        (match base with | some a => (storeCells a cells.toList).run P w' | none => .ok () w').andThen fun _ w'' => .ok (goInt (Nat.min k dLen : Nat)) w'' := by
    intro base dLen c k hk
    have hl := run_lenOf? (P := P) hx hk w
    cases base <;> simp [Builtin.copy_, run_underlying ht, hl, sizeOf, typeInfo, hi]
  unfold acopy at ha
  split at ha
  · rename_i n c k hk
    split at ha
    · rename_i hz
      simp only [Option.some.injEq, Prod.mk.injEq] at ha
      obtain ⟨rfl, rfl⟩ := ha
      cases hd
      refine SemOK.same h ?_ (.int .i64 0)
      rw [hrun none n c k hk, hz, firstCells_zero hx hk]; rfl
    · cases ha
  · rename_i a n c k hk
    split at ha
    · rename_i hz
      simp only [Option.some.injEq, Prod.mk.injEq] at ha
      obtain ⟨rfl, rfl⟩ := ha
      cases hd with
      | @sl _ a' _ _ c' hs =>
        refine SemOK.same h ?_ (.int .i64 0)
        rw [hrun (some a') n c' k hk, hz, firstCells_zero hx hk]; rfl
      | @slEnd _ a' l e2 hs hl he =>
        refine SemOK.same h ?_ (.int .i64 0)
        rw [hrun (some a') 0 0 k hk, hz, firstCells_zero hx hk]; rfl
    · rename_i hz
      split at ha
      · rename_i o ch ho hch
        cases hp : o.put a.off ch with
        | none => rw [hp] at ha; cases ha
        | some o' =>
          rw [hp] at ha
          simp only [Option.map_some, Option.some.injEq, Prod.mk.injEq] at ha
          obtain ⟨rfl, rfl⟩ := ha
          obtain ⟨vs', hr, hfc⟩ := srcChunk_ok (P := P) h hx hch (by omega) hsz
          cases hd with
          | @sl _ a' _ _ c' hs =>
            obtain ⟨ρ', w', hst, hw⟩ := storeCells_ok (P := P) h (AddrRel.of_slice hs) ho hp hr
            refine ⟨ρ', _, w', ?_, .int .i64 _, hw⟩
            rw [hrun (some a') n c' k hk, hfc]
            simp only [Result.andThen_ok, hst]
            rfl
          | slEnd => exact absurd (Nat.min_eq_right (Nat.zero_le _)) hz
      · cases ha
  · cases ha

end
end Go.Ads
/- Each operation of the model does to the world what its twin does to the abstract heap: literals, maps. -/
namespace Go.Ads
noncomputable section
variable {P : Program} {ρ : Ren} {H : AH} {w : World}

/-- Parts of a literal. -/
inductive PRel (ρ : Ren) : List (Nat × Value) → List (Nat × Value) → Prop
  | nil : PRel ρ [] []
  | cons {i : Nat} {v v' : Value} {l l' : List (Nat × Value)} (h : VRel ρ v v') (t : PRel ρ l l') : PRel ρ ((i, v) :: l) ((i, v') :: l')

theorem setAll_rel (off : Nat) : ∀ (vs vs' : List Value) (k : Nat) (cs cs' : Array Value), VRels ρ vs vs' → VRels ρ cs.toList cs'.toList →
    VRels ρ ((vs.zipIdx k).foldl (fun c (x : Value × Nat) => c.setIfInBounds (off + x.2) x.1) cs).toList ((vs'.zipIdx k).foldl (fun c (x : Value × Nat) => c.setIfInBounds (off + x.2) x.1) cs').toList := by
  intro vs
  induction vs with
  | nil => intro vs' k cs cs' h hc; cases h; exact hc
  | cons v vs ih =>
    intro vs' k cs cs' h hc
    cases h with | cons h1 h2 =>
    simp only [List.zipIdx_cons, List.foldl_cons]
    refine ih _ _ _ _ h2 ?_
    rw [Array.toList_setIfInBounds, Array.toList_setIfInBounds]
    exact hc.set _ h1

theorem foldl_zipIdx {β : Type} (a : Array Value) (f : β → Value × Nat → β) (b : β) : a.zipIdx.foldl f b = a.toList.zipIdx.foldl f b := by
  rw [← Array.foldl_toList]; simp [Array.toList_zipIdx]

theorem fill_rel (place : Nat → Option (Nat × Nat)) : ∀ (ps ps' : List (Nat × Value)) (cs cs' r : Array Value), PRel ρ ps ps' → VRels ρ cs.toList cs'.toList →
    Instr.fill place cs ps = some r → ∃ r', Instr.fill place cs' ps' = some r' ∧ VRels ρ r.toList r'.toList := by
  intro ps
  induction ps with
  | nil => intro ps' cs cs' r h hc e; cases h; simp only [Instr.fill, Option.some.injEq] at e ⊢; subst e; exact ⟨_, rfl, hc⟩
  | cons p ps ih =>
    intro ps' cs cs' r h hc e
    cases h with
    | @cons i v v' _ l' h1 h2 =>
    simp only [Instr.fill] at e ⊢
    cases hp : place i with
    | none => rw [hp] at e; cases e
    | some os =>
      obtain ⟨off, size⟩ := os
      rw [hp] at e
      simp only at e ⊢
      have hcv := h1.cells
      have hsz : v'.cells.size = v.cells.size := by simpa using hcv.length
      have hcs : cs'.size = cs.size := by simpa using hc.length
      rw [hsz, hcs]
      split at e
      · cases e
      · rename_i hne
        rw [if_neg hne]
        refine ih l' _ _ r h2 ?_ e
        have := setAll_rel off v.cells.toList v'.cells.toList 0 cs cs' hcv hc
        rw [foldl_zipIdx, foldl_zipIdx]
        exact this

def abuild (zero : Array Value) (place : Nat → Option (Nat × Nat)) (ps : List (Nat × Value)) : Option Value := (Instr.fill place zero ps).map .agg

/-- The places of a struct's fields. -/
def placesOf (P : Program) (fs : List Field) : Option (List (Nat × Nat)) :=
  match fs with
  | [] => some []
  | f :: fs => match P.info? f.type, placesOf P fs with
    | some i, some l => some ((f.offset, i.size) :: l)
    | _, _ => none

theorem run_places {fs : List Field} : ∀ {l : List (Nat × Nat)}, placesOf P fs = some l → ∀ w : World,
    (fs.mapM (m := Sem) fun f => Prod.mk f.offset <$> sizeOf f.type).run P w = .ok l w := by
  induction fs with
  | nil => intro l h w; simp only [placesOf, Option.some.injEq] at h; subst h; rfl
  | cons f fs ih =>
    intro l h w
    simp only [placesOf] at h
    split at h
    · rename_i i l2 hi hl
      simp only [Option.some.injEq] at h; subst h
      have hs : (Prod.mk f.offset <$> sizeOf f.type : Sem (Nat × Nat)).run P w = .ok (f.offset, i.size) w := by simp [sizeOf, typeInfo, hi]
      rw [List.mapM_cons, Sem.run_bind, hs, Result.andThen_ok, Sem.run_bind, ih hl w]
      rfl
    · cases h

theorem build_ok (h : Rel ρ H w) {t : TypeId} {fs : Array Field} {i : TypeInfo} {z : Value} {l : List (Nat × Nat)} (ht : P.underlying t = some (.struct fs)) (hi : P.info? t = some i) (hz : i.zero = some z)
    (hl : placesOf P fs.toList = some l) (hzr : VRel ρ z z) {ps ps' : List (Nat × Value)} {v : Value} (hp : PRel ρ ps ps') (hs : abuild z.cells (l[·]?) ps = some v) :
    SemOK P (Instr.build t ps'.toArray) ρ H w v H := by
  unfold abuild at hs
  cases hf : Instr.fill (l[·]?) z.cells ps with
  | none => rw [hf] at hs; cases hs
  | some r =>
    rw [hf] at hs
    simp only [Option.map_some, Option.some.injEq] at hs; subst hs
    obtain ⟨r', hr', hrr⟩ := fill_rel _ ps ps' _ _ r hp hzr.cells hf
    refine SemOK.same h (v' := .agg r') ?_ (.agg hrr)
    have := run_places (P := P) hl w
    simp [Instr.build, zeroValue, typeInfo, hi, hz, run_underlying ht, Array.mapM_eq_mapM_toList, this, hr']

theorem buildArr_ok (h : Rel ρ H w) {t e : TypeId} {n : Nat} {i ie : TypeInfo} {z : Value} (ht : P.underlying t = some (.array n e)) (hi : P.info? t = some i) (hz : i.zero = some z) (he : P.info? e = some ie)
    (hzr : VRel ρ z z) {ps ps' : List (Nat × Value)} {v : Value} (hp : PRel ρ ps ps') (hs : abuild z.cells (fun j => some (j * ie.size, ie.size)) ps = some v) :
    SemOK P (Instr.build t ps'.toArray) ρ H w v H := by
  unfold abuild at hs
  cases hf : Instr.fill (fun j => some (j * ie.size, ie.size)) z.cells ps with
  | none => rw [hf] at hs; cases hs
  | some r =>
    rw [hf] at hs
    simp only [Option.map_some, Option.some.injEq] at hs; subst hs
    obtain ⟨r', hr', hrr⟩ := fill_rel _ ps ps' _ _ r hp hzr.cells hf
    refine SemOK.same h (v' := .agg r') ?_ (.agg hrr)
    simp [Instr.build, zeroValue, typeInfo, hi, hz, run_underlying ht, sizeOf, he, hr']

def abuildSlice (u8 : Bool) (size len : Nat) (zero : List Value) (H : AH) (ps : List (Nat × Value)) : Option (Value × AH) :=
  if len * size < 2 ^ 20 then
    match Instr.fill (fun j => some (j * size, size)) (List.replicate len zero).flatten.toArray ps with
    | none => none
    | some r => match (bif u8 then (natOf r.toList).map fun m => AObj.bytes len m 0 false else some (.cells r.toList 0 false)) with
      | none => none
      | some o => some (.slice (some ⟨H.next, 0, none⟩) len len, H.push o)
  else none

theorem buildSlice_ok (h : Rel ρ H w) {t e : TypeId} {i : TypeInfo} {z : Value} (ht : P.underlying t = some (.slice e)) (hi : P.info? e = some i) (hz : i.zero = some z) (hzc : z.cells.size = i.size) (hsz : 0 < i.size)
    (hzr : VRel ρ z z) (u8 : Bool) (hu8 : u8 = true → i.size = 1) {len : Nat} {ps ps' : List (Nat × Value)} {v : Value} {H' : AH} (hp : PRel ρ ps ps') (hs : abuildSlice u8 i.size len z.cells.toList H ps = some (v, H')) :
    SemOK P (Instr.buildSlice t len ps'.toArray) ρ H w v H' := by
  unfold abuildSlice at hs
  split at hs
  · rename_i hb
    split at hs
    · cases hs
    · rename_i r hf
      split at hs
      · cases hs
      · rename_i o ho
        simp only [Option.some.injEq, Prod.mk.injEq] at hs
        obtain ⟨rfl, rfl⟩ := hs
        obtain ⟨r', hr', hrr⟩ := fill_rel _ ps ps' _ (List.replicate len z.cells.toList).flatten.toArray r hp (by simpa using VRels.flatten_replicate hzr.cells len) hf
        have hrsz : ∀ (ps : List (Nat × Value)) (cs r : Array Value), Instr.fill (fun j => some (j * i.size, i.size)) cs ps = some r → r.size = cs.size := by
          intro ps
          induction ps with
          | nil => intro cs r e; simp only [Instr.fill, Option.some.injEq] at e; rw [← e]
          | cons p ps ih =>
            intro cs r e
            simp only [Instr.fill] at e
            split at e
            · cases e
            · rw [ih _ _ e]
              have : ∀ (l : List (Value × Nat)) (c : Array Value), (l.foldl (fun c (x : Value × Nat) => c.setIfInBounds (p.1 * i.size + x.2) x.1) c).size = c.size := by
                intro l
                induction l with
                | nil => intro c; rfl
                | cons x l ih2 => intro c; rw [List.foldl_cons, ih2, Array.size_setIfInBounds]
              have := this (p.2.cells.toList.zipIdx) cs
              rw [foldl_zipIdx]
              exact this
        have hlen : r.toList.length = len * i.size := by
          have := hrsz _ _ _ hf
          rw [Array.length_toList, this]
          have e2 := range_zero_cells z.cells len (by omega)
          have e3 := congrArg List.length e2
          simp only [Array.length_toList, Array.size_map, Array.size_range] at e3
          rw [List.size_toArray, ← e3, hzc]
        have hov : o.vals = r.toList ∧ o.isMap = false ∧ o.loose = 0 := by
          cases u8 with
          | false => simp only [cond_false, Option.some.injEq] at ho; subst ho; exact ⟨rfl, rfl, rfl⟩
          | true =>
            simp only [cond_true] at ho
            cases hn : natOf r.toList with
            | none => rw [hn] at ho; cases ho
            | some m =>
              rw [hn] at ho
              simp only [Option.map_some, Option.some.injEq] at ho; subst ho
              refine ⟨?_, rfl, rfl⟩
              apply List.ext_getElem?
              intro j
              rw [natOf_cells _ _ hn j, AObj.vals, natCells_get?, hlen, hu8 rfl, Nat.mul_one]
        obtain ⟨k, h1, h2, h3, h4, h5, hw⟩ := newRow_ok h (o := o) (cs' := r'.toList) [] e hov.2.1 (by rw [hov.1]; exact hrr)
        refine ⟨_, .slice (some ⟨w.heap.size, 0, none⟩) len len, _, ?_, .sl ⟨k, by simp [Ren.put], rfl, by simp [h1, h2], .inl rfl⟩, hw⟩
        have hzeroes := range_zero_cells z.cells len (by omega)
        rw [hzc] at hzeroes
        have harr : (Array.range (len * i.size)).map (fun j => z.cells[j % i.size]!) = (List.replicate len z.cells.toList).flatten.toArray := by
          apply Array.ext'; rw [hzeroes]
        have hbig : ¬ (16777216 < len * i.size) := by omega
        by_cases h0 : len = 0
        · subst h0
          have hr0 : Instr.fill (fun j => some (j * i.size, i.size)) #[] ps' = some r' := by simpa using hr'
          simp [Instr.buildSlice, run_underlying ht, sizeOf, typeInfo, hi, newRow, Array.range_zero', hr0]
        · have hms : len * i.size ≠ 0 := by
            have := Nat.mul_le_mul (show 1 ≤ len by omega) (show 1 ≤ i.size by omega); omega
          simp [Instr.buildSlice, run_underlying ht, sizeOf, typeInfo, hi, hz, newRow, hbig, hms, zeroValue]
          rw [hzc, harr, hr']
          simp
  · cases hs

/- Maps. The keys that are served: integers, strings, bools, structs of these. -/
def scalar : Value → Bool
  | .int _ _ | .bool _ | .string _ => true
  | _ => false

theorem VRel.scalar_eq {v v' : Value} (h : VRel ρ v v') (hs : scalar v = true) : v' = v := by cases h <;> first | rfl | (simp [scalar] at hs)

def sameScalar : Value → Value → Option Bool
  | .int k a, .int k' b => if k = k' then some (a == b) else none
  | .string a, .string b => some (a.data.toList == b.data.toList)
  | .bool a, .bool b => some (a == b)
  | _, _ => none

/-- Where a key stands. -/
def afind (k : Value) : List (Value × Value) → Nat → Option (Option Nat)
  | [], _ => some none
  | e :: es, i => match sameScalar k e.1 with
    | some true => some (some i)
    | some false => afind k es (i + 1)
    | none => none

def alookup (zero : Value) (ok : Bool) (H : AH) (x k : Value) : Option Value :=
  let r := match x with
    | .map none => if scalar k then some none else none
    | .map (some b) => match H.get b with
      | some (.map es) => match afind k es 0 with
        | some none => if scalar k then some none else none
        | some (some i) => (es[i]?).map fun e => some e.2
        | none => none
      | _ => none
    | _ => none
  match r with
  | some none => some (bif ok then .tuple #[zero, .bool false] else zero)
  | some (some v) => some (bif ok then .tuple #[v, .bool true] else v)
  | none => none

def amapUpdate (H : AH) (x k v : Value) : Option AH :=
  match x with
  | .map (some b) => match H.get b with
    | some (.map es) => if scalar k then (match afind k es 0 with
      | some none => some (H.set b (.map (es ++ [(k, v)])))
      | some (some i) => some (H.set b (.map (es.set i (k, v))))
      | none => none) else none
    | _ => none
  | _ => none

/-- The key's type: integers, strings or bools. -/
def keyKind : TypeDesc → Bool
  | .int _ | .string | .bool => true
  | _ => false

theorem sameNow_of {d : TypeDesc} {k e : Value} {r : Bool} (hd : keyKind d = true) (hs : sameScalar k e = some r)
    (hk : match d, k with | .int _, .int _ _ => True | .string, .string _ => True | .bool, .bool _ => True | _, _ => False) : Instr.sameNow d k e = some r := by
  unfold sameScalar at hs
  split at hs
  · rename_i a b c d'
    cases d <;> simp only at hk
    simpa [Instr.sameNow] using hs
  · cases d <;> simp only at hk
    simp only [Option.some.injEq] at hs
    subst hs
    rename_i a b
    simp only [Instr.sameNow, Option.some.injEq]
    rw [beq_toListBytes, ByteArray.toList_eq, ByteArray.toList_eq]
  · cases d <;> simp only at hk
    simpa [Instr.sameNow] using hs
  · cases hs

/-- Does a key fit its type? -/
def keyFits : TypeDesc → Value → Bool
  | .int _, .int _ _ => true
  | .string, .string _ => true
  | .bool, .bool _ => true
  | _, _ => false

theorem keyFits_scalar {d : TypeDesc} {k : Value} (h : keyFits d k = true) : scalar k = true := by
  cases d <;> cases k <;> first | rfl | (simp [keyFits] at h)

theorem sameNow_fits {d : TypeDesc} {k e : Value} {r : Bool} (hd : keyFits d k = true) (hs : sameScalar k e = some r) : Instr.sameNow d k e = some r := by
  refine sameNow_of ?_ hs ?_
  · cases d <;> cases k <;> first | rfl | (simp [keyFits] at hd)
  · cases d <;> cases k <;> first | trivial | (simp [keyFits] at hd)

theorem sameScalar_scalar {k e : Value} {r : Bool} (h : sameScalar k e = some r) : scalar e = true := by
  unfold sameScalar at h; split at h <;> first | rfl | (cases h)

theorem findNow_of {d : TypeDesc} {k : Value} (hd : keyFits d k = true) : ∀ {es : List (Value × Value)} {l : List MapEntry} {i : Nat} {r : Option Nat}, ERel ρ es l → afind k es i = some r →
    ∃ r', Instr.findNow d k l i = some r' ∧ (match r with | none => r' = none | some j => ∃ e : MapEntry, r' = some (j, e.val) ∧ i ≤ j ∧ l[j - i]? = some e ∧ ∃ kv, es[j - i]? = some kv ∧ VRel ρ kv.2 e.val ∧ e.key = k) := by
  intro es
  induction es with
  | nil =>
    intro l i r h e
    cases h
    simp only [afind, Option.some.injEq] at e; subst e
    exact ⟨none, rfl, rfl⟩
  | cons kv es ih =>
    intro l i r h e
    cases h with
    | @cons k0 v0 en _ l2 hk hv ht =>
    simp only [afind] at e
    cases hs : sameScalar k k0 with
    | none => rw [hs] at e; cases e
    | some b =>
      rw [hs] at e
      have hke : en.key = k0 := hk.scalar_eq (sameScalar_scalar hs)
      have hnow := sameNow_fits hd hs
      cases b with
      | true =>
        simp only [Option.some.injEq] at e; subst e
        refine ⟨some (i, en.val), by simp [Instr.findNow, hke, hnow], en, rfl, Nat.le_refl _, by simp, (k0, v0), by simp, hv, ?_⟩
        rw [hke]
        have hsc := keyFits_scalar hd
        unfold sameScalar at hs
        split at hs
        · split at hs
          · rename_i hkk; subst hkk; simp only [Option.some.injEq, beq_iff_eq] at hs; rw [hs]
          · cases hs
        · simp only [Option.some.injEq, beq_iff_eq] at hs
          rename_i a b
          obtain ⟨⟨a⟩⟩ := a; obtain ⟨⟨b⟩⟩ := b
          simp only at hs; subst hs; rfl
        · simp only [Option.some.injEq, beq_iff_eq] at hs; rw [hs]
        · cases hs
      | false =>
        simp only at e
        obtain ⟨r', h1, h2⟩ := ih ht e
        refine ⟨r', by simp [Instr.findNow, hke, hnow, h1], ?_⟩
        cases r with
        | none => exact h2
        | some j =>
          obtain ⟨e2, h3, h4, h5, kv2, h6, h7, h8⟩ := h2
          have hj : j - i = (j - (i + 1)) + 1 := by omega
          exact ⟨e2, h3, by omega, by rw [hj]; simpa using h5, kv2, by rw [hj]; simpa using h6, h7, h8⟩

theorem run_checkKey {d : TypeDesc} {key : TypeId} {k : Value} (hk : P.underlying key = some d) (hd : keyFits d k = true) (b : Bool) (w : World) : (Instr.checkKey b 10000 key k).run P w = .ok () w := by
  have key : ∀ n : Nat, (Instr.checkKey b (n + 1) key k).run P w = .ok () w := by
    intro n
    unfold Instr.checkKey
    rw [Sem.run_bind, run_underlying hk, Result.andThen_ok]
    cases d <;> cases k <;> simp [keyFits] at hd <;> rfl
  exact key 9999

theorem run_getObj_map {b : Nat} {c : Array MapEntry} {clock : Nat} (h : w.heap[b]? = some (.map c clock)) : (getObj b).run P w = .ok (.map c clock) w := by
  simp only [getObj, Sem.run, h]

/-- A map's block in the world. -/
theorem Rel.mapAt (h : Rel ρ H w) {b : Nat} {l : Loc} {es : List (Value × Value)} (hb : H.get b = some (.map es)) (hl : ρ b = some l) :
    ∃ c clock, w.heap[l.blk]? = some (.map c clock) ∧ MapRel ρ es c := by
  obtain ⟨l', el, _, c, k, e, m⟩ := h.obj b _ hb
  rw [hl] at el; cases el
  exact ⟨c, k, e, m⟩

theorem lookup_ok (h : Rel ρ H w) {t key elem : TypeId} {d : TypeDesc} {i : TypeInfo} {z : Value} (ht : P.underlying t = some (.map key elem)) (hk : P.underlying key = some d) (hi : P.info? elem = some i) (hz : i.zero = some z)
    (hzr : VRel ρ z z) {x x' k k' v : Value} {ok : Bool} (hx : VRel ρ x x') (hkr : VRel ρ k k') (hd : keyFits d k = true) (hs : alookup z ok H x k = some v) :
    SemOK P (Instr.lookup t x' k' ok) ρ H w v H := by
  have hke := hkr.scalar_eq (keyFits_scalar hd)
  subst hke
  have hout : ∀ {u u' : Value} {b : Bool}, VRel ρ u u' → VRel ρ (bif ok then .tuple #[u, .bool b] else u) (if ok = true then .tuple #[u', .bool b] else u') := by
    intro u u' b hu
    cases ok with
    | true => exact .tuple (.cons hu (.cons (.bool b) .nil))
    | false => exact hu
  unfold alookup at hs
  cases hx with
  | nilm =>
    simp only [keyFits_scalar hd, if_true, Option.some.injEq] at hs
    subst hs
    refine SemOK.same h ?_ (hout hzr)
    simp [Instr.lookup, run_underlying ht, run_checkKey hk hd, Instr.findKey, run_underlying hk, Instr.findNow, zeroValue, typeInfo, hi, hz]
  | @map b l hl =>
    dsimp only at hs
    cases hb : H.get b with
    | none => rw [hb] at hs; simp at hs
    | some o =>
      rw [hb] at hs
      cases o with
      | map es =>
        simp only at hs
        obtain ⟨c, clock, hc, hm⟩ := h.mapAt hb hl
        cases hf : afind k' es 0 with
        | none => rw [hf] at hs; simp at hs
        | some r =>
          rw [hf] at hs
          obtain ⟨r', hfn, hres⟩ := findNow_of hd hm hf
          cases r with
          | none =>
            simp only [keyFits_scalar hd, if_true, Option.some.injEq] at hs
            subst hs
            simp only at hres
            subst hres
            refine SemOK.same h ?_ (hout hzr)
            simp [Instr.lookup, run_underlying ht, run_getObj_map hc, run_checkKey hk hd, Instr.findKey, run_underlying hk, hfn, zeroValue, typeInfo, hi, hz]
          | some j =>
            simp only at hres
            obtain ⟨e, rfl, _, he, kv, hkv, hvr, _⟩ := hres
            simp only [Nat.sub_zero] at he hkv
            dsimp only at hs
            rw [hkv] at hs
            simp only [Option.map_some, Option.some.injEq] at hs
            subst hs
            refine SemOK.same h ?_ (hout hvr)
            simp [Instr.lookup, run_underlying ht, run_getObj_map hc, run_checkKey hk hd, Instr.findKey, run_underlying hk, hfn]
      | cells => simp at hs
      | bytes => simp at hs
      | loop => simp at hs
  | _ => simp at hs

theorem ERel.append {es es2 : List (Value × Value)} {l l2 : List MapEntry} (h : ERel ρ es l) (k : ERel ρ es2 l2) : ERel ρ (es ++ es2) (l ++ l2) := by
  induction h with
  | nil => exact k
  | cons hk hv _ ih => exact .cons hk hv ih

theorem ERel.set {es : List (Value × Value)} {l : List MapEntry} (h : ERel ρ es l) : ∀ (i : Nat) (k v : Value) (e : MapEntry), VRel ρ k e.key → VRel ρ v e.val → ERel ρ (es.set i (k, v)) (l.set i e) := by
  induction h with
  | nil => intro i k v e _ _; exact .nil
  | cons hk hv ht ih =>
    intro i k v e h1 h2
    cases i with
    | zero => exact .cons h1 h2 ht
    | succ i => exact .cons hk hv (ih i k v e h1 h2)

theorem sameBits_scalar {k : Value} (hs : scalar k = true) : Instr.sameBits 10000 k k = true := by
  cases k <;> simp [scalar] at hs <;> simp [Instr.sameBits, beq_toListBytes]

theorem mapUpdate_ok (h : Rel ρ H w) {t key elem : TypeId} {d : TypeDesc} (ht : P.underlying t = some (.map key elem)) (hk : P.underlying key = some d)
    {x x' k k' v v' : Value} {H' : AH} (hx : VRel ρ x x') (hkr : VRel ρ k k') (hvr : VRel ρ v v') (hd : keyFits d k = true) (hs : amapUpdate H x k v = some H') :
    SemOKu P (Instr.mapUpdate t x' k' v') ρ H w H' := by
  have hsc := keyFits_scalar hd
  have hke := hkr.scalar_eq hsc
  subst hke
  unfold amapUpdate at hs
  split at hs
  · rename_i b
    cases hx with
    | @map _ l hl =>
      split at hs
      · rename_i es hb
        rw [if_pos hsc] at hs
        obtain ⟨c, clock, hc, hm⟩ := h.mapAt hb hl
        have hset : ∀ o : Obj, (setObj l.blk o).run P w = .ok () { w with heap := w.heap.setIfInBounds l.blk o } := by
          intro o; simp only [setObj, Sem.run, hc]
        split at hs
        · rename_i hf
          simp only [Option.some.injEq] at hs; subst hs
          obtain ⟨r', hfn, hres⟩ := findNow_of hd hm hf
          simp only at hres; subst hres
          refine ⟨ρ, _, ?_, h.mapSet hb hl (clock + 1) (c' := c.push { key := k', val := v', born := clock }) ?_⟩
          · simp [Instr.mapUpdate, run_underlying ht, run_getObj_map hc, run_checkKey hk hd, Instr.findKey, run_underlying hk, hfn, hset]
          · unfold MapRel; rw [Array.toList_push]; exact ERel.append hm (.cons hkr hvr .nil)
        · rename_i i hf
          simp only [Option.some.injEq] at hs; subst hs
          obtain ⟨r', hfn, hres⟩ := findNow_of hd hm hf
          simp only at hres
          obtain ⟨e, rfl, _, he, kv, hkv, _, hek⟩ := hres
          simp only [Nat.sub_zero] at he hkv
          refine ⟨ρ, _, ?_, h.mapSet hb hl clock (c' := c.modify i fun e => { e with key := k', val := v' }) ?_⟩
          · have he' : c[i]? = some e := by simpa using he
            simp [Instr.mapUpdate, run_underlying ht, run_getObj_map hc, run_checkKey hk hd, Instr.findKey, run_underlying hk, hfn, hset, he', hek, Instr.keyThatStays, sameBits_scalar hsc]
          · unfold MapRel
            rw [Array.toList_modify]
            have : c.toList.modify i (fun e => { e with key := k', val := v' }) = c.toList.set i { e with key := k', val := v' } := by
              apply List.ext_getElem?
              intro j
              rw [List.getElem?_modify, List.getElem?_set]
              by_cases hij : i = j
              · subst hij
                have hlt := (List.getElem?_eq_some_iff.1 he).1
                have hlt' : i < c.size := by simpa using hlt
                have hce : c[i]'hlt' = e := by have := (List.getElem?_eq_some_iff.1 he).2; simpa using this
                simp [hlt', hce]
              · simp [hij]
            rw [this]
            exact ERel.set hm i _ _ _ hkr hvr
        · cases hs
      · cases hs
  · cases hs

theorem makeMap_ok (h : Rel ρ H w) {t : TypeId} : SemOK P (Instr.makeMap t none) ρ H w (.map (some H.next)) (H.push (.map [])) := by
  have hw := h.push (.map []) (.map #[] 0) ⟨w.heap.size, 0, 1, 1, 0⟩ rfl ⟨⟨rfl, rfl, rfl⟩, #[], 0, alloc_new _ _, .nil⟩
  exact ⟨_, .map (some w.heap.size), _, by simp [Instr.makeMap], .map (l := ⟨w.heap.size, 0, 1, 1, 0⟩) (by simp [Ren.put]), hw⟩

end
end Go.Ads
/- Each operation of the model does to the world what its twin does to the abstract heap: numbers, comparisons, conversions. -/
namespace Go.Ads
noncomputable section
variable {P : Program} {ρ : Ren} {H : AH} {w : World}

/-- What a piece of code gives at once. -/
def semVal : Sem Value → Option Value
  | .pure v => some v
  | _ => none

theorem run_semVal {s : Sem Value} {v : Value} (h : semVal s = some v) (w : World) : s.run P w = .ok v w := by
  cases s <;> simp only [semVal, Option.some.injEq] at h <;> first | (cases h; done) | (subst h; rfl)

/-- Integers, and strings, by an operator. -/
def abin (op : BinOp) (x y : Value) : Option Value :=
  match op, x, y with
  | .shl, .int k a, .int yk b => semVal (Op.shift .shl k a yk b)
  | .shr, .int k a, .int yk b => semVal (Op.shift .shr k a yk b)
  | op, .int k a, .int k' b =>
    if k = k' then
      match op with
      | .add | .sub | .mul => semVal (Op.intArith op k a b)
      | .quo | .rem => semVal (Op.intDiv op k a b)
      | .and | .or | .xor | .andNot => semVal (Op.intBits op k a b)
      | _ => semVal (Op.intCmp op a b)
    else none
  | op, .string a, .string b => semVal (Op.stringOp op a b)
  | _, _, _ => none

theorem semVal_plain {s : Sem Value} {v : Value} (h : semVal s = some v) : s = .pure v := by
  cases s <;> simp only [semVal, Option.some.injEq] at h <;> first | (cases h; done) | (subst h; rfl)

theorem abin_scalar {op : BinOp} {x y v : Value} (h : abin op x y = some v) : scalar x = true ∧ scalar y = true := by
  unfold abin at h; split at h <;> first | exact ⟨rfl, rfl⟩ | (cases h)

theorem abin_forms {op : BinOp} {x y v : Value} (h : abin op x y = some v) : (∃ k a k' b, x = .int k a ∧ y = .int k' b) ∨ (∃ a b, x = .string a ∧ y = .string b) := by
  unfold abin at h; split at h <;> first | exact .inl ⟨_, _, _, _, rfl, rfl⟩ | exact .inr ⟨_, _, rfl, rfl⟩ | (cases h)

theorem bin_run {op : BinOp} {x y v : Value} (h : abin op x y = some v) (t : TypeId) (a b : Operand) (w : World) :
    (do eqGuard op t a b x y; binOp op t x y : Sem Value).run P w = .ok v w := by
  rcases abin_forms h with ⟨k, m, k', n, rfl, rfl⟩ | ⟨m, n, rfl, rfl⟩
  · rw [eqGuard_at_int]
    simp only [Sem.run_bind, Sem.run_pure, Result.andThen_ok]
    cases op
    case shl => exact run_semVal h w
    case shr => exact run_semVal h w
    all_goals (
      simp only [abin] at h
      split at h
      · rename_i hk
        subst hk
        have := run_semVal (P := P) h w
        simpa [binOp] using this
      · cases h)
  · rw [eqGuard_at_string]
    simp only [Sem.run_bind, Sem.run_pure, Result.andThen_ok]
    have h' : semVal (Op.stringOp op m n) = some v := by cases op <;> exact h
    have := run_semVal (P := P) h' w
    cases op <;> exact this

theorem abin_result {op : BinOp} {x y v : Value} (h : abin op x y = some v) : scalar v = true := by
  have key : ∀ s : Sem Value, semVal s = some v → (∀ u, s = .pure u → scalar u = true) → scalar v = true := fun s hs hp => hp v (semVal_plain hs)
  rcases abin_forms h with ⟨k, m, k', n, rfl, rfl⟩ | ⟨m, n, rfl, rfl⟩
  · cases op <;> simp only [abin] at h
    case shl => 
      refine key _ h fun u hu => ?_
      unfold Op.shift at hu; split at hu
      · cases hu
      · cases hu; rfl
    case shr =>
      refine key _ h fun u hu => ?_
      unfold Op.shift at hu; split at hu
      · cases hu
      · cases hu; rfl
    all_goals (
      split at h
      · refine key _ h fun u hu => ?_
        first
          | (simp only [Op.intArith] at hu; cases hu; rfl)
          | (simp only [Op.intBits] at hu; cases hu; rfl)
          | (simp only [Op.intCmp] at hu; cases hu; rfl)
          | (simp only [Op.intDiv] at hu; split at hu <;> first | (cases hu; rfl) | cases hu)
          | (simp only [Op.intCmp] at hu; cases hu)
      · cases h)
  · cases op <;> simp only [abin, Op.stringOp] at h <;> refine key _ h fun u hu => ?_ <;> first | (cases hu; rfl) | (split at hu <;> first | (cases hu; rfl) | cases hu) | cases hu

theorem VRel.of_scalar {v : Value} (h : scalar v = true) : VRel ρ v v := by
  cases v <;> first | exact .int _ _ | exact .bool _ | exact .string _ | (simp [scalar] at h)

theorem bin_ok (h : Rel ρ H w) {op : BinOp} {x x' y y' v : Value} (hx : VRel ρ x x') (hy : VRel ρ y y') (hs : abin op x y = some v) (t : TypeId) (a b : Operand) :
    SemOK P (do eqGuard op t a b x' y'; binOp op t x' y') ρ H w v H := by
  obtain ⟨h1, h2⟩ := abin_scalar hs
  have e1 := hx.scalar_eq h1
  have e2 := hy.scalar_eq h2
  subst e1; subst e2
  exact SemOK.same h (bin_run hs t a b w) (.of_scalar (abin_result hs))

/-- Comparisons with nil, and of bools. -/
def isNil : Value → Option Bool
  | .pointer a => some a.isNone
  | .slice a _ _ => some a.isNone
  | .map a => some a.isNone
  | .nilFunc => some true
  | .func _ _ _ => some false
  | .nilIface => some true
  | .iface _ _ => some false
  | _ => none

/-- x == y, where one of them is nil at least, or where they are bools. -/
def aeqNil (neg const : Bool) (x y : Value) : Option Value :=
  match x, y with
  | .nilIface, .nilIface => if const then some (.bool (!neg)) else none
  | .bool a, .bool b => some (.bool (bif neg then !(a == b) else a == b))
  | .pointer a, .pointer b => if a.isNone || b.isNone then some (.bool (bif neg then !(a.isNone && b.isNone) else a.isNone && b.isNone)) else none
  | .slice a _ _, .slice none _ _ => some (.bool (bif neg then !a.isNone else a.isNone))
  | .map a, .map none => some (.bool (bif neg then !a.isNone else a.isNone))
  | .nilFunc, .nilFunc => some (.bool (!neg))
  | .func _ _ _, .nilFunc => some (.bool neg)
  | .nilIface, .iface _ _ => some (.bool neg)
  | .iface _ _, .nilIface => some (.bool neg)
  | _, _ => none

def nilKind : TypeDesc → Value → Bool
  | .bool, .bool _ => true
  | .pointer _, .pointer _ => true
  | .slice _, .slice _ _ _ => true
  | .map _ _, .map _ => true
  | .func _ _ _, .nilFunc => true
  | .func _ _ _, .func _ _ _ => true
  | .interface _, .iface _ _ => true
  | .interface _, .nilIface => true
  | _, _ => false

def isConstOp : Operand → Bool
  | .const _ => true
  | _ => false

theorem eqNil_ok (h : Rel ρ H w) {t : TypeId} {d : TypeDesc} (ht : P.underlying t = some d) {neg : Bool} {x x' y y' v : Value} {a b : Operand} (hx : VRel ρ x x') (hy : VRel ρ y y')
    (hk : nilKind d x = true) (hs : aeqNil neg (isConstOp a || isConstOp b) x y = some v) :
    SemOK P (do eqGuard (if neg then .neq else .eql) t a b x' y'; binOp (if neg then .neq else .eql) t x' y') ρ H w v H := by
  have wrap : ∀ (r : Bool), (eqGuard (if neg then .neq else .eql) t a b x' y').run P w = .ok () w → (∀ (op : BinOp), op = (if neg then BinOp.neq else .eql) → binOp op t x' y' = (match op with | .eql => (do pure (.bool (← Op.equal t x' y'))) | _ => (do pure (.bool (!(← Op.equal t x' y')))))) →
      (Op.equalIn (9999 + 1) t x' y').run P w = .ok r w → v = .bool (bif neg then !r else r) →
      SemOK P (do eqGuard (if neg then .neq else .eql) t a b x' y'; binOp (if neg then .neq else .eql) t x' y') ρ H w v H := by
    intro r hg hb hr hv
    subst hv
    refine SemOK.same h ?_ (.bool _)
    rw [Sem.run_bind, hg, Result.andThen_ok, hb _ rfl]
    have hr' : (Op.equal t x' y').run P w = .ok r w := hr
    cases neg <;> simp [hr']
  unfold aeqNil at hs
  split at hs
  · -- nil, nil
    split at hs
    · rename_i hc
      simp only [Option.some.injEq] at hs
      cases hx; cases hy
      cases d <;> simp [nilKind] at hk
      refine wrap true ?_ ?_ ?_ (by rw [← hs]; cases neg <;> rfl)
      · cases a <;> cases b <;> simp [isConstOp] at hc <;> cases neg <;> rfl
      · intro op ho; subst ho; cases neg <;> rfl
      · unfold Op.equalIn; simp [run_underlying ht]
    · cases hs
  · rename_i p q
    simp only [Option.some.injEq] at hs
    cases hx; cases hy
    cases d <;> simp [nilKind] at hk
    refine wrap (p == q) ?_ ?_ ?_ hs.symm
    · cases neg <;> rfl
    · intro op ho; subst ho; cases neg <;> rfl
    · unfold Op.equalIn; simp [run_underlying ht]
  · rename_i p q
    split at hs
    · rename_i hn
      simp only [Option.some.injEq] at hs
      cases d <;> simp [nilKind] at hk
      refine wrap (p.isNone && q.isNone) ?_ ?_ ?_ hs.symm
      · cases hx <;> cases neg <;> rfl
      · intro op ho; subst ho; cases hx <;> cases hy <;> cases neg <;> rfl
      · cases hx <;> cases hy <;> simp at hn <;> (unfold Op.equalIn; simp [run_underlying ht])
    · cases hs
  · simp only [Option.some.injEq] at hs
    rename_i p _ _ _ _
    cases d <;> simp [nilKind] at hk
    cases hy
    refine wrap p.isNone ?_ ?_ ?_ hs.symm
    · cases hx <;> cases neg <;> rfl
    · intro op ho; subst ho; cases hx <;> cases neg <;> rfl
    · cases hx <;> (unfold Op.equalIn; simp [run_underlying ht])
  · simp only [Option.some.injEq] at hs
    rename_i p
    cases d <;> simp [nilKind] at hk
    cases hy
    refine wrap p.isNone ?_ ?_ ?_ hs.symm
    · cases hx <;> cases neg <;> rfl
    · intro op ho; subst ho; cases hx <;> cases neg <;> rfl
    · cases hx <;> (unfold Op.equalIn; simp [run_underlying ht])
  · simp only [Option.some.injEq] at hs
    cases d <;> simp [nilKind] at hk
    cases hx; cases hy
    refine wrap true ?_ ?_ ?_ (by rw [← hs]; cases neg <;> rfl)
    · cases neg <;> rfl
    · intro op ho; subst ho; cases neg <;> rfl
    · unfold Op.equalIn; simp [run_underlying ht]
  · simp only [Option.some.injEq] at hs
    cases d <;> simp [nilKind] at hk
    cases hx <;> cases hy
    all_goals
      refine wrap false ?_ ?_ ?_ (by rw [← hs]; cases neg <;> rfl)
      · cases neg <;> rfl
      · intro op ho; subst ho; cases neg <;> rfl
      · unfold Op.equalIn; simp [run_underlying ht]
  · simp only [Option.some.injEq] at hs
    cases d <;> simp [nilKind] at hk
    cases hx; cases hy
    refine wrap false ?_ ?_ ?_ (by rw [← hs]; cases neg <;> rfl)
    · cases neg <;> rfl
    · intro op ho; subst ho; cases neg <;> rfl
    · unfold Op.equalIn; simp [run_underlying ht]
  · simp only [Option.some.injEq] at hs
    cases d <;> simp [nilKind] at hk
    cases hx; cases hy
    refine wrap false ?_ ?_ ?_ (by rw [← hs]; cases neg <;> rfl)
    · cases neg <;> rfl
    · intro op ho; subst ho; cases neg <;> rfl
    · unfold Op.equalIn; simp [run_underlying ht]
  · cases hs

end
end Go.Ads
/- Each operation of the model does to the world what its twin does to the abstract heap: structs compared, conversions, builtins. -/
namespace Go.Ads
noncomputable section
variable {P : Program} {ρ : Ren} {H : AH} {w : World}

/-- Structs whose fields are one cell each, compared cell by cell. -/
def aeqCells : List Nat → Array Value → Array Value → Option Bool
  | [], _, _ => some true
  | o :: os, xs, ys => match xs[o]?, ys[o]? with
    | some a, some b => match sameScalar a b with
      | some true => aeqCells os xs ys
      | some false => some false
      | none => none
    | _, _ => none

def scalarKind : TypeDesc → Bool
  | .int _ | .string | .bool => true
  | _ => false

def flatFields (P : Program) : List Field → Option (List Nat)
  | [] => some []
  | f :: fs => match P.underlying f.type, flatFields P fs with
    | some d, some l => if f.name ≠ "_" ∧ scalarKind d = true then some (f.offset :: l) else none
    | _, _ => none

/-- Does each of these cells fit its field's type? -/
def cellsFit (P : Program) : List Field → Array Value → Bool
  | [], _ => true
  | f :: fs, xs => (match P.underlying f.type, xs[f.offset]? with | some d, some v => keyFits d v | _, _ => false) && cellsFit P fs xs

theorem equalIn_scalar {n : Nat} {t : TypeId} {d : TypeDesc} {a b : Value} {r : Bool} (ht : P.underlying t = some d) (hd : keyFits d a = true) (hs : sameScalar a b = some r) (w : World) :
    (Op.equalIn (n + 1) t a b).run P w = .ok r w := by
  unfold sameScalar at hs
  split at hs
  · split at hs
    · rename_i hk; subst hk
      simp only [Option.some.injEq] at hs; subst hs
      cases d <;> simp [keyFits] at hd
      exact run_equalIn_int _ _ _ _ _ _ _ ht
    · cases hs
  · simp only [Option.some.injEq] at hs; subst hs
    cases d <;> simp [keyFits] at hd
    rename_i a b
    rw [run_equalIn_string _ _ _ _ _ ht, ByteArray.toList_eq, ByteArray.toList_eq]
  · simp only [Option.some.injEq] at hs; subst hs
    cases d <;> simp [keyFits] at hd
    exact run_equalIn_bool' _ _ _ _ _ ht
  · cases hs

theorem eqFields_ok {n : Nat} : ∀ {fs : List Field} {l : List Nat} {xs ys xs' ys' : Array Value} {r : Bool}, flatFields P fs = some l → VRels ρ xs.toList xs'.toList → VRels ρ ys.toList ys'.toList →
    cellsFit P fs xs = true → aeqCells l xs ys = some r → (Op.eqFields (n + 1) xs' ys' fs).run P w = .ok r w := by
  intro fs
  induction fs with
  | nil =>
    intro l xs ys xs' ys' r hf _ _ _ hs
    simp only [flatFields, Option.some.injEq] at hf; subst hf
    simp only [aeqCells, Option.some.injEq] at hs; subst hs
    rfl
  | cons f fs ih =>
    intro l xs ys xs' ys' r hf hx hy hc hs
    simp only [flatFields] at hf
    split at hf
    · rename_i d l2 hd hl
      split at hf
      · rename_i hok
        simp only [Option.some.injEq] at hf; subst hf
        simp only [aeqCells] at hs
        split at hs
        · rename_i a b ha hb
          simp only [cellsFit, hd, ha, Bool.and_eq_true] at hc
          obtain ⟨a', ea, ra⟩ := hx.get? (i := f.offset) (v := a) (by simpa using ha)
          obtain ⟨b', eb, rb⟩ := hy.get? (i := f.offset) (v := b) (by simpa using hb)
          have ea' : xs'[f.offset]? = some a' := by simpa using ea
          have eb' : ys'[f.offset]? = some b' := by simpa using eb
          have hag : aggD d = false := by cases d <;> simp [scalarKind] at hok <;> rfl
          have pa : ∀ (cs : Array Value) (v : Value), cs[f.offset]? = some v → (part f.type cs f.offset).run P w = .ok v w := by
            intro cs v e
            simp only [part, Sem.run_bind, run_isAgg hd, hag, Result.andThen_ok, Bool.false_eq_true, if_false, e, Sem.run_pure]
          cases hss : sameScalar a b with
          | none => rw [hss] at hs; cases hs
          | some q =>
            rw [hss] at hs
            have h1 := ra.scalar_eq (keyFits_scalar hc.1)
            have h2 := rb.scalar_eq (sameScalar_scalar hss)
            subst h1; subst h2
            have heq := equalIn_scalar (P := P) (n := n) hd hc.1 hss w
            cases q with
            | true =>
              simp only at hs
              have := ih hl hx hy hc.2 hs
              simp [Op.eqFields, hok.1, pa _ _ ea', pa _ _ eb', heq, this]
            | false =>
              simp only [Option.some.injEq] at hs; subst hs
              simp [Op.eqFields, hok.1, pa _ _ ea', pa _ _ eb', heq]
        · cases hs
      · cases hf
    · cases hf

def aggCells : Value → Array Value
  | .agg c => c
  | _ => #[]

def aeqFlat (neg : Bool) (l : List Nat) (x y : Value) : Option Value :=
  match x, y with
  | .agg xs, .agg ys => (aeqCells l xs ys).map fun r => .bool (bif neg then !r else r)
  | _, _ => none

theorem eqFlat_ok (h : Rel ρ H w) {t : TypeId} {l : List Nat} (ht : P.underlying t = some (.struct (P.fieldsOf t))) (hl : flatFields P (P.fieldsOf t).toList = some l) (hst : P.stoodInHeld t = false)
    (hgt : P.eqGuardType P.depth t = false) {neg : Bool} {x x' y y' v : Value} {a b : Operand} (hx : VRel ρ x x') (hy : VRel ρ y y') (hc : cellsFit P (P.fieldsOf t).toList (aggCells x) = true) (hs : aeqFlat neg l x y = some v) :
    SemOK P (do eqGuard (if neg then .neq else .eql) t a b x' y'; binOp (if neg then .neq else .eql) t x' y') ρ H w v H := by
  unfold aeqFlat at hs
  split at hs
  · rename_i xs ys
    cases hx with
    | @agg _ xs' hxs =>
      cases hy with
      | @agg _ ys' hys =>
        cases hr : aeqCells l xs ys with
        | none => rw [hr] at hs; cases hs
        | some r =>
          rw [hr] at hs
          simp only [Option.map_some, Option.some.injEq] at hs; subst hs
          have he := eqFields_ok (P := P) (w := w) (n := 9998) hl hxs hys hc hr
          refine SemOK.same h ?_ (.bool _)
          cases neg
          · rw [Sem.run_bind]
            simp only [Bool.false_eq_true, if_false, run_eqGuard_agg _ _ _ _ _ _ _ hgt, Result.andThen_ok, run_eql_struct, run_equalIn_agg _ 9999 _ _ _ ht hst, he]
            rfl
          · rw [Sem.run_bind]
            simp only [if_true, run_eqGuard_agg _ _ _ _ _ _ _ hgt, Result.andThen_ok, run_neq_struct, run_equalIn_agg _ 9999 _ _ _ ht hst, he]
            rfl
  · cases hs

def aun (op : UnOp) (x : Value) : Option Value := if scalar x then semVal (Op.unary op x) else none

theorem un_ok (h : Rel ρ H w) {op : UnOp} {x x' v : Value} (hx : VRel ρ x x') (hs : aun op x = some v) : SemOK P (Op.unary op x') ρ H w v H := by
  unfold aun at hs
  split at hs
  · rename_i hsc
    have := hx.scalar_eq hsc
    subst this
    refine SemOK.same h (run_semVal hs w) (.of_scalar ?_)
    have hp := semVal_plain hs
    cases x' <;> cases op <;> simp [scalar] at hsc <;> simp only [Op.unary] at hp <;> first | (cases hp; rfl) | (simp only [Op.intArith] at hp; cases hp; rfl) | (simp only [Op.intBits] at hp; cases hp; rfl) | cases hp
  · cases hs

def atoInt (k : IntKind) (x : Value) : Option Value :=
  match x with
  | .int _ n => some (.int k (k.wrap n))
  | _ => none

theorem toInt_ok (h : Rel ρ H w) {src dst : TypeId} {ds : TypeDesc} {k : IntKind} (hsrc : P.underlying src = some ds) (hd : P.underlying dst = some (.int k)) {x x' v : Value} (hx : VRel ρ x x') (hs : atoInt k x = some v) :
    SemOK P (convert src dst x') ρ H w v H := by
  unfold atoInt at hs
  split at hs
  · simp only [Option.some.injEq] at hs; subst hs
    have := hx.int_inv; subst this
    refine SemOK.same h (v' := .int k _) ?_ (.int _ _)
    simp [convert, run_underlying hsrc, run_underlying hd, Conv.intToInt]
  · cases hs

def atoStr (x : Value) : Option Value :=
  match x with
  | .string s => some (.string s)
  | _ => none
theorem toStr_ok (h : Rel ρ H w) {src dst : TypeId} {ds : TypeDesc} (hsrc : P.underlying src = some ds) (hd : P.underlying dst = some .string) {x x' v : Value} (hx : VRel ρ x x') (hs : atoStr x = some v) :
    SemOK P (convert src dst x') ρ H w v H := by
  unfold atoStr at hs
  split at hs
  · simp only [Option.some.injEq] at hs; subst hs
    have := hx.string_inv; subst this
    refine SemOK.same h (v' := .string _) ?_ (.string _)
    simp [convert, run_underlying hsrc, run_underlying hd]
  · cases hs

/-- A string's bytes as a number. -/
def strNat : List UInt8 → Nat
  | [] => 0
  | b :: l => b.toNat + 256 * strNat l

theorem strNat_byte : ∀ (l : List UInt8) (i : Nat), (natCells l.length (strNat l))[i]? = (l.map fun b => Value.int .u8 b.toNat)[i]? := by
  intro l
  induction l with
  | nil => intro i; simp [natCells]
  | cons b l ih =>
    intro i
    have hb : b.toNat < 256 := b.toNat_lt
    rw [natCells_get?]
    cases i with
    | zero =>
      simp only [List.length_cons, Nat.zero_lt_succ, if_true, List.map_cons, List.getElem?_cons_zero, strNat, nbyte_zero, byteV]
      rw [show (b.toNat + 256 * strNat l) % 256 = b.toNat by omega]
    | succ i =>
      have := ih i
      rw [natCells_get?] at this
      simp only [List.length_cons, Nat.add_lt_add_iff_right, List.map_cons, List.getElem?_cons_succ, strNat, nbyte_succ]
      rw [show (b.toNat + 256 * strNat l) / 256 = strNat l by omega]
      exact this

theorem strNat_cells (l : List UInt8) : natCells l.length (strNat l) = l.map fun b => Value.int .u8 b.toNat := List.ext_getElem? (strNat_byte l)

def atoBytes (H : AH) (x : Value) : Option (Value × AH) :=
  match x with
  | .string s => some (.slice (some ⟨H.next, 0, none⟩) s.size s.size, H.push (.bytes s.size (strNat s.data.toList) 1 false))
  | _ => none

theorem toBytes_ok (h : Rel ρ H w) {src dst e : TypeId} (hsrc : P.underlying src = some .string) (hd : P.underlying dst = some (.slice e)) (he : P.underlying e = some (.int .u8)) {x x' v : Value} {H' : AH} (hx : VRel ρ x x')
    (hs : atoBytes H x = some (v, H')) : SemOK P (convert src dst x') ρ H w v H' := by
  unfold atoBytes at hs
  split at hs
  · rename_i s
    simp only [Option.some.injEq, Prod.mk.injEq] at hs
    obtain ⟨rfl, rfl⟩ := hs
    have := hx.string_inv; subst this
    have hrun := run_bytes_of_string (P := P) w src dst e s hsrc hd he
    have hdr := Went.drawn h (w.drawn + 1)
    have hge := grownCap_ge w s.size 0 e
    have hsl : s.data.toList.length = s.size := by simp
    refine ⟨ρ.put H.next ⟨w.heap.size, 0, s.size, grownCap w s.size 0 e, 1⟩, _, _, hrun, ?_, hdr.trans (hdr.rel.push _ _ _ rfl ?_)⟩
    · exact .sl ⟨_, by simp [Ren.put]; rfl, rfl, by simp, .inr ⟨Nat.one_pos, by simp, hge, by simp⟩⟩
    · generalize hN : grownCap w s.size 0 e = N at *
      have hbs : (bytesRow s N).size = N := by simp [bytesRow]; omega
      refine ⟨⟨natCells_length _ _, shape_alloc_new _ _ _ _, fun i v ev => ?_, fun i hi => ?_, fun _ i hi => ?_⟩, rfl, ?_⟩
      · refine ⟨v, ?_, ?_⟩
        · have hcell := World.cell?_alloc_mark w.drew (bytesRow s N) e ((bytesRow s N).size, (bytesRow s N).size + 1) i
          simp only [Nat.zero_add]
          rw [show ({ w with drawn := w.drawn + 1 } : World) = w.drew from rfl]
          rw [show w.heap.size = w.drew.heap.size from rfl, hcell]
          simp only [AObj.vals] at ev
          rw [← hsl, strNat_cells] at ev
          have hlt := (List.getElem?_eq_some_iff.1 ev).1
          simp only [List.length_map] at hlt
          rw [bytesRow, Array.getElem?_append_left (by simp; omega)]
          rw [← ev]
          simp [← Array.getElem?_toList]
        · simp only [AObj.vals, natCells_get?] at ev
          split at ev
          · simp only [Option.some.injEq] at ev; subst ev; exact .int _ _
          · cases ev
      · have hcell := World.cell?_alloc_mark w.drew (bytesRow s N) e ((bytesRow s N).size, (bytesRow s N).size + 1) i
        simp only [Nat.zero_add]
        rw [show ({ w with drawn := w.drawn + 1 } : World) = w.drew from rfl, show w.heap.size = w.drew.heap.size from rfl, hcell]
        simp only [Loc.ext] at hi
        have : i < (bytesRow s N).size := by rw [hbs]; simpa using hi
        simp [Array.getElem?_eq_getElem this]
      · have hf := World.frozen?_alloc_mark w.drew (bytesRow s N) e (bytesRow s N).size ((bytesRow s N).size + 1) i
        simp only [Nat.zero_add]
        rw [show ({ w with drawn := w.drawn + 1 } : World) = w.drew from rfl, show w.heap.size = w.drew.heap.size from rfl, hf]
        simp only [Loc.ext] at hi
        have : ¬ (bytesRow s N).size ≤ i := by rw [hbs]; simp at hi; omega
        simp [this]
      · simp [Loc.ext, hge]
  · cases hs

/-- The bytes of a number. -/
def natStr : (len n : Nat) → List UInt8
  | 0, _ => []
  | k + 1, n => UInt8.ofNat (n % 256) :: natStr k (n / 256)

theorem natStr_map : ∀ (len n : Nat), (natStr len n).map (fun b => Value.int .u8 b.toNat) = natCells len n := by
  intro len
  induction len with
  | zero => intro n; rfl
  | succ k ih =>
    intro n
    apply List.ext_getElem?
    intro i
    rw [natCells_get?]
    cases i with
    | zero => simp [natStr, byteV, nbyte]
    | succ i =>
      simp only [natStr, List.map_cons, List.getElem?_cons_succ, ih, natCells_get?, Nat.add_lt_add_iff_right, nbyte_succ]

def afromBytes (H : AH) (x : Value) : Option Value :=
  match x with
  | .slice none _ _ => some (.string .empty)
  | .slice (some a) n _ => match H.get a.block with
    | some o => match o.chunk a.off n with
      | some (.num _ m) => some (.string ⟨(natStr n m).toArray⟩)
      | _ => none
    | none => none
  | _ => none

theorem fromBytes_ok (h : Rel ρ H w) {src dst e : TypeId} (hsrc : P.underlying src = some (.slice e)) (he : P.underlying e = some (.int .u8)) (hd : P.underlying dst = some .string) {x x' v : Value} (hx : VRel ρ x x')
    (hs : afromBytes H x = some v) : SemOK P (convert src dst x') ρ H w v H := by
  cases hx with
  | nils n c =>
    simp only [afromBytes, Option.some.injEq] at hs; subst hs
    refine SemOK.same h (v' := .string .empty) ?_ (.string _)
    rw [run_convert_bytes_string w src dst e none n c hsrc he hd]; rfl
  | @sl a a' n c c' hsl =>
    simp only [afromBytes] at hs
    split at hs
    · rename_i o ho
      split at hs
      · rename_i k m hc
        simp only [Option.some.injEq] at hs; subst hs
        obtain ⟨l, el, hsp, rfl, _⟩ := hsl
        obtain ⟨vs', hr, hlen, hcell⟩ := h.chunk ho el hc
        have hk : k = n := (AObj.chunk_spec hc).2.1
        subst hk
        have hcells : (Chunk.num k m).cells = (natStr k m).map (fun b => Value.int .u8 b.toNat) := (natStr_map k m).symm
        rw [hcells] at hr
        have hsl2 : (natStr k m).length = k := by have := congrArg List.length (natStr_map k m); simpa [natCells_length] using this
        refine SemOK.same h (v' := .string ⟨(natStr k m).toArray⟩) ?_ (.string _)
        have := run_convert_bytes_back (P := P) w src dst e ⟨l.blk, l.base + a.off, none⟩ c' (natStr k m) hsrc he hd (fun j hj => by
          rw [addrAdd]
          obtain ⟨v', ev, rv⟩ := hr.get? (i := j) (v := .int .u8 ((natStr k m)[j].toNat)) (by simp [hj])
          have := rv.int_inv
          subst this
          exact hcell j _ ev)
        rw [hsl2] at this
        exact this
      · cases hs
    · cases hs
  | @slEnd a a' l el hs2 hl he2 =>
    simp only [afromBytes] at hs
    split at hs
    · rename_i o ho
      split at hs
      · rename_i k m hc
        simp only [Option.some.injEq] at hs; subst hs
        refine SemOK.same h (v' := .string ⟨(natStr 0 m).toArray⟩) ?_ (.string _)
        exact run_convert_bytes_back (P := P) w src dst e a' 0 [] hsrc he hd (fun j hj => by simp at hj)
      · cases hs
    · cases hs
  | _ => cases hs

end
end Go.Ads
/- Each operation of the model does to the world what its twin does to the abstract heap: lengths, choices, checks, interfaces. -/
namespace Go.Ads
noncomputable section
variable {P : Program} {ρ : Ren} {H : AH} {w : World}

def alen (H : AH) (x : Value) : Option Value :=
  match x with
  | .string s => some (goInt s.size)
  | .slice _ n _ => some (goInt n)
  | .map none => some (goInt 0)
  | .map (some b) => match H.get b with
    | some (.map es) => some (goInt es.length)
    | _ => none
  | _ => none

def lenKind : TypeDesc → Value → Bool
  | .string, .string _ => true
  | .slice _, .slice _ _ _ => true
  | .map _ _, .map _ => true
  | _, _ => false

theorem ERel.length {es : List (Value × Value)} {l : List MapEntry} (h : ERel ρ es l) : l.length = es.length := by
  induction h with
  | nil => rfl
  | cons _ _ _ ih => simp [ih]

theorem len_ok (h : Rel ρ H w) {t ty : TypeId} {d : TypeDesc} (ht : P.underlying t = some d) {x x' v : Value} (hk : lenKind d x = true) (hx : VRel ρ x x') (hs : alen H x = some v) :
    SemOK P (Builtin.len_ #[t] ty #[x']) ρ H w v H := by
  cases hx with
  | string s =>
    simp only [alen, Option.some.injEq] at hs; subst hs
    cases d <;> simp [lenKind] at hk
    exact SemOK.same h (by simp [Builtin.len_, run_underlying ht]; rfl) (.int _ _)
  | nils n c =>
    simp only [alen, Option.some.injEq] at hs; subst hs
    cases d <;> simp [lenKind] at hk
    exact SemOK.same h (by simp [Builtin.len_, run_underlying ht]; rfl) (.int _ _)
  | sl hsl =>
    simp only [alen, Option.some.injEq] at hs; subst hs
    cases d <;> simp [lenKind] at hk
    exact SemOK.same h (by simp [Builtin.len_, run_underlying ht]; rfl) (.int _ _)
  | slEnd =>
    simp only [alen, Option.some.injEq] at hs; subst hs
    cases d <;> simp [lenKind] at hk
    exact SemOK.same h (by simp [Builtin.len_, run_underlying ht]; rfl) (.int _ _)
  | nilm =>
    simp only [alen, Option.some.injEq] at hs; subst hs
    cases d <;> simp [lenKind] at hk
    exact SemOK.same h (by simp [Builtin.len_, run_underlying ht]; rfl) (.int _ _)
  | @map b l hl =>
    cases d <;> simp [lenKind] at hk
    simp only [alen] at hs
    split at hs
    · rename_i es hb
      simp only [Option.some.injEq] at hs; subst hs
      obtain ⟨c, clock, hc, hm⟩ := h.mapAt hb hl
      have hlen : c.size = es.length := by have := ERel.length hm; simpa using this
      refine SemOK.same h (v' := goInt es.length) ?_ (.int _ _)
      simp [Builtin.len_, run_underlying ht, run_getObj_map hc, hlen]
    · cases hs
  | _ => cases hs

theorem lenArr_ok (h : Rel ρ H w) {t ty e : TypeId} {n : Nat} (ht : P.underlying t = some (.array n e)) (x : Value) : SemOK P (Builtin.len_ #[t] ty #[x]) ρ H w (goInt n) H := by
  refine SemOK.same h (v' := goInt n) ?_ (.int _ _)
  simp [Builtin.len_, run_underlying ht]

def acap (H : AH) (x : Value) : Option Value :=
  match x with
  | .slice none _ c => some (goInt c)
  | .slice (some a) _ c => match H.get a.block with
    | some o => if o.loose = 0 ∨ a.off + c * o.loose ≠ o.size then some (goInt c) else none
    | none => none
  | _ => none

theorem cap_ok (h : Rel ρ H w) {t ty e : TypeId} (ht : P.underlying t = some (.slice e)) {x x' v : Value} (hx : VRel ρ x x') (hs : acap H x = some v) :
    SemOK P (Builtin.cap_ #[t] ty #[x']) ρ H w v H := by
  cases hx with
  | nils n c =>
    simp only [acap, Option.some.injEq] at hs; subst hs
    exact SemOK.same h (by simp [Builtin.cap_, run_underlying ht]; rfl) (.int _ _)
  | @sl a a' n c c' hsl =>
    simp only [acap] at hs
    split at hs
    · rename_i o ho
      split at hs
      · rename_i hne
        simp only [Option.some.injEq] at hs; subst hs
        obtain ⟨k, ek, hsp, hadr, hcap⟩ := hsl
        obtain ⟨k', ek', hobj⟩ := h.obj _ _ ho
        rw [ek] at ek'; cases ek'
        have hkl : k.loose = o.loose ∧ (0 < k.loose → k.size = o.size) := by
          cases o with
          | map es => exact ⟨hobj.1.2.2, fun hp => by have := hobj.1.2.2; omega⟩
          | loop es => exact ⟨hobj.1.2.2, fun hp => by have := hobj.1.2.2; omega⟩
          | cells vs lo ro => exact ⟨hobj.2.1, fun _ => hobj.1.size.symm⟩
          | bytes len x lo ro => exact ⟨hobj.2.1, fun _ => by rw [← hobj.1.size, AObj.vals_length]⟩
        have : c' = c := by
          rcases hcap with e | ⟨hp, he, _, _⟩
          · exact e
          · exfalso
            rcases hne with e | e
            · omega
            · rw [hkl.2 hp, hkl.1] at he; exact e he
        subst this
        exact SemOK.same h (by simp [Builtin.cap_, run_underlying ht]; rfl) (.int _ _)
      · cases hs
    · cases hs
  | @slEnd a a' l e hs2 hl he =>
    simp only [acap] at hs
    split at hs
    · split at hs
      · simp only [Option.some.injEq] at hs; subst hs
        exact SemOK.same h (by simp [Builtin.cap_, run_underlying ht]; rfl) (.int _ _)
      · cases hs
    · cases hs
  | _ => cases hs

def intArgs : List Value → Bool
  | [] => true
  | .int _ _ :: l => intArgs l
  | _ => false

def amax (args : List Value) : Option Value := if intArgs args then semVal (Builtin.max_ #[] 0 args.toArray) else none
def amin (args : List Value) : Option Value := if intArgs args then semVal (Builtin.min_ #[] 0 args.toArray) else none

theorem VRels.intArgs_eq : ∀ {l l' : List Value}, VRels ρ l l' → intArgs l = true → l' = l := by
  intro l
  induction l with
  | nil => intro l' h _; cases h; rfl
  | cons x xs ih =>
    intro l' h hi
    cases h with | cons h1 h2 =>
    cases x <;> simp [intArgs] at hi
    rw [ih h2 hi, h1.int_inv]

theorem max_scalar : ∀ {l : List Value} {x v : Value}, intArgs (x :: l) = true → semVal (l.foldlM Builtin.max2 x) = some v → scalar v = true := by
  intro l
  induction l with
  | nil => intro x v hi hs; cases x <;> simp [intArgs] at hi; cases hs; rfl
  | cons y l ih =>
    intro x v hi hs
    cases x <;> simp [intArgs] at hi
    cases y <;> simp [intArgs] at hi
    exact ih (x := .int _ _) (by simpa [intArgs] using hi) hs
theorem min_scalar : ∀ {l : List Value} {x v : Value}, intArgs (x :: l) = true → semVal (l.foldlM Builtin.min2 x) = some v → scalar v = true := by
  intro l
  induction l with
  | nil => intro x v hi hs; cases x <;> simp [intArgs] at hi; cases hs; rfl
  | cons y l ih =>
    intro x v hi hs
    cases x <;> simp [intArgs] at hi
    cases y <;> simp [intArgs] at hi
    exact ih (x := .int _ _) (by simpa [intArgs] using hi) hs

theorem max_ok (h : Rel ρ H w) {ts : Array TypeId} {ty : TypeId} {l l' : List Value} {v : Value} (hx : VRels ρ l l') (hs : amax l = some v) : SemOK P (Builtin.max_ ts ty l'.toArray) ρ H w v H := by
  unfold amax at hs
  split at hs
  · rename_i hi
    have := hx.intArgs_eq hi; subst this
    refine SemOK.same h (run_semVal (s := Builtin.max_ ts ty l'.toArray) hs w) (.of_scalar ?_)
    cases l' with
    | nil => cases hs
    | cons x l => exact max_scalar hi hs
  · cases hs
theorem min_ok (h : Rel ρ H w) {ts : Array TypeId} {ty : TypeId} {l l' : List Value} {v : Value} (hx : VRels ρ l l') (hs : amin l = some v) : SemOK P (Builtin.min_ ts ty l'.toArray) ρ H w v H := by
  unfold amin at hs
  split at hs
  · rename_i hi
    have := hx.intArgs_eq hi; subst this
    refine SemOK.same h (run_semVal (s := Builtin.min_ ts ty l'.toArray) hs w) (.of_scalar ?_)
    cases l' with
    | nil => cases hs
    | cons x l => exact min_scalar hi hs
  · cases hs

/-- clear of a slice. -/
def aclear (H : AH) (zero : List Value) (x : Value) : Option AH :=
  match x with
  | .slice _ 0 _ => some H
  | .slice (some a) n _ => match H.get a.block with
    | some o => (o.put a.off (.vals (List.replicate n zero).flatten)).map fun o' => H.set a.block o'
    | none => none
  | _ => none

theorem clear_ok (h : Rel ρ H w) {t ty e : TypeId} {i : TypeInfo} {z : Value} (ht : P.underlying t = some (.slice e)) (hi : P.info? e = some i) (hz : i.zero = some z) (hzr : VRel ρ z z) (hzc : 0 < z.cells.size) {x x' : Value} {H' : AH}
    (hx : VRel ρ x x') (hs : aclear H z.cells.toList x = some H') : SemOK P (Builtin.clear_ #[t] ty #[x']) ρ H w undef H' := by
  unfold aclear at hs
  split at hs
  · simp only [Option.some.injEq] at hs; subst hs
    cases hx with
    | nils => exact SemOK.same h (v' := undef) (by simp [Builtin.clear_, run_underlying ht]; rfl) (vrel_undef _)
    | sl => exact SemOK.same h (v' := undef) (by simp [Builtin.clear_, run_underlying ht]; rfl) (vrel_undef _)
    | slEnd => exact SemOK.same h (v' := undef) (by simp [Builtin.clear_, run_underlying ht]; rfl) (vrel_undef _)
  · rename_i a n c hn
    split at hs
    · rename_i o ho
      cases hp : o.put a.off (.vals (List.replicate n z.cells.toList).flatten) with
      | none => rw [hp] at hs; cases hs
      | some o' =>
        rw [hp] at hs
        simp only [Option.map_some, Option.some.injEq] at hs; subst hs
        cases hx with
        | slEnd => exact (hn rfl).elim
        | @sl _ a' _ _ c' hsl =>
          obtain ⟨ρ', w', hst, hw⟩ := storeCells_ok (P := P) h (AddrRel.of_slice hsl) ho hp (vs' := (List.replicate n z.cells.toList).flatten) (VRels.flatten_replicate hzr.cells n)
          refine ⟨ρ', undef, w', ?_, vrel_undef _, hw⟩
          have hzz : (Builtin.zeroCells z.cells n).toList = (List.replicate n z.cells.toList).flatten := by
            have := range_zero_cells z.cells n hzc
            simpa [Builtin.zeroCells] using this
          have hn0 : n ≠ 0 := by rintro rfl; exact hn rfl
          simp only [Builtin.clear_, List.getElem?_toArray, List.getElem?_cons_zero, Sem.run_bind, run_underlying ht, Result.andThen_ok]
          cases n with
          | zero => exact absurd rfl hn0
          | succ n => simp [zeroValue, typeInfo, hi, hz, hzz, hst, undef]
    · cases hs
  · cases hs

/-- A check for nil. -/
def anilCheck (x : Value) : Option Value :=
  match x with
  | .pointer (some a) => some (.pointer (some a))
  | .iface t v => some (.iface t v)
  | .func (.func f) a b => some (.func (.func f) a b)
  | .func (.methodOf t n) a b => some (.func (.methodOf t n) a b)
  | .slice (some a) n c => some (.slice (some a) n c)
  | _ => none

/-- A type assertion to a type that is no interface. -/
def aassert (T : TypeId) (zero : Value) (ok : Bool) (x : Value) : Option Value :=
  match x with
  | .iface t v => if t = T then some (bif ok then .tuple #[v, .bool true] else v) else (bif ok then some (.tuple #[zero, .bool false]) else none)
  | .nilIface => bif ok then some (.tuple #[zero, .bool false]) else none
  | _ => none

theorem assert_ok (h : Rel ρ H w) {xt T : TypeId} {d : TypeDesc} {i : TypeInfo} {z : Value} (ht : P.underlying T = some d) (hd : (∀ ms, d ≠ .interface ms)) (hi : P.info? T = some i) (hz : i.zero = some z) (hzr : VRel ρ z z) {ok : Bool} {x x' v : Value}
    (hx : VRel ρ x x') (hs : aassert T z ok x = some v) : SemOK P (Instr.typeAssert x' xt T ok) ρ H w v H := by
  unfold aassert at hs
  split at hs
  · rename_i t u
    cases hx with
    | @iface _ _ u' hu =>
      split at hs
      · rename_i htT
        subst htT
        simp only [Option.some.injEq] at hs; subst hs
        cases ok with
        | true =>
          refine SemOK.same h (v' := .tuple #[u', .bool true]) ?_ (.tuple (.cons hu (.cons (.bool _) .nil)))
          cases d <;> first | exact absurd rfl (hd _) | simp [Instr.typeAssert, run_underlying ht]
        | false =>
          refine SemOK.same h (v' := u') ?_ hu
          cases d <;> first | exact absurd rfl (hd _) | simp [Instr.typeAssert, run_underlying ht]
      · rename_i htT
        cases ok with
        | true =>
          simp only [cond_true, Option.some.injEq] at hs; subst hs
          refine SemOK.same h (v' := .tuple #[z, .bool false]) ?_ (.tuple (.cons hzr (.cons (.bool _) .nil)))
          cases d <;> first | exact absurd rfl (hd _) | simp [Instr.typeAssert, run_underlying ht, htT, zeroValue, typeInfo, hi, hz]
        | false => cases hs
  · cases hx with
    | nilIface =>
      cases ok with
      | true =>
        simp only [cond_true, Option.some.injEq] at hs; subst hs
        refine SemOK.same h (v' := .tuple #[z, .bool false]) ?_ (.tuple (.cons hzr (.cons (.bool _) .nil)))
        cases d <;> first | exact absurd rfl (hd _) | simp [Instr.typeAssert, run_underlying ht, zeroValue, typeInfo, hi, hz]
      | false => cases hs
  · cases hs

def apick (c a b : Value) : Option Value :=
  match c with
  | .bool true => some a
  | .bool false => some b
  | _ => none

def aextract (x : Value) (i : Nat) : Option Value :=
  match x with
  | .tuple vs => vs[i]?
  | _ => none

theorem extract_ok (h : Rel ρ H w) {x x' v : Value} {i : Nat} (hx : VRel ρ x x') (hs : aextract x i = some v) : SemOK P (Instr.extract x' i) ρ H w v H := by
  cases hx with
  | @tuple xs xs' hxs =>
    simp only [aextract] at hs
    obtain ⟨v', e, r⟩ := hxs.get? (i := i) (v := v) (by simpa using hs)
    have e' : xs'[i]? = some v' := by simpa using e
    refine SemOK.same h (v' := v') ?_ r
    simp [Instr.extract, e']
  | _ => cases hs

end
end Go.Ads
/- append of so many zeros. -/
namespace Go.Ads
noncomputable section
variable {P : Program} {ρ : Ren} {H : AH} {w : World}

theorem wrap_small {k : Nat} (h : k < maxRoom) : IntKind.i64.wrap (k : Int) = k := by
  unfold maxRoom at h
  simp [IntKind.wrap, IntKind.bits, IntKind.signed]; omega

theorem zeroCells_none {z : Array Value} {k size : Nat} (hzc : z.size = size) (h : k * size = 0) : Builtin.zeroCells z k = #[] := by
  simp [Builtin.zeroCells, hzc, h]

theorem run_appendZ_in {t u ty e : TypeId} {i : TypeInfo} {z : Value} {kk kx : IntKind} (ht : P.underlying t = some (.slice e)) (hu : P.underlying u = some (.int kk)) (hi : P.info? e = some i) (hz : i.zero = some z) (hzc : z.cells.size = i.size)
    {k : Nat} (hk : k < maxRoom) (hkb : k * i.bytes < maxRoom) (base : Option Addr) (sLen sCap : Nat) (hroom : sLen + k ≤ sCap) :
    (Builtin.append_ #[t, u] ty #[.slice base sLen sCap, .int kx (k : Int)]).run P w =
      (match base with | some a => (storeCells (a.add (sLen * i.size)) (Builtin.zeroCells z.cells k).toList).run P w | none => .ok () w).andThen fun _ w' => .ok (.slice base (sLen + k) sCap) w' := by
  have hw := wrap_small hk
  have hneg : ¬ ((k : Int) < 0) := by omega
  have hbig : ¬ (281474976710656 < (k : Int) * (i.bytes : Int)) := by
    have : ((k * i.bytes : Nat) : Int) = (k : Int) * (i.bytes : Int) := by simp
    rw [← this]; unfold maxRoom at hkb; omega
  by_cases h0 : k * i.size = 0
  · have hzn := zeroCells_none hzc h0
    cases base <;>
      simp [Builtin.append_, run_underlying ht, run_underlying hu, sizeOf, typeInfo, hi, hw, hneg, hbig, hroom, h0, hzn, asInt, asIntOf]
  · have h0' : ¬ (k = 0 ∨ i.size = 0) := by simpa [Nat.mul_eq_zero] using h0
    cases base <;>
      simp [Builtin.append_, run_underlying ht, run_underlying hu, sizeOf, typeInfo, zeroValue, hi, hz, hw, hneg, hbig, hroom, h0, asInt, asIntOf]

theorem run_appendZ_new {t u ty e : TypeId} {i : TypeInfo} {z : Value} {kk kx : IntKind} (ht : P.underlying t = some (.slice e)) (hu : P.underlying u = some (.int kk)) (hi : P.info? e = some i) (hz : i.zero = some z) (hzc : z.cells.size = i.size)
    {k : Nat} (hk : k < maxRoom) (hkb : k * i.bytes < maxRoom) (sLen sCap : Nat) (base : Option Addr) (olds : List Value) (hso : SrcRel ρ H w i.size (.slice base sLen sCap) sLen olds)
    (hg : sCap < sLen + k) (hfit : (sLen + k) * i.bytes < maxRoom) (h63 : sLen + k < 2 ^ 62) :
    (Builtin.append_ #[t, u] ty #[.slice base sLen sCap, .int kx (k : Int)]).run P w =
      .ok (.slice (some ⟨w.heap.size, 0, none⟩) (sLen + k) (grownCap w (sLen + k) sCap e))
        (w.drew.alloc (.cells (olds ++ (Builtin.zeroCells z.cells k).toList ++ (Builtin.zeroCells z.cells (grownCap w (sLen + k) sCap e - (sLen + k))).toList).toArray e)) := by
  have hw := wrap_small hk
  have hneg : ¬ ((k : Int) < 0) := by omega
  have hbig : ¬ (281474976710656 < (k : Int) * (i.bytes : Int)) := by
    have : ((k * i.bytes : Nat) : Int) = (k : Int) * (i.bytes : Int) := by simp
    rw [← this]; unfold maxRoom at hkb; omega
  have hn : ¬ (sLen + k ≤ sCap) := by omega
  have h63' : ¬ (9223372036854775807 < ((sLen : Int) + (k : Int))) := by omega
  have h48 : Builtin.nextslicecap (sLen + k) sCap * i.bytes ≤ 281474976710656 := growslice_fits hg (by unfold maxRoom at hfit; omega)
  have h48' : ¬ (281474976710656 < Builtin.nextslicecap (sLen + k) sCap * i.bytes) := by omega
  have hfo := run_firstCells_src (P := P) hso sLen rfl w.drew rfl
  by_cases h0 : k * i.size = 0
  · have hzn := zeroCells_none hzc h0
    simp [Builtin.append_, run_underlying ht, run_underlying hu, sizeOf, typeInfo, zeroValue, hi, hz, hw, hneg, hbig, hn, h63', h48', Question.forced, h0, hzn, asInt, asIntOf, hfo, newRow, grownCap]
    try (congr 2; apply Array.ext'; simp)
  · have h0' : ¬ (k = 0 ∨ i.size = 0) := by simpa [Nat.mul_eq_zero] using h0
    simp [Builtin.append_, run_underlying ht, run_underlying hu, sizeOf, typeInfo, zeroValue, hi, hz, hw, hneg, hbig, hn, h63', h48', Question.forced, h0, asInt, asIntOf, hfo, newRow, grownCap]
    try (congr 2; apply Array.ext'; simp)

def azeros (u8 : Bool) (zero : List Value) (k : Nat) : Chunk := bif u8 then .num k 0 else .vals (List.replicate k zero).flatten

def aappendN (u8 : Bool) (size bytes : Nat) (zero : List Value) (H : AH) (s x : Value) : Option (Value × AH) :=
  match x with
  | .int _ (.ofNat k) => if k * bytes < maxRoom then aappend size bytes H s k (azeros u8 zero k) else none
  | _ => none

theorem appendN_ok (h : Rel ρ H w) {t u ty e : TypeId} {i : TypeInfo} {z : Value} {kk : IntKind} (ht : P.underlying t = some (.slice e)) (hu : P.underlying u = some (.int kk)) (hi : P.info? e = some i) (hz : i.zero = some z)
    (hzc : z.cells.size = i.size) (hsz : 0 < i.size) (hby : 0 < i.bytes) (hzr : VRel ρ z z) {u8 : Bool} (hu8 : u8 = true → z.cells.toList = [byteV 0]) {s s' x x' v : Value} {H' : AH} (hs : VRel ρ s s') (hx : VRel ρ x x')
    (ha : aappendN u8 i.size i.bytes z.cells.toList H s x = some (v, H')) : SemOK P (Builtin.append_ #[t, u] ty #[s', x']) ρ H w v H' := by
  unfold aappendN at ha
  split at ha
  · rename_i kx k
    have := hx.int_inv; subst this
    split at ha
    · rename_i hkb
      have hk : k < maxRoom := Nat.lt_of_le_of_lt (Nat.le_mul_of_pos_right _ hby) hkb
      have hzz : (Builtin.zeroCells z.cells k).toList = (List.replicate k z.cells.toList).flatten := by
        have := range_zero_cells z.cells k (by omega)
        simpa [Builtin.zeroCells] using this
      have hcells : (azeros u8 z.cells.toList k).cells = (List.replicate k z.cells.toList).flatten := by
        cases hu : u8 with
        | false => rfl
        | true =>
          show natCells k 0 = _
          rw [hu8 hu]
          apply List.ext_getElem?
          intro j
          rw [natCells_get?]
          have : (List.replicate k [byteV 0]).flatten = List.replicate k (byteV 0) := by
            clear ha hkb hk hzz hu
            induction k with
            | zero => rfl
            | succ k ih => simp [List.replicate_succ]
          rw [this, List.getElem?_replicate]
          simp [nbyte]
      refine append_gen (e := e) h hzc hsz hby hs (vs' := (Builtin.zeroCells z.cells k).toList) ?_ ?_ (fun base sLen sCap hle => ?_) (fun sLen sCap base olds hso h1 h2 h3 => ?_) ha
      · rw [hcells, hzz]; exact hzr.cells.flatten_replicate k
      · rw [Array.length_toList, size_zeroCells', hzc]
      · exact run_appendZ_in ht hu hi hz hzc hk hkb base sLen sCap hle
      · exact run_appendZ_new ht hu hi hz hzc hk hkb sLen sCap base olds hso h1 h2 h3
    · cases ha
  · cases ha

end
end Go.Ads
