/- A map from numbers, by their bits; made for the kernel's eyes. -/
import Derived.Calls
import Derived.Defers
import Derived.Below
import Derived.Laws.IdiomCopy
import Derived.Laws.Cells
set_option linter.unusedSimpArgs false
set_option linter.unusedVariables false
namespace Go.Ads
noncomputable section

inductive Trie (α : Type) where
  | leaf
  | node (v : Option α) (l r : Trie α)

namespace Trie
variable {α : Type}

def val (t : Trie α) : Option α := Trie.rec (motive := fun _ => Option α) none (fun v _ _ _ _ => v) t
def left (t : Trie α) : Trie α := Trie.rec (motive := fun _ => Trie α) .leaf (fun _ l _ _ _ => l) t
def right (t : Trie α) : Trie α := Trie.rec (motive := fun _ => Trie α) .leaf (fun _ _ r _ _ => r) t

def get (t : Trie α) : Nat → Option α :=
  Trie.rec (motive := fun _ => Nat → Option α) (fun _ => none)
    (fun v _ _ gl gr n => Nat.rec (motive := fun _ => Option α) v (fun m _ => cond (Nat.beq (Nat.mod m 2) 0) (gl (Nat.div m 2)) (gr (Nat.div m 2))) n) t

def setF (x : Option α) (f : Nat) : Nat → Trie α → Trie α :=
  Nat.rec (motive := fun _ => Nat → Trie α → Trie α) (fun _ t => t)
    (fun _ s n t => Trie.rec (motive := fun _ => Trie α)
      (Nat.rec (motive := fun _ => Trie α) (.node x .leaf .leaf) (fun m _ => cond (Nat.beq (Nat.mod m 2) 0) (.node none (s (Nat.div m 2) .leaf) .leaf) (.node none .leaf (s (Nat.div m 2) .leaf))) n)
      (fun v l r _ _ => Nat.rec (motive := fun _ => Trie α) (.node x l r) (fun m _ => cond (Nat.beq (Nat.mod m 2) 0) (.node v (s (Nat.div m 2) l) r) (.node v l (s (Nat.div m 2) r))) n) t) f

def set (t : Trie α) (n : Nat) (x : Option α) : Trie α := setF x (Nat.succ n) n t

theorem get_leaf (n : Nat) : (leaf : Trie α).get n = none := rfl

theorem beq_dec (a b : Nat) : a.beq b = decide (a = b) := by
  cases h : a.beq b with
  | true => simp [Nat.eq_of_beq_eq_true h]
  | false => simp [Nat.ne_of_beq_eq_false h]

theorem get_zero (t : Trie α) : t.get 0 = t.val := by cases t <;> rfl
theorem get_succ (t : Trie α) (m : Nat) : t.get (m + 1) = if m % 2 = 0 then t.left.get (m / 2) else t.right.get (m / 2) := by
  cases t with
  | leaf => show none = _; split <;> rfl
  | node v l r =>
    show cond (Nat.beq (m % 2) 0) (l.get (m / 2)) (r.get (m / 2)) = _
    rw [beq_dec, Bool.cond_decide]; rfl

theorem setF_zero (x : Option α) (f : Nat) (t : Trie α) : setF x (f + 1) 0 t = .node x t.left t.right := by cases t <;> rfl
theorem setF_succ (x : Option α) (f m : Nat) (t : Trie α) : setF x (f + 1) (m + 1) t = if m % 2 = 0 then .node t.val (setF x f (m / 2) t.left) t.right else .node t.val t.left (setF x f (m / 2) t.right) := by
  cases t with
  | leaf =>
    show cond (Nat.beq (m % 2) 0) _ _ = _
    rw [beq_dec, Bool.cond_decide]; rfl
  | node v l r =>
    show cond (Nat.beq (m % 2) 0) _ _ = _
    rw [beq_dec, Bool.cond_decide]; rfl

theorem get_setF (x : Option α) : ∀ (f : Nat) (t : Trie α) (n m : Nat), n < f → (setF x f n t).get m = if m = n then x else t.get m := by
  intro f
  induction f with
  | zero => intro t n m h; omega
  | succ f ih =>
    intro t n m h
    cases n with
    | zero =>
      rw [setF_zero]
      cases m with
      | zero => rw [get_zero]; simp [val]
      | succ m =>
        rw [get_succ, get_succ]
        simp only [Nat.add_eq_zero_iff, Nat.one_ne_zero, and_false, if_false]; rfl
    | succ n =>
      rw [setF_succ]
      cases m with
      | zero =>
        rw [get_zero, get_zero]
        have : ¬ 0 = n + 1 := by omega
        rw [if_neg this]
        split <;> rfl
      | succ m =>
        rw [get_succ, get_succ]
        by_cases h2 : n % 2 = 0
        · rw [if_pos h2]
          show (if m % 2 = 0 then (setF x f (n / 2) t.left).get (m / 2) else t.right.get (m / 2)) = _
          by_cases hm : m % 2 = 0
          · rw [if_pos hm, if_pos hm, ih _ _ _ (by omega)]
            by_cases e : m = n
            · rw [if_pos (by omega), if_pos (by omega)]
            · rw [if_neg (by omega), if_neg (by omega)]
          · rw [if_neg hm, if_neg hm, if_neg (by omega)]
        · rw [if_neg h2]
          show (if m % 2 = 0 then t.left.get (m / 2) else (setF x f (n / 2) t.right).get (m / 2)) = _
          by_cases hm : m % 2 = 0
          · rw [if_pos hm, if_pos hm, if_neg (by omega)]
          · rw [if_neg hm, if_neg hm, ih _ _ _ (by omega)]
            by_cases e : m = n
            · rw [if_pos (by omega), if_pos (by omega)]
            · rw [if_neg (by omega), if_neg (by omega)]

theorem get_set (t : Trie α) (n m : Nat) (x : Option α) : (t.set n x).get m = if m = n then x else t.get m := get_setF x _ t n m (Nat.lt_succ_self n)

end Trie
end
end Go.Ads
/- The machine's code. -/
namespace Go.Ads
noncomputable section

inductive COp where
  | mv (x : Operand)
  | pick (c a b : Operand)
  | alloc (z : List Value)
  | box (x : Operand)
  | build (zero : Array Value) (places : List (Nat × Nat)) (parts : List (Nat × Operand))
  | buildArr (zero : Array Value) (size : Nat) (parts : List (Nat × Operand))
  | buildSlice (u8 : Bool) (size len : Nat) (zero : List Value) (parts : List (Nat × Operand))
  | load1 (x : Operand)
  | loadN (n : Nat) (x : Operand)
  | store (n : Nat) (a x : Operand)
  | nilCheck (x : Operand)
  | bin (op : BinOp) (x y : Operand)
  | eqNil (neg const : Bool) (d : TypeDesc) (x y : Operand)
  | eqFlat (neg : Bool) (fs : List (Nat × TypeDesc)) (x y : Operand)
  | un (op : UnOp) (x : Operand)
  | toInt (k : IntKind) (x : Operand)
  | toStr (x : Operand)
  | toBytes (x : Operand)
  | fromBytes (x : Operand)
  | mkIface (t : TypeId) (x : Operand)
  | mkFunc (f : Fn) (first caps : List Operand)
  | mkMap
  | mkSlice (u8 : Bool) (size bytes : Nat) (zero : List Value) (l c : Operand)
  | sliceS (x : Operand) (lo hi : Option Operand)
  | slice (size : Nat) (x : Operand) (lo hi mx : Option Operand)
  | sliceA (n size : Nat) (x : Operand) (lo hi mx : Option Operand)
  | fieldAddr (off : Nat) (x : Operand)
  | field (agg : Bool) (off size : Nat) (x : Operand)
  | indexAddr (size : Nat) (x i : Operand)
  | indexAddrA (n size : Nat) (x i : Operand)
  | indexS (x i : Operand)
  | indexA (agg : Bool) (n size : Nat) (x i : Operand)
  | lookup (kd : TypeDesc) (zero : Value) (ok : Bool) (x k : Operand)
  | mapUpdate (kd : TypeDesc) (m k v : Operand)
  | extract (x : Operand) (i : Nat)
  | len (d : TypeDesc) (x : Operand)
  | lenA (n : Nat)
  | cap (x : Operand)
  | append (size bytes : Nat) (s x : Operand)
  | appendN (u8 : Bool) (size bytes : Nat) (zero : List Value) (s x : Operand)
  | copy (size : Nat) (d s : Operand)
  | max (xs : List Operand)
  | min (xs : List Operand)
  | clear (zero : List Value) (x : Operand)
  | assert (T : TypeId) (zero : Value) (ok : Bool) (x : Operand)
  | call (f : FuncId) (args : List Operand)
  | callV (x : Operand) (args : List Operand)
  | callM (tbl : List (TypeId × FuncId)) (x : Operand) (args : List Operand)
  | panic (x : Operand)
  | nilCheckM (tbl : List (TypeId × String)) (x : Operand)
  | assertI (tbl : List TypeId) (ok : Bool) (x : Operand)

abbrev Parts := List (Nat × Operand)

structure COper where
  dst : Option Tmp
  op : COp
  guard : Option (Tmp × Bool)

/-- A loop over a function, as it stands in the program. -/
structure Site where
  params : Array Tmp
  assign : Code
  body : Code

inductive CCode where
  | skip
  | region (ops : List COper)
  | draw (ops : List COper) (pairs : List (Nat × Nat))
  | seq (a b : CCode)
  | cond (c : Operand) (thn els : CCode)
  | block (id : Nat) (body : CCode)
  | loop (body : CCode)
  | exit (id : Nat)
  | ret
  | range (f : Operand) (real : Site) (assign body : CCode)

/-- What is known of a loop over a function while it runs. -/
structure ALoop where
  real : Site
  assign : CCode
  body : CCode
  ts : List Value
  state : LoopState
  jump : Option Code

end
end Go.Ads
/- The abstract heap: what a run of the program does to memory, with neither the tape nor a block's number in it; and how a world stands to it. -/
namespace Go.Ads
noncomputable section

/-- What an abstract block holds. 'loose': 0, or how many cells an element has, of a block whose array may have places behind its end. -/
inductive AObj where
  | cells (vs : List Value) (loose : Nat) (ro : Bool)
  | bytes (len n : Nat) (loose : Nat) (ro : Bool)
  | map (es : List (Value × Value))
  | loop (x : ALoop)

/-- The byte at i of a number. -/
def nbyte (n i : Nat) : Nat := n / 256 ^ i % 256

def byteV (b : Nat) : Value := .int .u8 (b : Int)

/-- The cells of a row of bytes. -/
def natCells (len n : Nat) : List Value := (List.range len).map fun i => byteV (nbyte n i)

def AObj.vals : AObj → List Value
  | .cells vs _ _ => vs
  | .bytes len n _ _ => natCells len n
  | .map _ => []
  | .loop _ => []
def AObj.size : AObj → Nat
  | .cells vs _ _ => vs.length
  | .bytes len _ _ _ => len
  | .map _ => 0
  | .loop _ => 0
def AObj.loose : AObj → Nat
  | .cells _ l _ => l
  | .bytes _ _ l _ => l
  | .map _ => 0
  | .loop _ => 0
def AObj.ro : AObj → Bool
  | .cells _ _ r => r
  | .bytes _ _ _ r => r
  | .map _ => false
  | .loop _ => false
/-- Is it anything but cells? -/
def AObj.isMap : AObj → Bool
  | .map _ => true
  | .loop _ => true
  | _ => false

structure AH where
  next : Nat
  mem : Trie AObj

def AH.get (H : AH) (b : Nat) : Option AObj := cond (Nat.blt b H.next) (H.mem.get b) none
def AH.set (H : AH) (b : Nat) (o : AObj) : AH := AH.rec (motive := fun _ => AH) (fun next mem => ⟨next, mem.set b (some o)⟩) H
def AH.kill (H : AH) (b : Nat) : AH := AH.rec (motive := fun _ => AH) (fun next mem => ⟨next, mem.set b none⟩) H
def AH.push (H : AH) (o : AObj) : AH := AH.rec (motive := fun _ => AH) (fun next mem => ⟨Nat.succ next, mem.set next (some o)⟩) H
theorem AH.set_eq (H : AH) (b : Nat) (o : AObj) : H.set b o = { H with mem := H.mem.set b (some o) } := rfl
theorem AH.kill_eq (H : AH) (b : Nat) : H.kill b = { H with mem := H.mem.set b none } := rfl
theorem AH.push_eq (H : AH) (o : AObj) : H.push o = { next := H.next + 1, mem := H.mem.set H.next (some o) } := rfl

theorem AH.get_eq (H : AH) (b : Nat) : H.get b = if b < H.next then H.mem.get b else none := by
  have : Nat.blt b H.next = decide (b < H.next) := by
    rw [Bool.eq_iff_iff, Nat.blt_eq]; simp
  unfold AH.get
  rw [this, Bool.cond_decide]
theorem AH.get_lt {H : AH} {b : Nat} {o : AObj} (h : H.get b = some o) : b < H.next := by
  rw [AH.get_eq] at h; split at h
  · assumption
  · cases h
theorem AH.get_set (H : AH) (b c : Nat) (o : AObj) : (H.set b o).get c = if c = b ∧ b < H.next then some o else H.get c := by
  simp only [AH.get_eq, AH.set_eq, Trie.get_set]
  by_cases h : c = b
  · subst h; by_cases h2 : c < H.next <;> simp [h2]
  · simp [h]
theorem AH.get_kill (H : AH) (b c : Nat) : (H.kill b).get c = if c = b then none else H.get c := by
  simp only [AH.get_eq, AH.kill_eq, Trie.get_set]
  by_cases h : c = b
  · subst h; by_cases h2 : c < H.next <;> simp [h2]
  · simp [h]
theorem AH.get_push (H : AH) (o : AObj) (c : Nat) : (H.push o).get c = if c = H.next then some o else H.get c := by
  simp only [AH.get_eq, AH.push_eq, Trie.get_set]
  by_cases h : c = H.next
  · subst h; simp
  · by_cases h2 : c < H.next
    · have : c < H.next + 1 := by omega
      simp [h, h2, this]
    · have : ¬ c < H.next + 1 := by omega
      simp [h, h2, this]
theorem AH.get_push_old {H : AH} {o x : AObj} {c : Nat} (h : H.get c = some x) : (H.push o).get c = some x := by
  rw [AH.get_push, if_neg (by have := AH.get_lt h; omega), h]
theorem AH.get_push_new (H : AH) (o : AObj) : (H.push o).get H.next = some o := by rw [AH.get_push, if_pos rfl]

/-- Where an abstract block lies: the block, its first cell, how many cells it has, how many there are from there on, whether it is loose. -/
structure Loc where
  blk : Nat
  base : Nat
  size : Nat
  total : Nat
  loose : Nat

abbrev Ren := Nat → Option Loc

/-- How an abstract address stands to one of the world's. -/
def AddrRel (ρ : Ren) (a a' : Addr) : Prop := ∃ l, ρ a.block = some l ∧ a.spot = none ∧ a' = ⟨l.blk, l.base + a.off, none⟩

/-- How a slice's bounds stand. -/
def SliceRel (ρ : Ren) (a a' : Addr) (cap cap' : Nat) : Prop :=
  ∃ l, ρ a.block = some l ∧ a.spot = none ∧ a' = ⟨l.blk, l.base + a.off, none⟩ ∧ (cap' = cap ∨ 0 < l.loose ∧ a.off + cap * l.loose = l.size ∧ cap ≤ cap' ∧ a.off + cap' * l.loose ≤ l.total)

mutual
inductive VRel (ρ : Ren) : Value → Value → Prop
  | bool (b : Bool) : VRel ρ (.bool b) (.bool b)
  | int (k : IntKind) (n : Int) : VRel ρ (.int k n) (.int k n)
  | string (s : ByteArray) : VRel ρ (.string s) (.string s)
  | nilp : VRel ρ (.pointer none) (.pointer none)
  | ptr {a a' : Addr} (h : AddrRel ρ a a') : VRel ρ (.pointer (some a)) (.pointer (some a'))
  | nils (n c : Nat) : VRel ρ (.slice none n c) (.slice none n c)
  | sl {a a' : Addr} {n c c' : Nat} (h : SliceRel ρ a a' c c') : VRel ρ (.slice (some a) n c) (.slice (some a') n c')
  | slEnd {a a' : Addr} {l : Loc} (h : ρ a.block = some l) (hs : a.spot = none) (hl : 0 < l.loose) (he : a.off = l.size) : VRel ρ (.slice (some a) 0 0) (.slice (some a') 0 0)
  | nilm : VRel ρ (.map none) (.map none)
  | map {b : Nat} {l : Loc} (h : ρ b = some l) : VRel ρ (.map (some b)) (.map (some l.blk))
  | func (fn : Fn) (hy : ∀ l, fn ≠ .yield l) {xs ys xs' ys' : Array Value} (h : VRels ρ xs.toList xs'.toList) (k : VRels ρ ys.toList ys'.toList) : VRel ρ (.func fn xs ys) (.func fn xs' ys')
  | yield {b : Nat} {l : Loc} (h : ρ b = some l) : VRel ρ (.func (.yield b) #[] #[]) (.func (.yield l.blk) #[] #[])
  | nilFunc : VRel ρ .nilFunc .nilFunc
  | iface (t : TypeId) {v v' : Value} (h : VRel ρ v v') : VRel ρ (.iface t v) (.iface t v')
  | nilIface : VRel ρ .nilIface .nilIface
  | agg {xs xs' : Array Value} (h : VRels ρ xs.toList xs'.toList) : VRel ρ (.agg xs) (.agg xs')
  | tuple {xs xs' : Array Value} (h : VRels ρ xs.toList xs'.toList) : VRel ρ (.tuple xs) (.tuple xs')
inductive VRels (ρ : Ren) : List Value → List Value → Prop
  | nil : VRels ρ [] []
  | cons {v v' : Value} {vs vs' : List Value} (h : VRel ρ v v') (t : VRels ρ vs vs') : VRels ρ (v :: vs) (v' :: vs')
end

def Ren.le (ρ ρ' : Ren) : Prop := ∀ b l, ρ b = some l → ρ' b = some l

theorem Ren.le_refl (ρ : Ren) : ρ.le ρ := fun _ _ h => h
theorem Ren.le_trans {ρ ρ' ρ'' : Ren} (h : ρ.le ρ') (k : ρ'.le ρ'') : ρ.le ρ'' := fun b l e => k b l (h b l e)

theorem AddrRel.mono {ρ ρ' : Ren} (h : ρ.le ρ') {a a' : Addr} (k : AddrRel ρ a a') : AddrRel ρ' a a' :=
  let ⟨l, e, x⟩ := k; ⟨l, h _ _ e, x⟩
theorem SliceRel.mono {ρ ρ' : Ren} (h : ρ.le ρ') {a a' : Addr} {c c' : Nat} (k : SliceRel ρ a a' c c') : SliceRel ρ' a a' c c' :=
  let ⟨l, e, x⟩ := k; ⟨l, h _ _ e, x⟩

mutual
theorem VRel.mono {ρ ρ' : Ren} (h : ρ.le ρ') {v v' : Value} (k : VRel ρ v v') : VRel ρ' v v' :=
  match k with
  | .bool b => .bool b
  | .int k n => .int k n
  | .string s => .string s
  | .nilp => .nilp
  | .ptr a => .ptr (a.mono h)
  | .nils n c => .nils n c
  | .sl a => .sl (a.mono h)
  | .slEnd e s l x => .slEnd (h _ _ e) s l x
  | .nilm => .nilm
  | .map e => .map (h _ _ e)
  | .func fn hy x y => .func fn hy (x.mono h) (y.mono h)
  | .yield e => .yield (h _ _ e)
  | .nilFunc => .nilFunc
  | .iface t x => .iface t (x.mono h)
  | .nilIface => .nilIface
  | .agg x => .agg (x.mono h)
  | .tuple x => .tuple (x.mono h)
theorem VRels.mono {ρ ρ' : Ren} (h : ρ.le ρ') {v v' : List Value} (k : VRels ρ v v') : VRels ρ' v v' :=
  match k with
  | .nil => .nil
  | .cons x t => .cons (x.mono h) (t.mono h)
end

theorem VRels.length {ρ : Ren} {vs vs' : List Value} (h : VRels ρ vs vs') : vs'.length = vs.length := by
  induction vs generalizing vs' with
  | nil => cases h; rfl
  | cons v vs ih => cases h with | cons x t => simp [ih t]

theorem VRels.append {ρ : Ren} {a a' b b' : List Value} (h : VRels ρ a a') (k : VRels ρ b b') : VRels ρ (a ++ b) (a' ++ b') := by
  induction a generalizing a' with
  | nil => cases h; exact k
  | cons v vs ih => cases h with | cons x t => exact .cons x (ih t)

theorem VRels.take {ρ : Ren} {a a' : List Value} (h : VRels ρ a a') (n : Nat) : VRels ρ (a.take n) (a'.take n) := by
  induction a generalizing a' n with
  | nil => cases h; simpa using VRels.nil
  | cons v vs ih => cases h with | cons x t => cases n with
    | zero => exact .nil
    | succ n => exact .cons x (ih t n)

theorem VRels.drop {ρ : Ren} {a a' : List Value} (h : VRels ρ a a') (n : Nat) : VRels ρ (a.drop n) (a'.drop n) := by
  induction a generalizing a' n with
  | nil => cases h; simpa using VRels.nil
  | cons v vs ih => cases h with | cons x t => cases n with
    | zero => exact .cons x t
    | succ n => exact ih t n

theorem VRels.get? {ρ : Ren} {a a' : List Value} (h : VRels ρ a a') {i : Nat} {v : Value} (e : a[i]? = some v) : ∃ v', a'[i]? = some v' ∧ VRel ρ v v' := by
  induction a generalizing a' i with
  | nil => simp at e
  | cons x xs ih => cases h with | cons hx t => cases i with
    | zero => simp only [List.getElem?_cons_zero, Option.some.injEq] at e; subst e; exact ⟨_, rfl, hx⟩
    | succ i => simp only [List.getElem?_cons_succ] at e ⊢; exact ih t e

theorem VRels.none? {ρ : Ren} {a a' : List Value} (h : VRels ρ a a') {i : Nat} (e : a[i]? = none) : a'[i]? = none := by
  rw [List.getElem?_eq_none_iff] at *; rw [h.length]; exact e

theorem VRels.getD {ρ : Ren} {a a' : List Value} (h : VRels ρ a a') (i : Nat) {d : Value} (hd : VRel ρ d d) : VRel ρ (a.getD i d) (a'.getD i d) := by
  rw [List.getD_eq_getElem?_getD, List.getD_eq_getElem?_getD]
  cases e : a[i]? with
  | none => rw [h.none? e]; exact hd
  | some v => obtain ⟨v', e', r⟩ := h.get? e; rw [e']; exact r

theorem VRels.set {ρ : Ren} {a a' : List Value} (h : VRels ρ a a') (i : Nat) {v v' : Value} (r : VRel ρ v v') : VRels ρ (a.set i v) (a'.set i v') := by
  induction a generalizing a' i with
  | nil => cases h; simpa using VRels.nil
  | cons x xs ih => cases h with | cons hx t => cases i with
    | zero => exact .cons r t
    | succ i => exact .cons hx (ih t i)

theorem VRels.of_get {ρ : Ren} : ∀ {a a' : List Value}, a'.length = a.length → (∀ (i : Nat) (v : Value), a[i]? = some v → ∃ v', a'[i]? = some v' ∧ VRel ρ v v') → VRels ρ a a' := by
  intro a
  induction a with
  | nil => intro a' hl _; cases a' with
    | nil => exact .nil
    | cons => simp at hl
  | cons x xs ih => intro a' hl h; cases a' with
    | nil => simp at hl
    | cons y ys =>
      obtain ⟨v', e, r⟩ := h 0 x rfl
      simp at e; subst e
      refine .cons r (ih (by simpa using hl) fun i v e => ?_)
      exact h (i + 1) v (by simpa using e)

theorem VRels.map_same {ρ : Ren} {α : Type} (l : List α) (f : α → Value) (h : ∀ a ∈ l, VRel ρ (f a) (f a)) : VRels ρ (l.map f) (l.map f) := by
  induction l with
  | nil => exact .nil
  | cons x xs ih => exact .cons (h x (by simp)) (ih fun a ha => h a (by simp [ha]))

theorem vrel_undef (ρ : Ren) : VRel ρ undef undef := .tuple .nil

theorem VRels.replicate {ρ : Ren} (n : Nat) {v v' : Value} (h : VRel ρ v v') : VRels ρ (List.replicate n v) (List.replicate n v') := by
  induction n with
  | zero => exact .nil
  | succ n ih => exact .cons h ih

/-- A block's cells from a place on: those that are told, and what there is of them. -/
structure RowAt (w : World) (l : Loc) (ext : Nat) (vs : List Value) (ρ : Ren) (ro : Bool) : Prop where
  size : vs.length = l.size
  block : (w.shape? l.blk).isSome = true
  cells : ∀ (i : Nat) (v : Value), vs[i]? = some v → ∃ v', w.cell? ⟨l.blk, l.base + i, none⟩ = some v' ∧ VRel ρ v v'
  there : ∀ i, i < ext → (w.cell? ⟨l.blk, l.base + i, none⟩).isSome = true
  free : ro = false → ∀ i, i < ext → w.frozen? ⟨l.blk, l.base + i, none⟩ = false

def Loc.ext (l : Loc) : Nat := if l.loose = 0 then l.size else l.total

/-- Entries of a map. -/
inductive ERel (ρ : Ren) : List (Value × Value) → List MapEntry → Prop
  | nil : ERel ρ [] []
  | cons {k v : Value} {e : MapEntry} {es : List (Value × Value)} {l : List MapEntry} (hk : VRel ρ k e.key) (hv : VRel ρ v e.val) (t : ERel ρ es l) : ERel ρ ((k, v) :: es) (e :: l)
def MapRel (ρ : Ren) (es : List (Value × Value)) (c : Array MapEntry) : Prop := ERel ρ es c.toList

/-- A loop over a function, in the world. -/
structure LoopRel (ρ : Ren) (x : ALoop) (r : Loop) : Prop where
  params : r.params = x.real.params
  assign : r.assign = x.real.assign
  body : r.body = x.real.body
  tmps : VRels ρ x.ts r.tmps.toList
  state : r.state = x.state
  jump : r.pending = x.jump

def ObjRel (ρ : Ren) (w : World) (l : Loc) : AObj → Prop
  | .loop x => (l.base = 0 ∧ l.size = 1 ∧ l.loose = 0) ∧ ∃ r, w.heap[l.blk]? = some (.loop r) ∧ LoopRel ρ x r
  | .map es => (l.base = 0 ∧ l.size = 1 ∧ l.loose = 0) ∧ ∃ c clock, w.heap[l.blk]? = some (.map c clock) ∧ MapRel ρ es c
  | o => RowAt w l l.ext o.vals ρ o.ro ∧ l.loose = o.loose ∧ l.size ≤ l.ext

structure Rel (ρ : Ren) (H : AH) (w : World) : Prop where
  obj : ∀ b o, H.get b = some o → ∃ l, ρ b = some l ∧ ObjRel ρ w l o
  dom : ∀ b l, ρ b = some l → b < H.next
  apart : ∀ b o b' o' l l', H.get b = some o → H.get b' = some o' → b ≠ b' → o.ro = false → ρ b = some l → ρ b' = some l' → l.blk = l'.blk →
    l.base + l.ext ≤ l'.base ∨ l'.base + l'.ext ≤ l.base

/-- A block of the world that an abstract block of which one may write owns. -/
def Owned (ρ : Ren) (H : AH) (r : Nat) : Prop := ∃ b o l, H.get b = some o ∧ o.ro = false ∧ ρ b = some l ∧ l.blk = r

/-- A block of the world that an abstract block lies in. -/
def Lives (ρ : Ren) (H : AH) (r : Nat) : Prop := ∃ b o l, H.get b = some o ∧ ρ b = some l ∧ l.blk = r

structure Went (ρ : Ren) (H : AH) (w : World) (ρ' : Ren) (H' : AH) (w' : World) : Prop where
  le : ρ.le ρ'
  rel : Rel ρ' H' w'
  next : H.next ≤ H'.next
  size : w.heap.size ≤ w'.heap.size
  frame : ∀ r, r < w.heap.size → ¬ Owned ρ H r → w'.heap[r]? = w.heap[r]?
  owns : ∀ r, r < w.heap.size → Owned ρ' H' r → Owned ρ H r
  lives : ∀ r, r < w.heap.size → Lives ρ' H' r → Lives ρ H r
  fresh : ∀ b l, ρ' b = some l → ρ b = some l ∨ H.next ≤ b
  loops : ∀ b x, H'.get b = some (.loop x) → ∃ y, H.get b = some (.loop y) ∧ y.real = x.real ∧ y.assign = x.assign ∧ y.body = x.body
  os : w'.os = w.os
  tape : w'.tape = w.tape
  output : w'.output = w.output

/-- As 'Went', but that loops may be told anew. -/
structure Went0 (ρ : Ren) (H : AH) (w : World) (ρ' : Ren) (H' : AH) (w' : World) : Prop where
  le : ρ.le ρ'
  rel : Rel ρ' H' w'
  next : H.next ≤ H'.next
  size : w.heap.size ≤ w'.heap.size
  frame : ∀ r, r < w.heap.size → ¬ Owned ρ H r → w'.heap[r]? = w.heap[r]?
  owns : ∀ r, r < w.heap.size → Owned ρ' H' r → Owned ρ H r
  lives : ∀ r, r < w.heap.size → Lives ρ' H' r → Lives ρ H r
  fresh : ∀ b l, ρ' b = some l → ρ b = some l ∨ H.next ≤ b
  os : w'.os = w.os
  tape : w'.tape = w.tape
  output : w'.output = w.output

def SameLoops (H H' : AH) : Prop := ∀ b x, H'.get b = some (.loop x) → ∃ y, H.get b = some (.loop y) ∧ y.real = x.real ∧ y.assign = x.assign ∧ y.body = x.body

theorem Went.to0 {ρ ρ' : Ren} {H H' : AH} {w w' : World} (h : Went ρ H w ρ' H' w') : Went0 ρ H w ρ' H' w' :=
  ⟨h.le, h.rel, h.next, h.size, h.frame, h.owns, h.lives, h.fresh, h.os, h.tape, h.output⟩
theorem Went.of0 {ρ ρ' : Ren} {H H' : AH} {w w' : World} (h : Went0 ρ H w ρ' H' w') (hl : SameLoops H H') : Went ρ H w ρ' H' w' :=
  ⟨h.le, h.rel, h.next, h.size, h.frame, h.owns, h.lives, h.fresh, hl, h.os, h.tape, h.output⟩

theorem Went0.trans {ρ ρ' ρ'' : Ren} {H H' H'' : AH} {w w' w'' : World} (h : Went0 ρ H w ρ' H' w') (k : Went0 ρ' H' w' ρ'' H'' w'') : Went0 ρ H w ρ'' H'' w'' :=
  ⟨Ren.le_trans h.le k.le, k.rel, Nat.le_trans h.next k.next, Nat.le_trans h.size k.size,
   fun r hr ho => by
    rw [k.frame r (Nat.lt_of_lt_of_le hr h.size) (fun o => ho (h.owns r hr o))]
    exact h.frame r hr ho,
   fun r hr o => h.owns r hr (k.owns r (Nat.lt_of_lt_of_le hr h.size) o),
   fun r hr o => h.lives r hr (k.lives r (Nat.lt_of_lt_of_le hr h.size) o),
   fun b l e => (k.fresh b l e).elim (h.fresh b l) (fun x => .inr (Nat.le_trans h.next x)),
   k.os.trans h.os, k.tape.trans h.tape, k.output.trans h.output⟩

theorem Went.refl {ρ : Ren} {H : AH} {w : World} (h : Rel ρ H w) : Went ρ H w ρ H w :=
  ⟨Ren.le_refl _, h, Nat.le_refl _, Nat.le_refl _, fun _ _ _ => rfl, fun _ _ h => h, fun _ _ h => h, fun _ _ h => .inl h, fun _ x e => ⟨x, e, rfl, rfl, rfl⟩, rfl, rfl, rfl⟩

theorem Went.trans {ρ ρ' ρ'' : Ren} {H H' H'' : AH} {w w' w'' : World} (h : Went ρ H w ρ' H' w') (k : Went ρ' H' w' ρ'' H'' w'') : Went ρ H w ρ'' H'' w'' :=
  ⟨Ren.le_trans h.le k.le, k.rel, Nat.le_trans h.next k.next, Nat.le_trans h.size k.size,
   fun r hr ho => by
    rw [k.frame r (Nat.lt_of_lt_of_le hr h.size) (fun o => ho (h.owns r hr o))]
    exact h.frame r hr ho,
   fun r hr o => h.owns r hr (k.owns r (Nat.lt_of_lt_of_le hr h.size) o),
   fun r hr o => h.lives r hr (k.lives r (Nat.lt_of_lt_of_le hr h.size) o),
   fun b l e => (k.fresh b l e).elim (h.fresh b l) (fun x => .inr (Nat.le_trans h.next x)),
   fun b x e => by
    obtain ⟨y, e1, a1, a2, a3⟩ := k.loops b x e
    obtain ⟨z, e2, b1, b2, b3⟩ := h.loops b y e1
    exact ⟨z, e2, b1.trans a1, b2.trans a2, b3.trans a3⟩,
   k.os.trans h.os, k.tape.trans h.tape, k.output.trans h.output⟩

/-- A draw from the tape leaves all as it is. -/
theorem Rel.drawn {ρ : Ren} {H : AH} {w : World} (h : Rel ρ H w) (n : Nat) : Rel ρ H { w with drawn := n } := by
  refine ⟨fun b o e => ?_, h.dom, h.apart⟩
  obtain ⟨l, el, ho⟩ := h.obj b o e
  refine ⟨l, el, ?_⟩
  cases o with
  | map es => exact ho
  | loop x => exact ho
  | cells vs lo ro => exact ⟨⟨ho.1.size, ho.1.block, ho.1.cells, ho.1.there, ho.1.free⟩, ho.2⟩
  | bytes len k lo ro => exact ⟨⟨ho.1.size, ho.1.block, ho.1.cells, ho.1.there, ho.1.free⟩, ho.2⟩

theorem Went.drawn {ρ : Ren} {H : AH} {w : World} (h : Rel ρ H w) (n : Nat) : Went ρ H w ρ H { w with drawn := n } :=
  ⟨Ren.le_refl _, h.drawn n, Nat.le_refl _, Nat.le_refl _, fun _ _ _ => rfl, fun _ _ h => h, fun _ _ h => h, fun _ _ h => .inl h, fun _ x e => ⟨x, e, rfl, rfl, rfl⟩, rfl, rfl, rfl⟩

end
end Go.Ads
/- What reads and writes of cells do to a world that stands to an abstract heap. -/
namespace Go.Ads
noncomputable section

def AObj.cell? : AObj → Nat → Option Value
  | .cells vs _ _, i => vs[i]?
  | .bytes len n _ _, i => bif i.blt len then some (byteV (nbyte n i)) else none
  | .map _, _ => none
  | .loop _, _ => none

theorem natCells_get? (len n i : Nat) : (natCells len n)[i]? = if i < len then some (byteV (nbyte n i)) else none := by
  unfold natCells
  by_cases h : i < len
  · simp [h]
  · simp [h]
theorem natCells_length (len n : Nat) : (natCells len n).length = len := by simp [natCells]

theorem AObj.cell?_vals (o : AObj) (i : Nat) : o.cell? i = o.vals[i]? := by
  cases o with
  | cells vs l r => rfl
  | bytes len n l r =>
    simp only [AObj.cell?, AObj.vals, natCells_get?]
    by_cases h : i < len
    · have : i.blt len = true := by simpa [Nat.blt_eq] using h
      simp [this, h]
    · have : i.blt len = false := by
        cases e : i.blt len with
        | true => exact absurd (by simpa [Nat.blt_eq] using e) h
        | false => rfl
      simp [this, h]
  | map es => simp [AObj.cell?, AObj.vals]
  | loop x => simp [AObj.cell?, AObj.vals]

theorem AObj.vals_length (o : AObj) : o.vals.length = o.size := by
  cases o with
  | cells => rfl
  | bytes => exact natCells_length _ _
  | map => rfl
  | loop => rfl

theorem ObjRel.row {ρ : Ren} {w : World} {l : Loc} {o : AObj} (h : ObjRel ρ w l o) (hm : o.isMap = false) :
    RowAt w l l.ext o.vals ρ o.ro ∧ l.loose = o.loose ∧ l.size ≤ l.ext := by
  cases o with
  | cells => exact h
  | bytes => exact h
  | map => cases hm
  | loop => cases hm

theorem ObjRel.of_row {ρ : Ren} {w : World} {l : Loc} {o : AObj} (hm : o.isMap = false)
    (h : RowAt w l l.ext o.vals ρ o.ro ∧ l.loose = o.loose ∧ l.size ≤ l.ext) : ObjRel ρ w l o := by
  cases o with
  | cells => exact h
  | bytes => exact h
  | map => cases hm
  | loop => cases hm

theorem RowAt.of_same {ρ : Ren} {w w' : World} {l : Loc} {ext : Nat} {vs : List Value} {ro : Bool} (hb : w'.heap[l.blk]? = w.heap[l.blk]?) (h : RowAt w l ext vs ρ ro) :
    RowAt w' l ext vs ρ ro :=
  ⟨h.size, by simpa [World.shape?, hb] using h.block, fun i v e => by simpa [World.cell?, hb] using h.cells i v e,
   fun i hi => by simpa [World.cell?, hb] using h.there i hi, fun hr i hi => by simpa [World.frozen?, hb] using h.free hr i hi⟩

theorem ObjRel.of_same {ρ : Ren} {w w' : World} {l : Loc} {o : AObj} (hb : w'.heap[l.blk]? = w.heap[l.blk]?) (h : ObjRel ρ w l o) : ObjRel ρ w' l o := by
  cases o with
  | cells vs lo ro => exact ⟨h.1.of_same hb, h.2⟩
  | bytes len n lo ro => exact ⟨h.1.of_same hb, h.2⟩
  | map es => obtain ⟨hz, c, k, e, m⟩ := h; exact ⟨hz, c, k, by rw [hb, e], m⟩
  | loop x => obtain ⟨hz, r, e, m⟩ := h; exact ⟨hz, r, by rw [hb, e], m⟩

theorem RowAt.mono {ρ ρ' : Ren} (hr : ρ.le ρ') {w : World} {l : Loc} {ext : Nat} {vs : List Value} {ro : Bool} (h : RowAt w l ext vs ρ ro) : RowAt w l ext vs ρ' ro :=
  ⟨h.size, h.block, fun i v e => let ⟨v', e', r⟩ := h.cells i v e; ⟨v', e', r.mono hr⟩, h.there, h.free⟩

theorem ERel.mono {ρ ρ' : Ren} (hr : ρ.le ρ') {es : List (Value × Value)} {c : List MapEntry} (h : ERel ρ es c) : ERel ρ' es c := by
  induction h with
  | nil => exact .nil
  | cons hk hv _ ih => exact .cons (hk.mono hr) (hv.mono hr) ih
theorem MapRel.mono {ρ ρ' : Ren} (hr : ρ.le ρ') {es : List (Value × Value)} {c : Array MapEntry} (h : MapRel ρ es c) : MapRel ρ' es c := ERel.mono hr h

theorem LoopRel.mono {ρ ρ' : Ren} (hr : ρ.le ρ') {x : ALoop} {r : Loop} (h : LoopRel ρ x r) : LoopRel ρ' x r := ⟨h.params, h.assign, h.body, h.tmps.mono hr, h.state, h.jump⟩

theorem ObjRel.mono {ρ ρ' : Ren} (hr : ρ.le ρ') {w : World} {l : Loc} {o : AObj} (h : ObjRel ρ w l o) : ObjRel ρ' w l o := by
  cases o with
  | cells vs lo ro => exact ⟨h.1.mono hr, h.2⟩
  | bytes len n lo ro => exact ⟨h.1.mono hr, h.2⟩
  | map es => obtain ⟨hz, c, k, e, m⟩ := h; exact ⟨hz, c, k, e, m.mono hr⟩
  | loop x => obtain ⟨hz, r, e, m⟩ := h; exact ⟨hz, r, e, m.mono hr⟩

theorem ObjRel.lt {ρ : Ren} {w : World} {l : Loc} {o : AObj} (h : ObjRel ρ w l o) : l.blk < w.heap.size := by
  rcases Nat.lt_or_ge l.blk w.heap.size with hlt | hge
  · exact hlt
  · exfalso
    have e : w.heap[l.blk]? = none := Array.getElem?_eq_none hge
    cases o with
    | cells vs lo ro => have := h.1.block; simp [World.shape?, e] at this
    | bytes len n lo ro => have := h.1.block; simp [World.shape?, e] at this
    | map es => obtain ⟨_, c, k, e', _⟩ := h; rw [e] at e'; cases e'
    | loop x => obtain ⟨_, r, e', _⟩ := h; rw [e] at e'; cases e'

/-- A cell that is read. -/
theorem Rel.load {ρ : Ren} {H : AH} {w : World} (h : Rel ρ H w) {a a' : Addr} {o : AObj} {v : Value} (ha : AddrRel ρ a a') (ho : H.get a.block = some o)
    (hv : o.cell? a.off = some v) : ∃ v', w.cell? a' = some v' ∧ VRel ρ v v' := by
  obtain ⟨l, el, hs, rfl⟩ := ha
  obtain ⟨l', el', hobj⟩ := h.obj _ _ ho
  rw [el] at el'; cases el'
  have hm : o.isMap = false := by cases o with
    | map => cases hv
    | loop => cases hv
    | _ => rfl
  rw [AObj.cell?_vals] at hv
  exact (hobj.row hm).1.cells _ _ hv

section setCells
theorem shape?_setCell (w : World) (a : Addr) (v : Value) (r : Nat) : (w.setCell a v).shape? r = w.shape? r := by
  simp only [World.shape?, World.setCell, Array.getElem?_modify]
  by_cases hab : a.block = r
  · subst hab
    cases hh : w.heap[a.block]? with
    | none => simp
    | some o =>
      cases o with
      | cells c t f => simp only [if_true, Option.map_some]; split <;> simp
      | _ => simp
  · simp [hab]

theorem heap_setCell_size (w : World) (a : Addr) (v : Value) : (w.setCell a v).heap.size = w.heap.size := by simp [World.setCell]
theorem heap_setCell_other (w : World) (a : Addr) (v : Value) {r : Nat} (h : r ≠ a.block) : (w.setCell a v).heap[r]? = w.heap[r]? := by
  simp only [World.setCell, Array.getElem?_modify]; rw [if_neg (fun e => h e.symm)]

theorem setCells_shape (b : Nat) : ∀ (vs : List Value) (o : Nat) (w : World) (r : Nat), (w.setCells b o vs).shape? r = w.shape? r
  | [], _, _, _ => rfl
  | v :: vs, o, w, r => by rw [World.setCells, setCells_shape b vs, shape?_setCell]
theorem setCells_size (b : Nat) : ∀ (vs : List Value) (o : Nat) (w : World), (w.setCells b o vs).heap.size = w.heap.size
  | [], _, _ => rfl
  | v :: vs, o, w => by rw [World.setCells, setCells_size b vs, heap_setCell_size]
theorem setCells_other (b : Nat) : ∀ (vs : List Value) (o : Nat) (w : World) (r : Nat), r ≠ b → (w.setCells b o vs).heap[r]? = w.heap[r]?
  | [], _, _, _, _ => rfl
  | v :: vs, o, w, r, h => by rw [World.setCells, setCells_other b vs _ _ r h, heap_setCell_other _ _ _ h]
theorem setCells_os (b : Nat) : ∀ (vs : List Value) (o : Nat) (w : World), (w.setCells b o vs).os = w.os ∧ (w.setCells b o vs).tape = w.tape ∧ (w.setCells b o vs).output = w.output
  | [], _, _ => ⟨rfl, rfl, rfl⟩
  | v :: vs, o, w => by rw [World.setCells]; exact setCells_os b vs _ _
end setCells

theorem isSome_setCells (b o : Nat) (vs : List Value) (w : World) (x : Addr) (h : (w.cell? x).isSome = true) : ((w.setCells b o vs).cell? x).isSome = true := by
  have key : ∀ (vs : List Value) (o : Nat) (w : World), (w.cell? x).isSome = true → ((w.setCells b o vs).cell? x).isSome = true := by
    intro vs
    induction vs with
    | nil => intro o w h; exact h
    | cons v vs ih =>
      intro o w h
      rw [World.setCells]
      refine ih _ _ ?_
      by_cases e : (⟨b, o, none⟩ : Addr) = x
      · subst e
        obtain ⟨u, hu⟩ := Option.isSome_iff_exists.1 h
        rw [World.cell?_setCell_same _ _ _ hu]; rfl
      · rw [World.cell?_setCell_other _ _ _ _ e]; exact h
  exact key vs o w h

/-- What lies apart from the cells that are written stays. -/
theorem ObjRel.setCells_apart {ρ : Ren} {w : World} {l : Loc} {o : AObj} (b s : Nat) (vs : List Value) (h : ObjRel ρ w l o)
    (hb : (w.shape? b).isSome = true) (hap : l.blk = b → s + vs.length ≤ l.base ∨ l.base + l.ext ≤ s) : ObjRel ρ (w.setCells b s vs) l o := by
  by_cases hm : o.isMap = true
  · cases o with
    | map es =>
      obtain ⟨hz, c, k, e, m⟩ := h
      have hne : l.blk ≠ b := by
        rintro rfl
        simp [World.shape?, e] at hb
      exact ⟨hz, c, k, by rw [setCells_other _ _ _ _ _ hne, e], m⟩
    | loop x =>
      obtain ⟨hz, r, e, m⟩ := h
      have hne : l.blk ≠ b := by
        rintro rfl
        simp [World.shape?, e] at hb
      exact ⟨hz, r, by rw [setCells_other _ _ _ _ _ hne, e], m⟩
    | _ => cases hm
  · have hm' : o.isMap = false := by simpa using hm
    obtain ⟨hr, hl, hse⟩ := h.row hm'
    refine ObjRel.of_row hm' ⟨⟨hr.size, by rw [setCells_shape]; exact hr.block, fun i v e => ?_, fun i hi => isSome_setCells _ _ _ _ _ (hr.there i hi),
      fun hro i hi => by rw [World.frozen?_setCells]; exact hr.free hro i hi⟩, hl, hse⟩
    have hi : i < l.ext := by
      have : i < o.vals.length := (List.getElem?_eq_some_iff.1 e).1
      rw [hr.size] at this; omega
    rw [World.cell?_setCells_out b vs s w _ (fun h1 _ => by have := hap h1; simp only; omega)]
    exact hr.cells i v e

/-- Cells of a block that one may write are written. -/
theorem Rel.store {ρ : Ren} {H : AH} {w : World} (h : Rel ρ H w) {b : Nat} {o o' : AObj} {l : Loc} (hb : H.get b = some o) (hro : o.ro = false) (hl : ρ b = some l)
    (hm : o.isMap = false) (hm' : o'.isMap = false) (hsz : o'.size = o.size) (hlo : o'.loose = o.loose) (hro' : o'.ro = false) {off : Nat} {vs' : List Value}
    (hfit : off + vs'.length ≤ o.size)
    (hnew : ∀ (i : Nat) (v : Value), o'.vals[i]? = some v → (off ≤ i ∧ i < off + vs'.length → ∃ v', vs'[i - off]? = some v' ∧ VRel ρ v v') ∧ (¬ (off ≤ i ∧ i < off + vs'.length) → o.vals[i]? = some v)) :
    Went ρ H w ρ (H.set b o') (w.setCells l.blk (l.base + off) vs') := by
  obtain ⟨l0, e0, hobj⟩ := h.obj b o hb
  rw [hl] at e0; cases e0
  obtain ⟨hr, hlo2, hse⟩ := hobj.row hm
  have hblt := AH.get_lt hb
  have hos : o.size = l.size := by rw [← AObj.vals_length, hr.size]
  have key : ∀ c x, (H.set b o').get c = some x → (c = b ∧ x = o') ∨ (c ≠ b ∧ H.get c = some x) := by
    intro c x e
    rw [AH.get_set] at e
    by_cases hc : c = b
    · rw [if_pos ⟨hc, hblt⟩] at e; cases e; exact .inl ⟨hc, rfl⟩
    · rw [if_neg (fun z => hc z.1)] at e; exact .inr ⟨hc, e⟩
  have hroEq : ∀ c x, (H.set b o').get c = some x → ∃ y, H.get c = some y ∧ (x.ro = y.ro) := by
    intro c x e
    rcases key c x e with ⟨rfl, rfl⟩ | ⟨hc, e'⟩
    · exact ⟨o, hb, by rw [hro, hro']⟩
    · exact ⟨x, e', rfl⟩
  have hrel : Rel ρ (H.set b o') (w.setCells l.blk (l.base + off) vs') := by
    refine ⟨fun c x e => ?_, fun c k e => h.dom c k e, fun c x c' x' k k' e e' hne hxr hk hk' hblk => ?_⟩
    · rcases key c x e with ⟨rfl, rfl⟩ | ⟨hc, e'⟩
      · refine ⟨l, hl, ObjRel.of_row hm' ⟨⟨by rw [AObj.vals_length, hsz, hos], by rw [setCells_shape]; exact hr.block, fun i v ev => ?_,
          fun i hi => isSome_setCells _ _ _ _ _ (hr.there i hi), fun _ i hi => by rw [World.frozen?_setCells]; exact hr.free hro i hi⟩, by rw [hlo, hlo2], hse⟩⟩
        obtain ⟨hin, hout⟩ := hnew i v ev
        by_cases hi : off ≤ i ∧ i < off + vs'.length
        · obtain ⟨v', ev', r⟩ := hin hi
          refine ⟨v', ?_, r⟩
          have := World.cell?_setCells_in l.blk vs' (l.base + off) w (fun j hj => by
            have := hr.there (off + j) (by omega)
            rwa [show l.base + off + j = l.base + (off + j) by omega]) (i - off) (by omega)
          rw [show l.base + off + (i - off) = l.base + i by omega] at this
          rw [this]
          rw [List.getElem?_eq_getElem (by omega)] at ev'
          exact ev'
        · obtain ⟨v', ev', r⟩ := hr.cells i v (hout hi)
          refine ⟨v', ?_, r⟩
          rw [World.cell?_setCells_out _ _ _ _ _ (fun _ _ => by simp only; omega)]
          exact ev'
      · obtain ⟨k, ek, hk⟩ := h.obj c x e'
        refine ⟨k, ek, hk.setCells_apart _ _ _ hr.block (fun hbk => ?_)⟩
        have := h.apart b o c x l k hb e' (fun z => hc z.symm) hro hl ek hbk.symm
        omega
    · obtain ⟨y, ey, hy⟩ := hroEq c x e
      obtain ⟨y', ey', _⟩ := hroEq c' x' e'
      exact h.apart c y c' y' k k' ey ey' hne (by rw [← hy]; exact hxr) hk hk' hblk
  refine ⟨Ren.le_refl _, hrel, Nat.le_refl _, by rw [setCells_size]; exact Nat.le_refl _, fun r _ hno => ?_, fun r _ ho => ?_, fun r _ ho => ?_, fun _ _ h => .inl h, fun c x e => ?_, (setCells_os _ _ _ _).1, (setCells_os _ _ _ _).2.1, (setCells_os _ _ _ _).2.2⟩
  · refine setCells_other _ _ _ _ _ (fun e => hno ⟨b, o, l, hb, hro, hl, e.symm⟩)
  · obtain ⟨c, x, k, e, hxr, hk, hbk⟩ := ho
    obtain ⟨y, ey, hy⟩ := hroEq c x e
    exact ⟨c, y, k, ey, by rw [← hy]; exact hxr, hk, hbk⟩
  · obtain ⟨c, x, k, e, hk, hbk⟩ := ho
    obtain ⟨y, ey, _⟩ := hroEq c x e
    exact ⟨c, y, k, ey, hk, hbk⟩
  · rcases key c _ e with ⟨_, h2⟩ | ⟨_, e'⟩
    · rw [← h2] at hm'; cases hm'
    · exact ⟨x, e', rfl, rfl, rfl⟩

/-- The renaming with one block more. -/
def Ren.put (ρ : Ren) (b : Nat) (l : Loc) : Ren := fun c => if c = b then some l else ρ c

theorem Rel.fresh {ρ : Ren} {H : AH} {w : World} (h : Rel ρ H w) : ρ H.next = none := by
  cases e : ρ H.next with
  | none => rfl
  | some l => exact absurd (h.dom _ _ e) (by omega)

theorem Rel.le_put {ρ : Ren} {H : AH} {w : World} (h : Rel ρ H w) (l : Loc) : ρ.le (ρ.put H.next l) := by
  intro b k e
  unfold Ren.put
  rw [if_neg (by have := h.dom _ _ e; omega), e]

/-- A world to which a block is laid. -/
theorem alloc_old {w : World} (o : Obj) {r : Nat} (h : r < w.heap.size) : (w.alloc o).heap[r]? = w.heap[r]? := by
  show (w.heap.push o)[r]? = _
  rw [Array.getElem?_push, if_neg (Nat.ne_of_lt h)]

theorem Rel.push0 {ρ : Ren} {H : AH} {w : World} (h : Rel ρ H w) (o : AObj) (ob : Obj) (l : Loc) (hblk : l.blk = w.heap.size)
    (hnew : ObjRel (ρ.put H.next l) (w.alloc ob) l o) : Went0 ρ H w (ρ.put H.next l) (H.push o) (w.alloc ob) := by
  have hle := h.le_put l
  have hput : (ρ.put H.next l) H.next = some l := by simp [Ren.put]
  have key : ∀ c x, (H.push o).get c = some x → (c = H.next ∧ x = o) ∨ (c ≠ H.next ∧ H.get c = some x) := by
    intro c x e
    rw [AH.get_push] at e
    by_cases hc : c = H.next
    · rw [if_pos hc] at e; cases e; exact .inl ⟨hc, rfl⟩
    · rw [if_neg hc] at e; exact .inr ⟨hc, e⟩
  have hold : ∀ c x, H.get c = some x → ∃ k, ρ c = some k ∧ (ρ.put H.next l) c = some k ∧ ObjRel ρ w k x ∧ k.blk < w.heap.size := by
    intro c x e
    obtain ⟨k, ek, hk⟩ := h.obj c x e
    exact ⟨k, ek, hle _ _ ek, hk, hk.lt⟩
  have hrel : Rel (ρ.put H.next l) (H.push o) (w.alloc ob) := by
    refine ⟨fun c x e => ?_, fun c k e => ?_, fun c x c' x' k k' e e' hne hxr hk hk' hbb => ?_⟩
    · rcases key c x e with ⟨rfl, rfl⟩ | ⟨_, e'⟩
      · exact ⟨l, hput, hnew⟩
      · obtain ⟨k, _, ek, hk, hlt⟩ := hold c x e'
        exact ⟨k, ek, (hk.mono hle).of_same (alloc_old ob hlt)⟩
    · show c < H.next + 1
      unfold Ren.put at e
      by_cases hc : c = H.next
      · omega
      · rw [if_neg hc] at e; have := h.dom _ _ e; omega
    · rcases key c x e with ⟨rfl, rfl⟩ | ⟨hc, ex⟩
      · rw [hput] at hk; cases hk
        rcases key c' x' e' with ⟨rfl, rfl⟩ | ⟨hc', ex'⟩
        · exact absurd rfl hne
        · obtain ⟨k2, _, ek2, _, hlt2⟩ := hold c' x' ex'
          rw [hk'] at ek2; cases ek2
          omega
      · obtain ⟨k1, e1, ek1, _, hlt1⟩ := hold c x ex
        rw [hk] at ek1; cases ek1
        rcases key c' x' e' with ⟨rfl, rfl⟩ | ⟨hc', ex'⟩
        · rw [hput] at hk'; cases hk'
          omega
        · obtain ⟨k2, e2, ek2, _, _⟩ := hold c' x' ex'
          rw [hk'] at ek2; cases ek2
          exact h.apart c x c' x' k k' ex ex' hne hxr e1 e2 hbb
  refine ⟨hle, hrel, Nat.le_succ _, by show _ ≤ (w.heap.push ob).size; simp, fun r hr _ => alloc_old ob hr, fun r hr ho => ?_, fun r hr ho => ?_, fun b k e => ?_, rfl, rfl, rfl⟩
  rotate_right 1
  · unfold Ren.put at e
    by_cases hc : b = H.next
    · exact .inr (by omega)
    · rw [if_neg hc] at e; exact .inl e
  rotate_right 1
  · obtain ⟨c, x, k, e, hk, hbk⟩ := ho
    rcases key c x e with ⟨rfl, rfl⟩ | ⟨_, ex⟩
    · rw [hput] at hk; cases hk; omega
    · obtain ⟨k1, e1, ek1, _, _⟩ := hold c x ex
      rw [hk] at ek1; cases ek1
      exact ⟨c, x, k, ex, e1, hbk⟩
  obtain ⟨c, x, k, e, hxr, hk, hbk⟩ := ho
  rcases key c x e with ⟨rfl, rfl⟩ | ⟨_, ex⟩
  · rw [hput] at hk; cases hk; omega
  · obtain ⟨k1, e1, ek1, _, _⟩ := hold c x ex
    rw [hk] at ek1; cases ek1
    exact ⟨c, x, k, ex, hxr, e1, hbk⟩

theorem Rel.push {ρ : Ren} {H : AH} {w : World} (h : Rel ρ H w) (o : AObj) (ob : Obj) (l : Loc) (hblk : l.blk = w.heap.size)
    (hnew : ObjRel (ρ.put H.next l) (w.alloc ob) l o) (hlo : ∀ x, o ≠ .loop x := by intro x e; cases e) : Went ρ H w (ρ.put H.next l) (H.push o) (w.alloc ob) :=
  .of0 (h.push0 o ob l hblk hnew) fun b x e => by
    rw [AH.get_push] at e
    split at e
    · simp only [Option.some.injEq] at e; exact absurd e (hlo x)
    · exact ⟨x, e, rfl, rfl, rfl⟩

/-- Less is told. -/
theorem Went.weaken {ρ ρ' : Ren} {H H' H'' : AH} {w w' : World} (h : Went ρ H w ρ' H' w') (hn : H'.next ≤ H''.next) (hs : ∀ b o, H''.get b = some o → H'.get b = some o) :
    Went ρ H w ρ' H'' w' :=
  ⟨h.le, ⟨fun b o e => h.rel.obj b o (hs b o e), fun b l e => Nat.lt_of_lt_of_le (h.rel.dom b l e) hn,
    fun b o b' o' l l' e e' => h.rel.apart b o b' o' l l' (hs _ _ e) (hs _ _ e')⟩, Nat.le_trans h.next hn, h.size, h.frame,
   fun r hr ⟨b, o, l, e, x⟩ => h.owns r hr ⟨b, o, l, hs _ _ e, x⟩, fun r hr ⟨b, o, l, e, x⟩ => h.lives r hr ⟨b, o, l, hs _ _ e, x⟩, h.fresh, fun b x e => h.loops b x (hs _ _ e), h.os, h.tape, h.output⟩

theorem Went0.weaken {ρ ρ' : Ren} {H H' H'' : AH} {w w' : World} (h : Went0 ρ H w ρ' H' w') (hn : H'.next ≤ H''.next) (hs : ∀ b o, H''.get b = some o → H'.get b = some o) :
    Went0 ρ H w ρ' H'' w' :=
  ⟨h.le, ⟨fun b o e => h.rel.obj b o (hs b o e), fun b l e => Nat.lt_of_lt_of_le (h.rel.dom b l e) hn,
    fun b o b' o' l l' e e' => h.rel.apart b o b' o' l l' (hs _ _ e) (hs _ _ e')⟩, Nat.le_trans h.next hn, h.size, h.frame,
   fun r hr ⟨b, o, l, e, x⟩ => h.owns r hr ⟨b, o, l, hs _ _ e, x⟩, fun r hr ⟨b, o, l, e, x⟩ => h.lives r hr ⟨b, o, l, hs _ _ e, x⟩, h.fresh, h.os, h.tape, h.output⟩

/-- An append that finds room behind the end of a loose block. -/
theorem Rel.grow {ρ : Ren} {H : AH} {w : World} (h : Rel ρ H w) {b : Nat} {o o2 : AObj} {l : Loc} (hb : H.get b = some o) (hro : o.ro = false) (hl : ρ b = some l)
    (hm : o.isMap = false) (hm2 : o2.isMap = false) (hlo : 0 < o.loose) (hlo2 : o2.loose = o.loose) (hro2 : o2.ro = false) {off n : Nat} {vs' : List Value}
    (hsz : o2.size = n + vs'.length) (hfit : off + n + vs'.length ≤ l.total)
    (hnew : ∀ (i : Nat) (v : Value), o2.vals[i]? = some v → (i < n → o.vals[off + i]? = some v) ∧ (n ≤ i → ∃ v', vs'[i - n]? = some v' ∧ VRel ρ v v')) :
    Went ρ H w (ρ.put H.next ⟨l.blk, l.base + off, n + vs'.length, l.total - off, l.loose⟩) ((H.kill b).push o2) (w.setCells l.blk (l.base + off + n) vs') := by
  obtain ⟨l0, e0, hobj⟩ := h.obj b o hb
  rw [hl] at e0; cases e0
  obtain ⟨hr, hloE, hse⟩ := hobj.row hm
  have hext : l.ext = l.total := by unfold Loc.ext; rw [if_neg (by omega)]
  have hos : o.size = l.size := by rw [← AObj.vals_length, hr.size]
  generalize hL : (⟨l.blk, l.base + off, n + vs'.length, l.total - off, l.loose⟩ : Loc) = L
  have Lblk : L.blk = l.blk := by rw [← hL]
  have Lbase : L.base = l.base + off := by rw [← hL]
  have Lsize : L.size = n + vs'.length := by rw [← hL]
  have Lloose : L.loose = l.loose := by rw [← hL]
  have Lext : L.ext = l.total - off := by unfold Loc.ext; rw [← hL]; simp only; rw [if_neg (by omega)]
  have hnext : (H.kill b).next = H.next := rfl
  have hle := h.le_put L
  have hput : (ρ.put H.next L) H.next = some L := by simp [Ren.put]
  have key : ∀ c x, ((H.kill b).push o2).get c = some x → (c = H.next ∧ x = o2) ∨ (c ≠ b ∧ H.get c = some x) := by
    intro c x e
    rw [AH.get_push] at e
    by_cases hc : c = H.next
    · rw [if_pos (by rw [hnext]; exact hc)] at e; cases e; exact .inl ⟨hc, rfl⟩
    · rw [if_neg (by rw [hnext]; exact hc), AH.get_kill] at e
      by_cases hcb : c = b
      · rw [if_pos hcb] at e; cases e
      · rw [if_neg hcb] at e; exact .inr ⟨hcb, e⟩
  have hsame : ∀ c x, c ≠ b → H.get c = some x → ∃ k, ρ c = some k ∧ (ρ.put H.next L) c = some k ∧ ObjRel ρ w k x ∧ (k.blk = l.blk → k.base + k.ext ≤ l.base ∨ l.base + l.ext ≤ k.base) := by
    intro c x hc e
    obtain ⟨k, ek, hk⟩ := h.obj c x e
    refine ⟨k, ek, hle _ _ ek, hk, fun hbk => ?_⟩
    have := h.apart b o c x l k hb e (fun z => hc z.symm) hro hl ek hbk.symm
    omega
  have hrel : Rel (ρ.put H.next L) ((H.kill b).push o2) (w.setCells l.blk (l.base + off + n) vs') := by
    refine ⟨fun c x e => ?_, fun c k e => ?_, fun c x c' x' k k' e e' hne hxr hk hk' hbb => ?_⟩
    · rcases key c x e with ⟨rfl, rfl⟩ | ⟨hc, e'⟩
      · refine ⟨L, hput, ObjRel.of_row hm2 ⟨⟨by rw [AObj.vals_length, hsz, Lsize], by rw [setCells_shape, Lblk]; exact hr.block, fun i v ev => ?_, fun i hi => ?_, fun _ i hi => ?_⟩, by rw [Lloose, hlo2, hloE], by rw [Lsize, Lext]; omega⟩⟩
        · obtain ⟨h1, h2⟩ := hnew i v ev
          rw [Lblk, Lbase]
          by_cases hi : i < n
          · obtain ⟨v', ev', r⟩ := hr.cells _ v (h1 hi)
            refine ⟨v', ?_, r.mono hle⟩
            rw [World.cell?_setCells_out _ _ _ _ _ (fun _ _ => by simp only; omega)]
            rw [← ev', Nat.add_assoc]
          · obtain ⟨v', ev', r⟩ := h2 (by omega)
            refine ⟨v', ?_, r.mono hle⟩
            have hlt : i - n < vs'.length := (List.getElem?_eq_some_iff.1 ev').1
            have := World.cell?_setCells_in l.blk vs' (l.base + off + n) w (fun j hj => by
              have := hr.there (off + n + j) (by omega)
              rwa [show l.base + off + n + j = l.base + (off + n + j) by omega]) (i - n) hlt
            rw [show l.base + off + n + (i - n) = l.base + off + i by omega] at this
            rw [this]
            rw [List.getElem?_eq_getElem hlt] at ev'
            exact ev'
        · rw [Lblk, Lbase]
          refine isSome_setCells _ _ _ _ _ ?_
          have := hr.there (off + i) (by omega)
          rwa [show l.base + off + i = l.base + (off + i) by omega]
        · rw [World.frozen?_setCells, Lblk, Lbase]
          have := hr.free hro (off + i) (by omega)
          rwa [show l.base + off + i = l.base + (off + i) by omega]
      · obtain ⟨k, _, ek, hk, hap⟩ := hsame c x hc e'
        exact ⟨k, ek, (hk.mono hle).setCells_apart _ _ _ hr.block (fun hbk => by have := hap hbk; omega)⟩
    · show c < H.next + 1
      unfold Ren.put at e
      by_cases hc : c = H.next
      · omega
      · rw [if_neg hc] at e; have := h.dom _ _ e; omega
    · rcases key c x e with ⟨rfl, rfl⟩ | ⟨hc, ex⟩
      · rw [hput] at hk; cases hk
        rcases key c' x' e' with ⟨rfl, rfl⟩ | ⟨hc', ex'⟩
        · exact absurd rfl hne
        · obtain ⟨k2, _, ek2, _, hap⟩ := hsame c' x' hc' ex'
          rw [hk'] at ek2; cases ek2
          have := hap (by rw [← hbb, Lblk])
          omega
      · obtain ⟨k1, e1, ek1, _, hap⟩ := hsame c x hc ex
        rw [hk] at ek1; cases ek1
        rcases key c' x' e' with ⟨rfl, rfl⟩ | ⟨hc', ex'⟩
        · rw [hput] at hk'; cases hk'
          have := hap (by rw [hbb, Lblk])
          omega
        · obtain ⟨k2, e2, ek2, _, _⟩ := hsame c' x' hc' ex'
          rw [hk'] at ek2; cases ek2
          exact h.apart c x c' x' k k' ex ex' hne hxr e1 e2 hbb
  refine ⟨hle, hrel, Nat.le_succ _, by rw [setCells_size]; exact Nat.le_refl _, fun r _ hno => ?_, fun r hr2 ho => ?_, fun r hr2 ho => ?_, fun c k e => ?_, fun c x e => (key c _ e).elim (fun z => by rw [← z.2] at hm2; cases hm2) (fun z => ⟨x, z.2, rfl, rfl, rfl⟩), (setCells_os _ _ _ _).1, (setCells_os _ _ _ _).2.1, (setCells_os _ _ _ _).2.2⟩
  rotate_right 1
  · unfold Ren.put at e
    by_cases hc : c = H.next
    · exact .inr (by omega)
    · rw [if_neg hc] at e; exact .inl e
  rotate_right 1
  · obtain ⟨c, x, k, e, hk, hbk⟩ := ho
    rcases key c x e with ⟨rfl, rfl⟩ | ⟨hc, ex⟩
    · rw [hput] at hk; cases hk
      exact ⟨b, o, l, hb, hl, by rw [← Lblk]; exact hbk⟩
    · obtain ⟨k1, e1, ek1, _, _⟩ := hsame c x hc ex
      rw [hk] at ek1; cases ek1
      exact ⟨c, x, k, ex, e1, hbk⟩
  · exact setCells_other _ _ _ _ _ (fun e => hno ⟨b, o, l, hb, hro, hl, e.symm⟩)
  · obtain ⟨c, x, k, e, hxr, hk, hbk⟩ := ho
    rcases key c x e with ⟨rfl, rfl⟩ | ⟨hc, ex⟩
    · rw [hput] at hk; cases hk
      exact ⟨b, o, l, hb, hro, hl, by rw [← Lblk]; exact hbk⟩
    · obtain ⟨k1, e1, ek1, _, _⟩ := hsame c x hc ex
      rw [hk] at ek1; cases ek1
      exact ⟨c, x, k, ex, hxr, e1, hbk⟩

/-- A map is turned. -/
theorem Rel.mapSet {ρ : Ren} {H : AH} {w : World} (h : Rel ρ H w) {b : Nat} {es es' : List (Value × Value)} {l : Loc} (hb : H.get b = some (.map es)) (hl : ρ b = some l)
    {c' : Array MapEntry} (clock' : Nat) (hnew : MapRel ρ es' c') :
    Went ρ H w ρ (H.set b (.map es')) { w with heap := w.heap.setIfInBounds l.blk (.map c' clock') } := by
  obtain ⟨l0, e0, hz, c, k, ew, hmr⟩ := h.obj b _ hb
  rw [hl] at e0; cases e0
  have hblt := AH.get_lt hb
  have hlt : l.blk < w.heap.size := by
    rcases Nat.lt_or_ge l.blk w.heap.size with h1 | h1
    · exact h1
    · rw [Array.getElem?_eq_none h1] at ew; cases ew
  have key : ∀ c x, (H.set b (.map es')).get c = some x → (c = b ∧ x = .map es') ∨ (c ≠ b ∧ H.get c = some x) := by
    intro c x e
    rw [AH.get_set] at e
    by_cases hc : c = b
    · rw [if_pos ⟨hc, hblt⟩] at e; cases e; exact .inl ⟨hc, rfl⟩
    · rw [if_neg (fun z => hc z.1)] at e; exact .inr ⟨hc, e⟩
  have hroEq : ∀ c x, (H.set b (.map es')).get c = some x → ∃ y, H.get c = some y ∧ (x.ro = y.ro) ∧ (c = b ∨ x = y) := by
    intro c x e
    rcases key c x e with ⟨rfl, rfl⟩ | ⟨hc, e'⟩
    · exact ⟨_, hb, rfl, .inl rfl⟩
    · exact ⟨x, e', rfl, .inr rfl⟩
  have hother : ∀ r, r ≠ l.blk → (w.heap.setIfInBounds l.blk (.map c' clock'))[r]? = w.heap[r]? := by
    intro r hr
    rw [Array.getElem?_setIfInBounds, if_neg (fun e => hr e.symm)]
  refine ⟨Ren.le_refl _, ⟨fun c x e => ?_, fun c k e => h.dom c k e, fun c x c'' x' k k' e e' hne hxr hk hk' hblk => ?_⟩, Nat.le_refl _, by simp, fun r _ hno => ?_, fun r _ ho => ?_, fun r _ ho => ?_, fun _ _ h => .inl h, fun c x e => (key c _ e).elim (fun z => by cases z.2) (fun z => ⟨x, z.2, rfl, rfl, rfl⟩), rfl, rfl, rfl⟩
  · rcases key c x e with ⟨rfl, rfl⟩ | ⟨hc, e'⟩
    · exact ⟨l, hl, hz, c', clock', by simp [hlt], hnew⟩
    · obtain ⟨k2, ek, hk⟩ := h.obj c x e'
      by_cases hbk : k2.blk = l.blk
      · -- the same block: none of cells lies there, and a second map lies apart by the rule
        exfalso
        cases x with
        | map es2 =>
          have := h.apart b (.map es) c (.map es2) l k2 hb e' (fun z => hc z.symm) rfl hl ek hbk.symm
          obtain ⟨⟨h1, h2, h3⟩, _⟩ := hk
          have x1 : l.ext = 1 := by unfold Loc.ext; rw [if_pos hz.2.2, hz.2.1]
          have x2 : k2.ext = 1 := by unfold Loc.ext; rw [if_pos h3, h2]
          rw [x1, x2, hz.1, h1] at this
          omega
        | cells vs lo ro => have := hk.1.block; simp [World.shape?, hbk, ew] at this
        | bytes len n lo ro => have := hk.1.block; simp [World.shape?, hbk, ew] at this
        | loop x => obtain ⟨_, r, e2, _⟩ := hk; rw [hbk, ew] at e2; cases e2
      · exact ⟨k2, ek, hk.of_same (hother _ hbk)⟩
  · obtain ⟨y, ey, hy, _⟩ := hroEq c x e
    obtain ⟨y', ey', _⟩ := hroEq c'' x' e'
    exact h.apart c y c'' y' k k' ey ey' hne (by rw [← hy]; exact hxr) hk hk' hblk
  · exact hother r (fun e => hno ⟨b, _, l, hb, rfl, hl, e.symm⟩)
  · obtain ⟨c, x, k, e, hxr, hk, hbk⟩ := ho
    obtain ⟨y, ey, hy, _⟩ := hroEq c x e
    exact ⟨c, y, k, ey, by rw [← hy]; exact hxr, hk, hbk⟩
  · obtain ⟨c, x, k, e, hk, hbk⟩ := ho
    obtain ⟨y, ey, _, _⟩ := hroEq c x e
    exact ⟨c, y, k, ey, hk, hbk⟩

end
end Go.Ads
/- The operations on the abstract heap. -/
namespace Go.Ads
noncomputable section

/- Numbers as rows of bytes. -/
def nslice (n off k : Nat) : Nat := n / 256 ^ off % 256 ^ k
def nappend (a la b : Nat) : Nat := a % 256 ^ la + b * 256 ^ la
def nput (n off k m : Nat) : Nat := nappend n off (nappend m k (n / 256 ^ (off + k)))

theorem nbyte_mod (n k i : Nat) (h : i < k) : nbyte (n % 256 ^ k) i = nbyte n i := by
  unfold nbyte
  have e : (256 : Nat) ^ k = 256 ^ i * 256 ^ (k - i) := by rw [← Nat.pow_add]; congr 1; omega
  rw [e, Nat.mod_mul_right_div_self]
  refine Nat.mod_mod_of_dvd _ ?_
  exact Nat.dvd_of_pow_dvd (k := 1) (by omega) (by simpa using Nat.pow_dvd_pow 256 (show 1 ≤ k - i by omega))
theorem nbyte_div (n k i : Nat) : nbyte (n / 256 ^ k) i = nbyte n (k + i) := by
  unfold nbyte; rw [Nat.div_div_eq_div_mul, ← Nat.pow_add]
theorem nbyte_slice (n off k i : Nat) (h : i < k) : nbyte (nslice n off k) i = nbyte n (off + i) := by
  unfold nslice; rw [nbyte_mod _ _ _ h, nbyte_div]
theorem nbyte_append (a la b i : Nat) : nbyte (nappend a la b) i = if i < la then nbyte a i else nbyte b (i - la) := by
  have hp : 0 < 256 ^ la := Nat.pow_pos (by omega)
  split
  · rename_i h
    rw [← nbyte_mod _ la i h]
    have : nappend a la b % 256 ^ la = a % 256 ^ la := by
      unfold nappend; rw [Nat.add_mul_mod_self_right, Nat.mod_mod]
    rw [this, nbyte_mod _ _ _ h]
  · rename_i h
    have e : i = la + (i - la) := by omega
    rw [e, ← nbyte_div]
    have : nappend a la b / 256 ^ la = b := by
      unfold nappend
      rw [Nat.add_mul_div_right _ _ hp, Nat.div_eq_of_lt (Nat.mod_lt _ hp), Nat.zero_add]
    rw [this, ← e]
theorem nbyte_put (n off k m i : Nat) : nbyte (nput n off k m) i = if i < off then nbyte n i else if i < off + k then nbyte m (i - off) else nbyte n i := by
  unfold nput
  rw [nbyte_append]
  by_cases h1 : i < off
  · simp [h1]
  · simp only [h1, if_false, nbyte_append]
    by_cases h2 : i < off + k
    · rw [if_pos (by omega), if_pos h2]
    · rw [if_neg (by omega), if_neg h2, nbyte_div, show off + k + (i - off - k) = i by omega]
theorem nbyte_zero (n : Nat) : nbyte n 0 = n % 256 := by simp [nbyte]
theorem nbyte_succ (n i : Nat) : nbyte n (i + 1) = nbyte (n / 256) i := by
  have := nbyte_div n 1 i
  rw [show 1 + i = i + 1 by omega] at this; rw [← this, Nat.pow_one]

def byteOf? : Value → Option Nat
  | .int .u8 (.ofNat n) => if n < 256 then some n else none
  | _ => none
def natOf : List Value → Option Nat
  | [] => some 0
  | v :: vs => match byteOf? v, natOf vs with
    | some b, some n => some (b + 256 * n)
    | _, _ => none

theorem natOf_cells : ∀ (vs : List Value) (m : Nat), natOf vs = some m → ∀ i, vs[i]? = if i < vs.length then some (byteV (nbyte m i)) else none := by
  intro vs
  induction vs with
  | nil => intro m _ i; simp
  | cons v vs ih =>
    intro m h i
    simp only [natOf] at h
    cases hb : byteOf? v with
    | none => rw [hb] at h; cases h
    | some b =>
      cases hn : natOf vs with
      | none => rw [hb, hn] at h; cases h
      | some n =>
        rw [hb, hn] at h
        simp only [Option.some.injEq] at h
        subst h
        have hv : v = byteV b ∧ b < 256 := by
          unfold byteOf? at hb
          split at hb
          · split at hb
            · simp only [Option.some.injEq] at hb; subst hb; exact ⟨rfl, by assumption⟩
            · cases hb
          · cases hb
        cases i with
        | zero =>
          simp only [List.getElem?_cons_zero, List.length_cons, Nat.zero_lt_succ, if_true]
          rw [nbyte_zero, show (b + 256 * n) % 256 = b by omega, hv.1]
        | succ i =>
          simp only [List.getElem?_cons_succ, List.length_cons, Nat.add_lt_add_iff_right]
          rw [nbyte_succ, show (b + 256 * n) / 256 = n by omega]
          exact ih n hn i

/-- Some cells: as values, or as a number's bytes. -/
inductive Chunk where
  | vals (vs : List Value)
  | num (len n : Nat)

def Chunk.cells : Chunk → List Value
  | .vals vs => vs
  | .num len n => natCells len n
def Chunk.len : Chunk → Nat
  | .vals vs => vs.length
  | .num len _ => len

def AObj.chunk : AObj → (off n : Nat) → Option Chunk
  | .cells vs _ _, off, n => if off + n ≤ vs.length then some (.vals ((vs.drop off).take n)) else none
  | .bytes len x _ _, off, n => if off + n ≤ len then some (.num n (nslice x off n)) else none
  | .map _, _, _ => none
  | .loop _, _, _ => none

def oneCells : List Value → Bool
  | [] => true
  | v :: vs => match v with
    | .agg _ | .tuple _ => false
    | _ => oneCells vs

theorem oneCells_spec : ∀ l : List Value, oneCells l = true → ∀ v ∈ l, v.oneCell' = true := by
  intro l
  induction l with
  | nil => intro _ v hv; cases hv
  | cons x xs ih =>
    intro hx v hv
    cases x <;> simp only [oneCells] at hx <;> first | (cases hx; done) | skip
    all_goals (
      rcases List.mem_cons.1 hv with rfl | hv
      · rfl
      · exact ih hx v hv)

/-- Cells are written. -/
def AObj.put : AObj → (off : Nat) → Chunk → Option AObj
  | .cells vs lo false, off, ch => if off + ch.len ≤ vs.length then (if oneCells ch.cells then some (.cells (vs.take off ++ (ch.cells ++ vs.drop (off + ch.len))) lo false) else none) else none
  | .bytes len x lo false, off, .num k m => if off + k ≤ len then some (.bytes len (nput x off k m) lo false) else none
  | .bytes len x lo false, off, .vals vs => if off + vs.length ≤ len then (match natOf vs with
      | some m => some (.bytes len (nput x off vs.length m) lo false)
      | none => none) else none
  | _, _, _ => none

/-- A block of cells, one chunk behind the other. -/
def mkObj (lo : Nat) : Chunk → Chunk → Option AObj
  | .num la a, .num lb b => some (.bytes (la + lb) (nappend a la b) lo false)
  | .num la a, .vals vs => if vs.isEmpty then some (.bytes la a lo false) else if oneCells vs then some (.cells (natCells la a ++ vs) lo false) else none
  | .vals us, .num lb b => if us.isEmpty then some (.bytes lb b lo false) else some (.cells (us ++ natCells lb b) lo false)
  | .vals us, .vals vs => if oneCells vs then some (.cells (us ++ vs) lo false) else none

theorem Chunk.cells_length (c : Chunk) : c.cells.length = c.len := by
  cases c with
  | vals => rfl
  | num => exact natCells_length _ _

theorem AObj.chunk_spec {o : AObj} {off n : Nat} {c : Chunk} (h : o.chunk off n = some c) :
    off + n ≤ o.size ∧ c.len = n ∧ o.isMap = false ∧ ∀ i, i < n → c.cells[i]? = o.vals[off + i]? := by
  cases o with
  | cells vs lo ro =>
    simp only [AObj.chunk] at h
    split at h
    · rename_i hle
      simp only [Option.some.injEq] at h; subst h
      refine ⟨hle, by simp [Chunk.len]; omega, rfl, fun i hi => ?_⟩
      simp only [Chunk.cells, AObj.vals]
      rw [List.getElem?_take, if_pos hi, List.getElem?_drop]
    · cases h
  | bytes len x lo ro =>
    simp only [AObj.chunk] at h
    split at h
    · rename_i hle
      simp only [Option.some.injEq] at h; subst h
      refine ⟨hle, rfl, rfl, fun i hi => ?_⟩
      simp only [Chunk.cells, AObj.vals, natCells_get?]
      rw [if_pos hi, if_pos (by omega), nbyte_slice _ _ _ _ hi]
    · cases h
  | map es => cases h
  | loop x => cases h

theorem AObj.put_spec {o o' : AObj} {off : Nat} {ch : Chunk} (h : o.put off ch = some o') :
    o.ro = false ∧ o.isMap = false ∧ o'.isMap = false ∧ o'.size = o.size ∧ o'.loose = o.loose ∧ o'.ro = false ∧ off + ch.len ≤ o.size ∧
    (∀ v ∈ ch.cells, v.oneCell' = true) ∧ ∀ (i : Nat) (v : Value), o'.vals[i]? = some v → (off ≤ i ∧ i < off + ch.len → ch.cells[i - off]? = some v) ∧ (¬ (off ≤ i ∧ i < off + ch.len) → o.vals[i]? = some v) := by
  have hone := oneCells_spec
  cases o with
  | cells vs lo ro =>
    cases ro with
    | true => cases h
    | false =>
      simp only [AObj.put] at h
      split at h
      · rename_i hle
        split at h
        · rename_i h1
          simp only [Option.some.injEq] at h; subst h
          have hcl := ch.cells_length
          have hlen : (vs.take off ++ (ch.cells ++ vs.drop (off + ch.len))).length = vs.length := by
            simp [hcl]; omega
          refine ⟨rfl, rfl, rfl, hlen, rfl, rfl, hle, hone _ h1, fun i v hv => ⟨fun hi => ?_, fun hi => ?_⟩⟩
          · simp only [AObj.vals] at hv
            rw [List.getElem?_append_right (by simp; omega)] at hv
            rw [List.getElem?_append_left (by simp [hcl]; omega)] at hv
            rw [← hv]; congr 1; simp; omega
          · simp only [AObj.vals] at hv ⊢
            by_cases hlt : i < off
            · rw [List.getElem?_append_left (by simp; omega), List.getElem?_take, if_pos hlt] at hv; exact hv
            · rw [List.getElem?_append_right (by simp; omega), List.getElem?_append_right (by simp [hcl]; omega), List.getElem?_drop] at hv
              rw [← hv]; congr 1; simp [hcl]; omega
        · cases h
      · cases h
  | bytes len x lo ro =>
    cases ro with
    | true => cases ch <;> cases h
    | false =>
      have core : ∀ (k m : Nat), off + k ≤ len → k = ch.len → (∀ i, i < k → ch.cells[i]? = some (byteV (nbyte m i))) → o' = .bytes len (nput x off k m) lo false → (∀ v ∈ ch.cells, v.oneCell' = true) →
          ((AObj.bytes len x lo false).ro = false ∧ (AObj.bytes len x lo false).isMap = false ∧ o'.isMap = false ∧ o'.size = (AObj.bytes len x lo false).size ∧ o'.loose = (AObj.bytes len x lo false).loose ∧ o'.ro = false ∧ off + ch.len ≤ (AObj.bytes len x lo false).size ∧
          (∀ v ∈ ch.cells, v.oneCell' = true) ∧ ∀ (i : Nat) (v : Value), o'.vals[i]? = some v → (off ≤ i ∧ i < off + ch.len → ch.cells[i - off]? = some v) ∧ (¬ (off ≤ i ∧ i < off + ch.len) → (AObj.bytes len x lo false).vals[i]? = some v)) := by
        intro k m hle hk hc ho hone'
        subst ho; subst hk
        refine ⟨rfl, rfl, rfl, rfl, rfl, rfl, hle, hone', fun i v hv => ?_⟩
        simp only [AObj.vals, natCells_get?] at hv ⊢
        split at hv
        · rename_i hi
          simp only [Option.some.injEq] at hv; subst hv
          rw [nbyte_put]
          refine ⟨fun hr => ?_, fun hr => ?_⟩
          · rw [if_neg (by omega), if_pos hr.2, hc _ (by omega)]
          · rw [if_pos hi]
            by_cases h1 : i < off
            · rw [if_pos h1]
            · rw [if_neg h1, if_neg (by omega)]
        · cases hv
      cases ch with
      | num k m =>
        simp only [AObj.put] at h
        split at h
        · rename_i hle
          simp only [Option.some.injEq] at h
          refine core k m hle rfl (fun i hi => ?_) h.symm (fun v hv => ?_)
          · simp only [Chunk.cells, natCells_get?]; rw [if_pos hi]
          · simp only [Chunk.cells, natCells, List.mem_map] at hv
            obtain ⟨j, _, rfl⟩ := hv; rfl
        · cases h
      | vals vs =>
        simp only [AObj.put] at h
        split at h
        · rename_i hle
          split at h
          · rename_i m hm
            simp only [Option.some.injEq] at h
            have hn := natOf_cells vs m hm
            refine core vs.length m hle rfl (fun i hi => ?_) h.symm (fun v hv => ?_)
            · simp only [Chunk.cells]; rw [hn i, if_pos hi]
            · simp only [Chunk.cells] at hv
              obtain ⟨j, hj, rfl⟩ := List.getElem_of_mem hv
              have := hn j
              rw [List.getElem?_eq_getElem hj, if_pos hj] at this
              simp only [Option.some.injEq] at this
              rw [this]; rfl
          · cases h
        · cases h
  | map es => cases ch <;> cases h
  | loop x => cases ch <;> cases h

theorem mkObj_spec {lo : Nat} {a b : Chunk} {o : AObj} (h : mkObj lo a b = some o) : o.vals = a.cells ++ b.cells ∧ o.loose = lo ∧ o.ro = false ∧ o.isMap = false := by
  cases a with
  | num la a =>
    cases b with
    | num lb b =>
      simp only [mkObj, Option.some.injEq] at h; subst h
      refine ⟨?_, rfl, rfl, rfl⟩
      apply List.ext_getElem?
      intro i
      simp only [AObj.vals, Chunk.cells, natCells_get?]
      by_cases h1 : i < la
      · rw [List.getElem?_append_left (by rw [natCells_length]; exact h1), if_pos (by omega), natCells_get?, if_pos h1, nbyte_append, if_pos h1]
      · rw [List.getElem?_append_right (by rw [natCells_length]; omega), natCells_length, natCells_get?]
        by_cases h2 : i < la + lb
        · rw [if_pos h2, if_pos (by omega), nbyte_append, if_neg h1]
        · rw [if_neg h2, if_neg (by omega)]
    | vals vs =>
      simp only [mkObj] at h
      split at h
      · rename_i he
        simp only [Option.some.injEq] at h; subst h
        have : vs = [] := by simpa using he
        subst this
        exact ⟨by simp [AObj.vals, Chunk.cells], rfl, rfl, rfl⟩
      · split at h
        · simp only [Option.some.injEq] at h; subst h; exact ⟨rfl, rfl, rfl, rfl⟩
        · cases h
  | vals us =>
    cases b with
    | num lb b =>
      simp only [mkObj] at h
      split at h
      · rename_i he
        simp only [Option.some.injEq] at h; subst h
        have : us = [] := by simpa using he
        subst this
        exact ⟨by simp [AObj.vals, Chunk.cells], rfl, rfl, rfl⟩
      · simp only [Option.some.injEq] at h; subst h; exact ⟨rfl, rfl, rfl, rfl⟩
    | vals vs =>
      simp only [mkObj] at h
      split at h
      · simp only [Option.some.injEq] at h; subst h; exact ⟨rfl, rfl, rfl, rfl⟩
      · cases h

theorem mkObj_one {lo : Nat} {a b : Chunk} {o : AObj} (h : mkObj lo a b = some o) : ∀ v ∈ b.cells, v.oneCell' = true := by
  cases b with
  | num lb b =>
    intro v hv
    simp only [Chunk.cells, natCells, List.mem_map] at hv
    obtain ⟨j, _, rfl⟩ := hv; rfl
  | vals vs =>
    cases a with
    | num la a =>
      simp only [mkObj] at h
      split at h
      · rename_i he
        have : vs = [] := by simpa using he
        subst this; intro v hv; cases hv
      · split at h
        · rename_i h1; exact oneCells_spec _ h1
        · cases h
    | vals us =>
      simp only [mkObj] at h
      split at h
      · rename_i h1; exact oneCells_spec _ h1
      · cases h

def asAddr? : Value → Option Addr
  | .pointer (some a) => some a
  | _ => none

/-- The cells that a slice or a string shows. -/
def chunkOf (size : Nat) (H : AH) : Value → Option (Nat × Chunk)
  | .slice none 0 _ => some (0, .vals [])
  | .slice (some a) n _ => match H.get a.block with
    | some o => (o.chunk a.off (n * size)).map fun c => (n, c)
    | none => none
  | .string s => if size = 1 then some (s.size, .vals (s.data.toList.map fun b => .int .u8 b.toNat)) else none
  | _ => none

def maxRoom : Nat := 2 ^ 40

/-- append: whose elements have so many cells and so many bytes. -/
def aappend (size bytes : Nat) (H : AH) (s : Value) (k : Nat) (ch : Chunk) : Option (Value × AH) :=
  match s with
  | .slice none 0 0 =>
    if k = 0 then some (s, H) else
    if k * bytes < maxRoom then
      (mkObj size (.vals []) ch).map fun o => (.slice (some ⟨H.next, 0, none⟩) k k, H.push o)
    else none
  | .slice (some a) n c =>
    if k = 0 then (if n ≤ c then some (s, H) else none) else
    match H.get a.block with
    | none => none
    | some o =>
      if n + k ≤ c then (o.put (a.off + n * size) ch).map fun o' => (.slice (some a) (n + k) c, H.set a.block o')
      else if (n + k) * bytes < maxRoom then
        match o.chunk a.off (n * size) with
        | none => none
        | some old =>
          match mkObj size old ch with
          | none => none
          | some o2 =>
            if o.loose = 0 then some (.slice (some ⟨H.next, 0, none⟩) (n + k) (n + k), H.push o2)
            else if o.loose = size ∧ o.ro = false then
              some (.slice (some ⟨H.next, 0, none⟩) (n + k) (n + k), (if a.off + c * size = o.size then H.kill a.block else H).push o2)
            else none
      else none
  | _ => none

def lenOf? : Value → Option Nat
  | .slice _ n _ => some n
  | .string s => some s.size
  | _ => none

/-- The first cells of a slice or a string. -/
def srcChunk (size : Nat) (H : AH) (x : Value) (m : Nat) : Option Chunk :=
  match x with
  | .slice none _ _ => if m = 0 then some (.vals []) else none
  | .slice (some a) _ _ => match H.get a.block with
    | some o => o.chunk a.off (m * size)
    | none => none
  | .string s => if size = 1 then some (.vals ((s.data.toList.take m).map fun b => .int .u8 b.toNat)) else none
  | _ => none

/-- copy: so many cells an element. -/
def acopy (size : Nat) (H : AH) (d x : Value) : Option (Value × AH) :=
  match d, lenOf? x with
  | .slice none n _, some k => if Nat.min k n = 0 then some (goInt 0, H) else none
  | .slice (some a) n _, some k =>
    if Nat.min k n = 0 then some (goInt 0, H) else
    match H.get a.block, srcChunk size H x (Nat.min k n) with
    | some o, some ch => (o.put a.off ch).map fun o' => (goInt (Nat.min k n), H.set a.block o')
    | _, _ => none
  | _, _ => none

/-- make of a slice. -/
def amakeSlice (size bytes : Nat) (zero : List Value) (u8 : Bool) (H : AH) (l c : Value) : Option (Value × AH) :=
  match l, c with
  | .int _ (.ofNat n), .int _ (.ofNat m) =>
    if n ≤ m ∧ m * (bytes + 1) < maxRoom then
      some (.slice (some ⟨H.next, 0, none⟩) n m, H.push (bif u8 then .bytes m 0 0 false else .cells (List.replicate m zero).flatten 0 false))
    else none
  | _, _ => none

def natArg : Option Value → Option (Option Nat)
  | none => some none
  | some (.int _ (.ofNat n)) => some (some n)
  | _ => none

/-- The bounds of a slicing. -/
def abounds (len cap : Nat) (lo hi mx : Option Value) : Option (Nat × Nat × Nat) :=
  match natArg lo, natArg hi, natArg mx with
  | some l, some h, some m =>
    match m, h with
    | some _, none => none
    | _, _ =>
      let m := m.getD cap
      let h := h.getD len
      let l := l.getD 0
      if m ≤ cap ∧ h ≤ m ∧ l ≤ h then some (l, h, m) else none
  | _, _, _ => none

def aslice (size : Nat) (H : AH) (x : Value) (lo hi mx : Option Value) : Option Value :=
  match x with
  | .slice none n c => match abounds n c lo hi mx with
    | some (l, h, m) => some (.slice none (h - l) (m - l))
    | none => none
  | .slice (some a) n c => match H.get a.block with
    | none => none
    | some o =>
      if o.loose = 0 ∨ o.loose = size then
        match abounds n c lo hi mx with
        | some (l, h, m) =>
          if m = l then (if mx.isNone ∧ o.loose ≠ 0 ∧ a.off + c * size = o.size then some (.slice (some ⟨a.block, o.size, none⟩) 0 0) else some (.slice (some a) 0 0))
          else some (.slice (some (a.add (l * size))) (h - l) (m - l))
        | none => none
      else none
  | _ => none

def asliceStr (x : Value) (lo hi : Option Value) : Option Value :=
  match x with
  | .string s => match abounds s.size s.size lo hi none with
    | some (l, h, _) => some (.string (s.extract l h))
    | none => none
  | _ => none

def asliceArr (n size : Nat) (x : Value) (lo hi mx : Option Value) : Option Value :=
  match x with
  | .pointer (some a) => match abounds n n lo hi mx with
    | some (l, h, m) => some (.slice (some (if m = l then a else a.add (l * size))) (h - l) (m - l))
    | none => none
  | _ => none

def aindexAddr (size : Nat) (x ix : Value) : Option Value :=
  match x, ix with
  | .slice (some a) n _, .int _ (.ofNat i) => if i < n then some (.pointer (some (a.add (i * size)))) else none
  | _, _ => none
def aindexAddrA (n size : Nat) (x ix : Value) : Option Value :=
  match x, ix with
  | .pointer (some a), .int _ (.ofNat i) => if i < n then some (.pointer (some (a.add (i * size)))) else none
  | _, _ => none
def aindexStr (x ix : Value) : Option Value :=
  match x, ix with
  | .string s, .int _ (.ofNat i) => match s[i]? with
    | some b => some (.int .u8 b.toNat)
    | none => none
  | _, _ => none

/-- A part of a struct or an array. -/
def apart (agg : Bool) (off size : Nat) (x : Value) : Option Value :=
  match x with
  | .agg cs => bif agg then some (.agg (cs.extract off (off + size))) else cs[off]?
  | _ => none
def aindexArr (agg : Bool) (n size : Nat) (x ix : Value) : Option Value :=
  match ix with
  | .int _ (.ofNat i) => if i < n then apart agg (i * size) size x else none
  | _ => none

end
end Go.Ads
