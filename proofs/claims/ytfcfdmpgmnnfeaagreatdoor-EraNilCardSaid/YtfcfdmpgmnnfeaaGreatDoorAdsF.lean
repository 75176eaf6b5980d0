/- Numbers, made quick for the kernel's eyes. -/
import Derived.Test.YtfcfdmpgmnnfeaaGreatDoorAdsE
set_option linter.unusedSimpArgs false
set_option linter.unusedVariables false
namespace Go.Ads
noncomputable section

def evalBy (g : Tmp → Value) (x : Operand) : Value :=
  match x with
  | .tmp t => g t
  | .const v => v
  | .global g => .pointer (some ⟨g, 0, none⟩)
  | .func f => .func (.func f) #[] #[]

abbrev FCallF := FuncId → List Value → AH → Option (Value × AH)
abbrev FRun := FCallF → (Tmp → Value) → AH → Option (Value × AH)
/-- Calls that give values. -/
def up (call : FCallF) : CallF := fun g args H => match g with
  | .fn g => valOut (call g args H)
  | .yield _ => none
theorem justVal_valOut (r : Option (Value × AH)) : justVal (valOut r) = r := by cases r <;> rfl

def kNum : IntKind → Nat
  | .i8 => 0 | .i16 => 1 | .i32 => 2 | .i64 => 3 | .u8 => 4 | .u16 => 5 | .u32 => 6 | .u64 => 7
def kEq (a b : IntKind) : Bool := Nat.beq (kNum a) (kNum b)
theorem kEq_eq {a b : IntKind} (h : kEq a b = true) : a = b := by
  cases a <;> cases b <;> first | rfl | exact absurd h (by decide)
def kLim : IntKind → Nat
  | .i8 => 128 | .i16 => 32768 | .i32 => 2147483648 | .i64 => 9223372036854775808 | .u8 => 256 | .u16 => 65536 | .u32 => 4294967296 | .u64 => 18446744073709551616

theorem wrap_lim {k : IntKind} {m : Nat} (h : m < kLim k) : k.wrap (Int.ofNat m) = Int.ofNat m := by
  cases k <;> simp only [kLim] at h <;> simp only [IntKind.wrap, IntKind.bits, IntKind.signed, Bool.true_and, Bool.false_and] <;> simp <;> omega

/-- What holds a natural number. -/
def vNat (x : Value) : Option (IntKind × Nat) := Value.rec (motive_1 := fun _ => Option (IntKind × Nat)) (motive_2 := fun _ => PUnit) (motive_3 := fun _ => PUnit)
  (fun _ => none) (fun k n => Int.rec (motive := fun _ => Option (IntKind × Nat)) (fun m => some (k, m)) (fun _ => none) n) (fun _ _ => none) (fun _ _ _ => none) (fun _ => none) (fun _ => none) (fun _ _ _ => none) (fun _ => none) (fun _ => none) (fun _ _ _ _ _ => none) none (fun _ _ _ => none) none (fun _ _ => none) (fun _ _ => none) (fun _ _ => ⟨⟩) ⟨⟩ (fun _ _ _ _ => ⟨⟩) x
def natOfV {β : Type} (x : Value) (f : IntKind → Nat → β) (d : β) : β := Option.rec (motive := fun _ => β) d (fun p => f p.1 p.2) (vNat x)

theorem natOfV_eq {β : Type} {x : Value} {f : IntKind → Nat → β} {d : β} : (∃ k m, x = .int k (.ofNat m) ∧ natOfV x f d = f k m) ∨ natOfV x f d = d := by
  cases x with
  | int k a => cases a with
    | ofNat m => exact .inl ⟨k, m, rfl, rfl⟩
    | negSucc m => exact .inr rfl
  | _ => exact .inr rfl

def guardLim (lim r : Nat) : Option Nat := cond (Nat.blt r lim) (some r) none

def arithBy (op : BinOp) (nf : Nat → Nat → Nat → Option Nat) (x y : Value) : Option Value :=
  natOfV x (fun k m => natOfV y (fun k' n => cond (kEq k k') (Option.rec (motive := fun _ => Option Value) (abin op x y) (fun r => some (.int k (.ofNat r))) (nf (kLim k) m n)) (abin op x y)) (abin op x y)) (abin op x y)

def cmpBy (op : BinOp) (nf : Nat → Nat → Bool) (x y : Value) : Option Value :=
  natOfV x (fun k m => natOfV y (fun k' n => cond (kEq k k') (some (.bool (nf m n))) (abin op x y)) (abin op x y)) (abin op x y)

theorem arithBy_ok {op : BinOp} {nf : Nat → Nat → Nat → Option Nat} (h : ∀ k m n r, nf (kLim k) m n = some r → abin op (.int k (.ofNat m)) (.int k (.ofNat n)) = some (.int k (.ofNat r))) (x y : Value) : arithBy op nf x y = abin op x y := by
  unfold arithBy
  rcases natOfV_eq (β := Option Value) (x := x) (f := fun k m => natOfV y (fun k' n => cond (kEq k k') (Option.rec (motive := fun _ => Option Value) (abin op x y) (fun r => some (.int k (.ofNat r))) (nf (kLim k) m n)) (abin op x y)) (abin op x y)) (d := abin op x y) with ⟨k, m, hx, e⟩ | e
  · rw [e]
    rcases natOfV_eq (β := Option Value) (x := y) (f := fun k' n => cond (kEq k k') (Option.rec (motive := fun _ => Option Value) (abin op x y) (fun r => some (.int k (.ofNat r))) (nf (kLim k) m n)) (abin op x y)) (d := abin op x y) with ⟨k', n, hy, e2⟩ | e2
    · rw [e2]
      cases hk : kEq k k' with
      | false => rfl
      | true =>
        have := kEq_eq hk; subst this
        rw [cond_true]
        cases hn : nf (kLim k) m n with
        | none => rfl
        | some r => rw [hx, hy]; exact (h k m n r hn).symm
    · exact e2
  · exact e

theorem cmpBy_ok {op : BinOp} {nf : Nat → Nat → Bool} (h : ∀ k m n, abin op (.int k (.ofNat m)) (.int k (.ofNat n)) = some (.bool (nf m n))) (x y : Value) : cmpBy op nf x y = abin op x y := by
  unfold cmpBy
  rcases natOfV_eq (β := Option Value) (x := x) (f := fun k m => natOfV y (fun k' n => cond (kEq k k') (some (.bool (nf m n))) (abin op x y)) (abin op x y)) (d := abin op x y) with ⟨k, m, hx, e⟩ | e
  · rw [e]
    rcases natOfV_eq (β := Option Value) (x := y) (f := fun k' n => cond (kEq k k') (some (.bool (nf m n))) (abin op x y)) (d := abin op x y) with ⟨k', n, hy, e2⟩ | e2
    · rw [e2]
      cases hk : kEq k k' with
      | false => rfl
      | true =>
        have := kEq_eq hk; subst this
        rw [cond_true, hx, hy]; exact (h k m n).symm
    · exact e2
  · exact e

theorem guardLim_eq {lim r s : Nat} (h : guardLim lim r = some s) : r = s ∧ r < lim := by
  unfold guardLim at h
  cases hb : Nat.blt r lim with
  | true => rw [hb] at h; cases h; exact ⟨rfl, by simpa [Nat.blt_eq] using hb⟩
  | false => rw [hb] at h; cases h

def nAdd (lim m n : Nat) : Option Nat := guardLim lim (Nat.add m n)
def nSub (lim m n : Nat) : Option Nat := cond (Nat.ble n m) (guardLim lim (Nat.sub m n)) none
def nMul (lim m n : Nat) : Option Nat := guardLim lim (Nat.mul m n)
def nQuo (lim m n : Nat) : Option Nat := cond (Nat.beq n 0) none (guardLim lim (Nat.div m n))
def nRem (_ m n : Nat) : Option Nat := cond (Nat.beq n 0) none (some (Nat.mod m n))

theorem nAdd_ok (k : IntKind) (m n r : Nat) (h : nAdd (kLim k) m n = some r) : abin .add (.int k (.ofNat m)) (.int k (.ofNat n)) = some (.int k (.ofNat r)) := by
  obtain ⟨rfl, h2⟩ := guardLim_eq h
  have := wrap_lim h2
  simp only [abin, if_true, Op.intArith]
  show some (Value.int k (k.wrap (Int.ofNat m + Int.ofNat n))) = _
  rw [show Int.ofNat m + Int.ofNat n = Int.ofNat (m.add n) from rfl, this]
theorem nSub_ok (k : IntKind) (m n r : Nat) (h : nSub (kLim k) m n = some r) : abin .sub (.int k (.ofNat m)) (.int k (.ofNat n)) = some (.int k (.ofNat r)) := by
  unfold nSub at h
  cases hb : Nat.ble n m with
  | false => rw [hb] at h; cases h
  | true =>
    rw [hb] at h
    obtain ⟨rfl, h2⟩ := guardLim_eq h
    have hle : n ≤ m := Nat.le_of_ble_eq_true hb
    have := wrap_lim h2
    simp only [abin, if_true, Op.intArith]
    show some (Value.int k (k.wrap (Int.ofNat m - Int.ofNat n))) = _
    rw [show Int.ofNat m - Int.ofNat n = Int.ofNat (m.sub n) from (Int.ofNat_sub hle).symm, this]
theorem nMul_ok (k : IntKind) (m n r : Nat) (h : nMul (kLim k) m n = some r) : abin .mul (.int k (.ofNat m)) (.int k (.ofNat n)) = some (.int k (.ofNat r)) := by
  obtain ⟨rfl, h2⟩ := guardLim_eq h
  have := wrap_lim h2
  simp only [abin, if_true, Op.intArith]
  show some (Value.int k (k.wrap (Int.ofNat m * Int.ofNat n))) = _
  rw [show Int.ofNat m * Int.ofNat n = Int.ofNat (m.mul n) from rfl, this]
theorem nQuo_ok (k : IntKind) (m n r : Nat) (h : nQuo (kLim k) m n = some r) : abin .quo (.int k (.ofNat m)) (.int k (.ofNat n)) = some (.int k (.ofNat r)) := by
  unfold nQuo at h
  cases hb : Nat.beq n 0 with
  | true => rw [hb] at h; cases h
  | false =>
    rw [hb] at h
    obtain ⟨rfl, h2⟩ := guardLim_eq h
    have hn : n ≠ 0 := Nat.ne_of_beq_eq_false hb
    have := wrap_lim h2
    have hne : ¬ (Int.ofNat n = 0) := by intro h; exact hn (by simpa using h)
    simp only [abin, if_true, Op.intDiv, if_neg hne]
    show some (Value.int k (k.wrap ((Int.ofNat m).tdiv (Int.ofNat n)))) = _
    rw [show (Int.ofNat m).tdiv (Int.ofNat n) = Int.ofNat (m.div n) from rfl, this]
theorem nRem_ok (k : IntKind) (m n r : Nat) (h : nRem (kLim k) m n = some r) : abin .rem (.int k (.ofNat m)) (.int k (.ofNat n)) = some (.int k (.ofNat r)) := by
  unfold nRem at h
  cases hb : Nat.beq n 0 with
  | true => rw [hb] at h; cases h
  | false =>
    rw [hb] at h; cases h
    have hn : n ≠ 0 := Nat.ne_of_beq_eq_false hb
    have hne : ¬ (Int.ofNat n = 0) := by intro h; exact hn (by simpa using h)
    simp only [abin, if_true, Op.intDiv, if_neg hne]
    rfl

def cLss (m n : Nat) : Bool := Nat.blt m n
def cLeq (m n : Nat) : Bool := Nat.ble m n
def cGtr (m n : Nat) : Bool := Nat.blt n m
def cGeq (m n : Nat) : Bool := Nat.ble n m
def cEql (m n : Nat) : Bool := Nat.beq m n
def cNeq (m n : Nat) : Bool := !Nat.beq m n

theorem blt_dec (m n : Nat) : Nat.blt m n = decide (m < n) := by rw [Bool.eq_iff_iff, Nat.blt_eq]; simp
theorem ble_dec (m n : Nat) : Nat.ble m n = decide (m ≤ n) := by rw [Bool.eq_iff_iff, Nat.ble_eq]; simp

theorem cLss_ok (k : IntKind) (m n : Nat) : abin .lss (.int k (.ofNat m)) (.int k (.ofNat n)) = some (.bool (cLss m n)) := by
  simp only [abin, if_true, Op.intCmp, cLss, blt_dec]
  show some (Value.bool (decide (Int.ofNat m < Int.ofNat n))) = _
  simp
theorem cLeq_ok (k : IntKind) (m n : Nat) : abin .leq (.int k (.ofNat m)) (.int k (.ofNat n)) = some (.bool (cLeq m n)) := by
  simp only [abin, if_true, Op.intCmp, cLeq, ble_dec]
  show some (Value.bool (decide (Int.ofNat m ≤ Int.ofNat n))) = _
  simp
theorem cGtr_ok (k : IntKind) (m n : Nat) : abin .gtr (.int k (.ofNat m)) (.int k (.ofNat n)) = some (.bool (cGtr m n)) := by
  simp only [abin, if_true, Op.intCmp, cGtr, blt_dec]
  show some (Value.bool (decide (Int.ofNat m > Int.ofNat n))) = _
  simp
theorem cGeq_ok (k : IntKind) (m n : Nat) : abin .geq (.int k (.ofNat m)) (.int k (.ofNat n)) = some (.bool (cGeq m n)) := by
  simp only [abin, if_true, Op.intCmp, cGeq, ble_dec]
  show some (Value.bool (decide (Int.ofNat m ≥ Int.ofNat n))) = _
  simp
theorem cEql_ok (k : IntKind) (m n : Nat) : abin .eql (.int k (.ofNat m)) (.int k (.ofNat n)) = some (.bool (cEql m n)) := by
  simp only [abin, if_true, Op.intCmp, cEql, Trie.beq_dec]
  show some (Value.bool (Int.ofNat m == Int.ofNat n)) = _
  congr 2
  rw [Bool.eq_iff_iff]; simp; omega
theorem cNeq_ok (k : IntKind) (m n : Nat) : abin .neq (.int k (.ofNat m)) (.int k (.ofNat n)) = some (.bool (cNeq m n)) := by
  simp only [abin, if_true, Op.intCmp, cNeq, Trie.beq_dec]
  show some (Value.bool (Int.ofNat m != Int.ofNat n)) = _
  congr 2
  rw [Bool.eq_iff_iff]; simp; omega

def binV (op : BinOp) : Value → Value → Option Value :=
  match op with
  | .add => arithBy .add nAdd
  | .sub => arithBy .sub nSub
  | .mul => arithBy .mul nMul
  | .quo => arithBy .quo nQuo
  | .rem => arithBy .rem nRem
  | .lss => cmpBy .lss cLss
  | .leq => cmpBy .leq cLeq
  | .gtr => cmpBy .gtr cGtr
  | .geq => cmpBy .geq cGeq
  | .eql => cmpBy .eql cEql
  | .neq => cmpBy .neq cNeq
  | op => abin op

theorem binV_ok (op : BinOp) (x y : Value) : binV op x y = abin op x y := by
  cases op
  case add => exact arithBy_ok nAdd_ok x y
  case sub => exact arithBy_ok nSub_ok x y
  case mul => exact arithBy_ok nMul_ok x y
  case quo => exact arithBy_ok nQuo_ok x y
  case rem => exact arithBy_ok nRem_ok x y
  case lss => exact cmpBy_ok cLss_ok x y
  case leq => exact cmpBy_ok cLeq_ok x y
  case gtr => exact cmpBy_ok cGtr_ok x y
  case geq => exact cmpBy_ok cGeq_ok x y
  case eql => exact cmpBy_ok cEql_ok x y
  case neq => exact cmpBy_ok cNeq_ok x y
  all_goals rfl

def oBinBy (f : Value → Value → Option Value) (x y : Operand) : FRun := fun _ look H => withH H (f (evalBy look x) (evalBy look y))
def oBin (op : BinOp) (x y : Operand) : FRun :=
  match op with
  | .add => oBinBy (arithBy .add nAdd) x y
  | .sub => oBinBy (arithBy .sub nSub) x y
  | .mul => oBinBy (arithBy .mul nMul) x y
  | .quo => oBinBy (arithBy .quo nQuo) x y
  | .rem => oBinBy (arithBy .rem nRem) x y
  | .lss => oBinBy (cmpBy .lss cLss) x y
  | .leq => oBinBy (cmpBy .leq cLeq) x y
  | .gtr => oBinBy (cmpBy .gtr cGtr) x y
  | .geq => oBinBy (cmpBy .geq cGeq) x y
  | .eql => oBinBy (cmpBy .eql cEql) x y
  | .neq => oBinBy (cmpBy .neq cNeq) x y
  | op => oBinBy (abin op) x y

theorem oBin_ok (op : BinOp) (x y : Operand) (call : FCallF) (look : Tmp → Value) (H : AH) : oBin op x y call look H = runOp (up call) (.bin op x y) (evalBy look) H := by
  have h : oBin op x y call look H = withH H (binV op (evalBy look x) (evalBy look y)) := by cases op <;> rfl
  rw [h, binV_ok]; rfl

end
end Go.Ads
/- The commonest operations, through small windows on values: for the kernel's eyes. -/
namespace Go.Ads
noncomputable section

abbrev FX := (Tmp → Value) → Value
def rT (t : Tmp) : FX := fun look => look t
def rC (v : Value) : FX := fun _ => v
def rG (g : Nat) : FX := fun _ => .pointer (some ⟨g, 0, none⟩)
def rF (f : FuncId) : FX := fun _ => .func (.func f) #[] #[]
def fx (x : Operand) : FX :=
  match x with
  | .tmp t => rT t
  | .const v => rC v
  | .global g => rG g
  | .func f => rF f
theorem fx_eq (x : Operand) (look : Tmp → Value) : fx x look = evalBy look x := by cases x <;> rfl

def vPtr (x : Value) : Option Addr := Value.rec (motive_1 := fun _ => Option Addr) (motive_2 := fun _ => PUnit) (motive_3 := fun _ => PUnit)
  (fun _ => none) (fun _ _ => none) (fun _ _ => none) (fun _ _ _ => none) (fun _ => none) (fun a => a) (fun _ _ _ => none) (fun _ => none) (fun _ => none) (fun _ _ _ _ _ => none) none (fun _ _ _ => none) none (fun _ _ => none) (fun _ _ => none) (fun _ _ => ⟨⟩) ⟨⟩ (fun _ _ _ _ => ⟨⟩) x
def vSl (x : Value) : Option (Option Addr × Nat × Nat) := Value.rec (motive_1 := fun _ => Option (Option Addr × Nat × Nat)) (motive_2 := fun _ => PUnit) (motive_3 := fun _ => PUnit)
  (fun _ => none) (fun _ _ => none) (fun _ _ => none) (fun _ _ _ => none) (fun _ => none) (fun _ => none) (fun a n c => some (a, n, c)) (fun _ => none) (fun _ => none) (fun _ _ _ _ _ => none) none (fun _ _ _ => none) none (fun _ _ => none) (fun _ _ => none) (fun _ _ => ⟨⟩) ⟨⟩ (fun _ _ _ _ => ⟨⟩) x
def vBool (x : Value) : Option Bool := Value.rec (motive_1 := fun _ => Option Bool) (motive_2 := fun _ => PUnit) (motive_3 := fun _ => PUnit)
  (fun b => some b) (fun _ _ => none) (fun _ _ => none) (fun _ _ _ => none) (fun _ => none) (fun _ => none) (fun _ _ _ => none) (fun _ => none) (fun _ => none) (fun _ _ _ _ _ => none) none (fun _ _ _ => none) none (fun _ _ => none) (fun _ _ => none) (fun _ _ => ⟨⟩) ⟨⟩ (fun _ _ _ _ => ⟨⟩) x
def vTup (x : Value) : Option (Array Value) := Value.rec (motive_1 := fun _ => Option (Array Value)) (motive_2 := fun _ => PUnit) (motive_3 := fun _ => PUnit)
  (fun _ => none) (fun _ _ => none) (fun _ _ => none) (fun _ _ _ => none) (fun _ => none) (fun _ => none) (fun _ _ _ => none) (fun _ => none) (fun _ => none) (fun _ _ _ _ _ => none) none (fun _ _ _ => none) none (fun _ _ => none) (fun vs _ => some vs) (fun _ _ => ⟨⟩) ⟨⟩ (fun _ _ _ _ => ⟨⟩) x
def vAgg (x : Value) : Option (Array Value) := Value.rec (motive_1 := fun _ => Option (Array Value)) (motive_2 := fun _ => PUnit) (motive_3 := fun _ => PUnit)
  (fun _ => none) (fun _ _ => none) (fun _ _ => none) (fun _ _ _ => none) (fun _ => none) (fun _ => none) (fun _ _ _ => none) (fun _ => none) (fun _ => none) (fun _ _ _ _ _ => none) none (fun _ _ _ => none) none (fun vs _ => some vs) (fun _ _ => none) (fun _ _ => ⟨⟩) ⟨⟩ (fun _ _ _ _ => ⟨⟩) x
/-- Is it none of those that have cells? -/
def vOne (x : Value) : Bool := Value.rec (motive_1 := fun _ => Bool) (motive_2 := fun _ => PUnit) (motive_3 := fun _ => PUnit)
  (fun _ => true) (fun _ _ => true) (fun _ _ => true) (fun _ _ _ => true) (fun _ => true) (fun _ => true) (fun _ _ _ => true) (fun _ => true) (fun _ => true) (fun _ _ _ _ _ => true) true (fun _ _ _ => true) true (fun _ _ => false) (fun _ _ => false) (fun _ _ => ⟨⟩) ⟨⟩ (fun _ _ _ _ => ⟨⟩) x

def op? {α β : Type} (o : Option α) (f : α → β) (d : β) : β := Option.rec (motive := fun _ => β) d f o
def kWith (H : AH) (o : Option Value) : Option (Value × AH) := Option.rec (motive := fun _ => Option (Value × AH)) none (fun v => some (v, H)) o
theorem kWith_eq (H : AH) (o : Option Value) : kWith H o = withH H o := by cases o <;> rfl

def kNth {α : Type} (l : List α) : Nat → Option α := List.rec (motive := fun _ => Nat → Option α) (fun _ => none) (fun a _ ih n => Nat.rec (motive := fun _ => Option α) (some a) (fun m _ => ih m) n) l
theorem kNth_eq {α : Type} : ∀ (l : List α) (n : Nat), kNth l n = l[n]? := by
  intro l
  induction l with
  | nil => intro n; rfl
  | cons a l ih => intro n; cases n with
    | zero => rfl
    | succ n => simp only [List.getElem?_cons_succ]; exact ih n

def kDrop {α : Type} (l : List α) : Nat → Option (List α) := List.rec (motive := fun _ => Nat → Option (List α)) (fun n => Nat.rec (motive := fun _ => Option (List α)) (some []) (fun _ _ => none) n)
  (fun a t ih n => Nat.rec (motive := fun _ => Option (List α)) (some (a :: t)) (fun m _ => ih m) n) l
def kTake {α : Type} (n : Nat) : List α → Option (List α) := Nat.rec (motive := fun _ => List α → Option (List α)) (fun _ => some [])
  (fun _ ih l => List.rec (motive := fun _ => Option (List α)) none (fun a t _ => op? (ih t) (fun r => some (a :: r)) none) l) n
theorem kDrop_eq {α : Type} : ∀ (l : List α) (n : Nat), kDrop l n = if n ≤ l.length then some (l.drop n) else none := by
  intro l
  induction l with
  | nil => intro n; cases n <;> rfl
  | cons a l ih => intro n; cases n with
    | zero => rfl
    | succ n =>
      show kDrop l n = _
      rw [ih]; simp only [List.length_cons, Nat.add_le_add_iff_right, List.drop_succ_cons]
theorem kTake_eq {α : Type} : ∀ (n : Nat) (l : List α), kTake n l = if n ≤ l.length then some (l.take n) else none := by
  intro n
  induction n with
  | zero => intro l; show some [] = _; simp
  | succ n ih => intro l; cases l with
    | nil => rfl
    | cons a t =>
      show op? (kTake n t) (fun r => some (a :: r)) none = _
      rw [ih]
      by_cases h : n ≤ t.length
      · rw [if_pos h, if_pos (by simpa using h)]; rfl
      · rw [if_neg h, if_neg (by simpa using h)]; rfl
/-- Cells from a place on. -/
def kSub {α : Type} (l : List α) (off n : Nat) : Option (List α) := op? (kDrop l off) (fun t => kTake n t) none
theorem kSub_eq {α : Type} (l : List α) (off n : Nat) : kSub l off n = if off + n ≤ l.length then some ((l.drop off).take n) else none := by
  unfold kSub
  rw [kDrop_eq]
  by_cases h : off ≤ l.length
  · rw [if_pos h]
    show kTake n (l.drop off) = _
    rw [kTake_eq, List.length_drop]
    by_cases h2 : off + n ≤ l.length
    · rw [if_pos h2, if_pos (by omega)]
    · rw [if_neg h2, if_neg (by omega)]
  · rw [if_neg h, if_neg (by omega)]; rfl

/-- Cells are put over others. -/
def kPut {α : Type} (l : List α) : Nat → List α → Option (List α) := List.rec (motive := fun _ => Nat → List α → Option (List α))
  (fun n c => Nat.rec (motive := fun _ => Option (List α)) (List.rec (motive := fun _ => Option (List α)) (some []) (fun _ _ _ => none) c) (fun _ _ => none) n)
  (fun a t ih n c => Nat.rec (motive := fun _ => Option (List α)) (List.rec (motive := fun _ => Option (List α)) (some (a :: t)) (fun x r _ => op? (ih 0 r) (fun z => some (x :: z)) none) c) (fun m _ => op? (ih m c) (fun z => some (a :: z)) none) n) l
theorem kPut_eq {α : Type} : ∀ (l : List α) (n : Nat) (c : List α), kPut l n c = if n + c.length ≤ l.length then some (l.take n ++ (c ++ l.drop (n + c.length))) else none := by
  intro l
  induction l with
  | nil =>
    intro n c
    cases n with
    | zero => cases c with
      | nil => rfl
      | cons x r => show none = _; rw [if_neg (by simp)]
    | succ n => show none = _; rw [if_neg (by simp)]
  | cons a t ih =>
    intro n c
    cases n with
    | zero => cases c with
      | nil => show some (a :: t) = _; simp
      | cons x r =>
        show op? (kPut t 0 r) (fun z => some (x :: z)) none = _
        rw [ih]
        by_cases h : 0 + r.length ≤ t.length
        · rw [if_pos h, if_pos (by simp at h ⊢; exact h)]
          simp [op?]
        · rw [if_neg h, if_neg (by simp at h ⊢; exact h)]; rfl
    | succ n =>
      show op? (kPut t n c) (fun z => some (a :: z)) none = _
      rw [ih]
      by_cases h : n + c.length ≤ t.length
      · rw [if_pos h, if_pos (by simp; omega)]
        rw [show n + 1 + c.length = (n + c.length) + 1 by omega]
        simp [op?]
      · rw [if_neg h, if_neg (by simp; omega)]; rfl

def kOnes (l : List Value) : Bool := List.rec (motive := fun _ => Bool) true (fun v _ ih => cond (vOne v) ih false) l
theorem kOnes_eq : ∀ l, kOnes l = oneCells l := by
  intro l
  induction l with
  | nil => rfl
  | cons v l ih =>
    show cond (vOne v) (kOnes l) false = _
    rw [ih]
    cases v <;> rfl
def kLen {α : Type} (l : List α) : Nat := List.rec (motive := fun _ => Nat) 0 (fun _ _ ih => Nat.succ ih) l
theorem kLen_eq {α : Type} : ∀ l : List α, kLen l = l.length := by
  intro l
  induction l with
  | nil => rfl
  | cons a l ih => show Nat.succ (kLen l) = _; rw [ih]; rfl

def kCell (o : AObj) (i : Nat) : Option Value := AObj.rec (motive := fun _ => Option Value) (fun vs _ _ => kNth vs i) (fun len n _ _ => cond (Nat.blt i len) (some (.int .u8 (Int.ofNat (Nat.mod (Nat.div n (Nat.pow 256 i)) 256)))) none) (fun _ => none) (fun _ => none) o
theorem kCell_eq (o : AObj) (i : Nat) : kCell o i = o.cell? i := by
  cases o with
  | cells vs _ _ => exact kNth_eq vs i
  | bytes len n _ _ => rfl
  | map _ => rfl
  | loop _ => rfl

def kCells (v : Value) : List Value := op? (vAgg v) (fun cs => cs.toList) [v]
theorem kCells_eq (v : Value) : kCells v = v.cells.toList := by cases v <;> rfl

/-- What is held at an address, and what is put there. -/
def vLoad (a : Addr) (H : AH) : Option (Value × AH) := op? (H.get a.block) (fun o => kWith H (kCell o a.off)) none
def vLoadN (n : Nat) (a : Addr) (H : AH) : Option (Value × AH) :=
  op? (H.get a.block) (fun o => AObj.rec (motive := fun _ => Option (Value × AH)) (fun vs _ _ => op? (kSub vs a.off n) (fun l => some (.agg ⟨l⟩, H)) none)
    (fun len x _ _ => cond (Nat.ble (Nat.add a.off n) len) (some (.agg (natCells n (nslice x a.off n)).toArray, H)) none) (fun _ => none) (fun _ => none) o) none
def vStoreSlow (n : Nat) (p : Addr) (x : Value) (H : AH) : Option (Value × AH) :=
  match H.get p.block with
  | some o => if x.cells.size = n then noVal ((o.put p.off (.vals x.cells.toList)).map fun o' => H.set p.block o') else none
  | none => none
def vStore (n : Nat) (p : Addr) (x : Value) (H : AH) : Option (Value × AH) :=
  op? (H.get p.block) (fun o => AObj.rec (motive := fun _ => Option (Value × AH))
    (fun vs lo ro => cond ro none (cond (Nat.beq (kLen (kCells x)) n) (cond (kOnes (kCells x)) (op? (kPut vs p.off (kCells x)) (fun r => some (undef, H.set p.block (.cells r lo false))) none) none) none))
    (fun _ _ _ _ => vStoreSlow n p x H) (fun _ => none) (fun _ => none) o) none

theorem vStore_eq (n : Nat) (p : Addr) (x : Value) (H : AH) : vStore n p x H = vStoreSlow n p x H := by
  unfold vStore
  cases hg : H.get p.block with
  | none => unfold vStoreSlow; rw [hg]; rfl
  | some o =>
    have hslow : vStoreSlow n p x H = if x.cells.size = n then noVal ((o.put p.off (.vals x.cells.toList)).map fun o' => H.set p.block o') else none := by unfold vStoreSlow; rw [hg]
    cases o with
    | bytes len b lo ro => rfl
    | map es => rw [hslow]; simp only [op?]; split <;> rfl
    | loop es => rw [hslow]; simp only [op?]; split <;> rfl
    | cells vs lo ro =>
      rw [hslow]
      simp only [op?]
      have hsz : x.cells.size = x.cells.toList.length := Array.length_toList.symm
      rw [kOnes_eq, kCells_eq, kPut_eq, kLen_eq, hsz, Trie.beq_dec]
      generalize x.cells.toList = l
      cases ro with
      | true => simp only [cond_true, AObj.put]; split <;> rfl
      | false =>
        simp only [cond_false, Bool.cond_decide]
        by_cases h1 : l.length = n
        · rw [if_pos h1, if_pos h1]
          have hput : (AObj.cells vs lo false).put p.off (.vals l) = if p.off + l.length ≤ vs.length then (if oneCells l then some (.cells (vs.take p.off ++ (l ++ vs.drop (p.off + l.length))) lo false) else none) else none := rfl
          rw [hput]
          by_cases h2 : p.off + l.length ≤ vs.length
          · rw [if_pos h2, if_pos h2]
            cases h3 : oneCells l with
            | true => rfl
            | false => rfl
          · rw [if_neg h2, if_neg h2]
            cases h3 : oneCells l <;> rfl
        · rw [if_neg h1, if_neg h1]

def oMv (x : FX) : FRun := fun _ look H => some (x look, H)
def oLoad1 (x : FX) : FRun := fun _ look H => op? (vPtr (x look)) (fun a => vLoad a H) none
def oLoadN (n : Nat) (x : FX) : FRun := fun _ look H => op? (vPtr (x look)) (fun a => vLoadN n a H) none
def oStore (n : Nat) (a x : FX) : FRun := fun _ look H => op? (vPtr (a look)) (fun p => vStore n p (x look) H) none
def oFieldAddr (off : Nat) (x : FX) : FRun := fun _ look H => op? (vPtr (x look)) (fun a => some (.pointer (some (a.add off)), H)) none
def oIndexAddr (size : Nat) (x i : FX) : FRun := fun _ look H =>
  op? (vSl (x look)) (fun s => op? s.1 (fun a => op? (vNat (i look)) (fun k => cond (Nat.blt k.2 s.2.1) (some (.pointer (some (a.add (Nat.mul k.2 size))), H)) none) none) none) none
def oNilCheck (x : FX) : FRun := fun _ look H => op? (vPtr (x look)) (fun a => some (.pointer (some a), H)) (kWith H (anilCheck (x look)))
def oExtract (x : FX) (i : Nat) : FRun := fun _ look H => op? (vTup (x look)) (fun vs => kWith H (kNth vs.toList i)) none
def oLen (d : TypeDesc) (x : FX) : FRun := fun _ look H => if lenKind d (x look) then withH H (alen H (x look)) else none
def oLenS (e : TypeId) (x : FX) : FRun := fun _ look H => op? (vSl (x look)) (fun s => some (.int .i64 (Int.ofNat s.2.1), H)) (oLen (.slice e) x (fun _ _ _ => none) look H)
def oPick (c a b : FX) : FRun := fun _ look H => op? (vBool (c look)) (fun z => some (cond z (a look) (b look), H)) none

theorem oLoad1_ok (x : Operand) (call : FCallF) (look : Tmp → Value) (H : AH) : oLoad1 (fx x) call look H = runOp (up call) (.load1 x) (evalBy look) H := by
  simp only [oLoad1, fx_eq, runOp, COp.run]
  generalize evalBy look x = v
  cases v with
  | pointer a => cases a with
    | none => rfl
    | some a =>
      show vLoad a H = _
      unfold vLoad
      simp only
      cases hg : H.get a.block with
      | none => rfl
      | some o => simp only [op?, kWith_eq, kCell_eq]
  | _ => rfl

theorem oLoadN_ok (n : Nat) (x : Operand) (call : FCallF) (look : Tmp → Value) (H : AH) : oLoadN n (fx x) call look H = runOp (up call) (.loadN n x) (evalBy look) H := by
  simp only [oLoadN, fx_eq, runOp, COp.run]
  generalize evalBy look x = v
  cases v with
  | pointer a => cases a with
    | none => rfl
    | some a =>
      show vLoadN n a H = _
      unfold vLoadN
      simp only
      cases hg : H.get a.block with
      | none => rfl
      | some o =>
        cases o with
        | cells vs lo ro =>
          simp only [op?, kSub_eq, AObj.chunk]
          split <;> rfl
        | bytes len m lo ro =>
          simp only [op?, AObj.chunk, ble_dec, Bool.cond_decide]
          by_cases h : a.off + n ≤ len
          · have h2 : a.off.add n ≤ len := h
            rw [if_pos h, if_pos h2]; rfl
          · have h2 : ¬ a.off.add n ≤ len := h
            rw [if_neg h, if_neg h2]
        | map es => rfl
        | loop es => rfl
  | _ => rfl

theorem oStore_ok (n : Nat) (a x : Operand) (call : FCallF) (look : Tmp → Value) (H : AH) : oStore n (fx a) (fx x) call look H = runOp (up call) (.store n a x) (evalBy look) H := by
  simp only [oStore, fx_eq, runOp, COp.run]
  generalize evalBy look a = v
  cases v with
  | pointer p => cases p with
    | none => rfl
    | some p => show vStore n p _ H = _; rw [vStore_eq]; rfl
  | _ => rfl

theorem oFieldAddr_ok (off : Nat) (x : Operand) (call : FCallF) (look : Tmp → Value) (H : AH) : oFieldAddr off (fx x) call look H = runOp (up call) (.fieldAddr off x) (evalBy look) H := by
  simp only [oFieldAddr, fx_eq, runOp, COp.run]
  generalize evalBy look x = v
  cases v with
  | pointer p => cases p <;> rfl
  | _ => rfl

theorem oIndexAddr_ok (size : Nat) (x i : Operand) (call : FCallF) (look : Tmp → Value) (H : AH) : oIndexAddr size (fx x) (fx i) call look H = runOp (up call) (.indexAddr size x i) (evalBy look) H := by
  simp only [oIndexAddr, fx_eq, runOp, COp.run]
  generalize evalBy look x = v
  generalize evalBy look i = u
  cases v with
  | slice a n c => cases a with
    | none => rfl
    | some a =>
      cases u with
      | int k m => cases m with
        | ofNat m =>
          show cond (Nat.blt m n) _ none = _
          rw [blt_dec, Bool.cond_decide]
          simp only [aindexAddr]
          split <;> rfl
        | negSucc m => rfl
      | _ => rfl
  | _ => rfl

theorem oNilCheck_ok (x : Operand) (call : FCallF) (look : Tmp → Value) (H : AH) : oNilCheck (fx x) call look H = runOp (up call) (.nilCheck x) (evalBy look) H := by
  simp only [oNilCheck, fx_eq, runOp, COp.run, kWith_eq]
  generalize evalBy look x = v
  cases v with
  | pointer p => cases p <;> rfl
  | _ => rfl

theorem oExtract_ok (x : Operand) (i : Nat) (call : FCallF) (look : Tmp → Value) (H : AH) : oExtract (fx x) i call look H = runOp (up call) (.extract x i) (evalBy look) H := by
  simp only [oExtract, fx_eq, runOp, COp.run]
  generalize evalBy look x = v
  cases v with
  | tuple vs => simp only [vTup, op?, kWith_eq, kNth_eq, aextract, Array.getElem?_toList]
  | _ => rfl

theorem oPick_ok (c a b : Operand) (call : FCallF) (look : Tmp → Value) (H : AH) : oPick (fx c) (fx a) (fx b) call look H = runOp (up call) (.pick c a b) (evalBy look) H := by
  simp only [oPick, fx_eq, runOp, COp.run]
  generalize evalBy look c = v
  cases v with
  | bool z => cases z <;> rfl
  | _ => rfl

theorem oLenS_ok (e : TypeId) (x : Operand) (call : FCallF) (look : Tmp → Value) (H : AH) : oLenS e (fx x) call look H = runOp (up call) (.len (.slice e) x) (evalBy look) H := by
  simp only [oLenS, oLen, fx_eq, runOp, COp.run]
  generalize evalBy look x = v
  cases v <;> rfl

end
end Go.Ads
/- Each operation, a small function of its own: for the kernel's eyes. Written by tools/fops.py. -/
namespace Go.Ads
noncomputable section

def oAlloc (z : List Value) : FRun := fun call look H =>
  some (.pointer (some ⟨H.next, 0, none⟩), H.push (.cells z 0 false))

def oBox (x : Operand) : FRun := fun call look H =>
  some (.pointer (some ⟨H.next, 0, none⟩), H.push (.cells ((evalBy look) x).cells.toList 0 false))

def oBuild (zero : Array Value) (places : List (Nat × Nat)) (parts : List (Nat × Operand)) : FRun := fun call look H =>
  withH H (abuild zero (places[·]?) (evalParts (evalBy look) parts))

def oBuildArr (zero : Array Value) (size : Nat) (parts : List (Nat × Operand)) : FRun := fun call look H =>
  withH H (abuild zero (fun j => some (j * size, size)) (evalParts (evalBy look) parts))

def oBuildSlice (u8 : Bool) (size : Nat) (n : Nat) (zero : List Value) (parts : List (Nat × Operand)) : FRun := fun call look H =>
  abuildSlice u8 size n zero H (evalParts (evalBy look) parts)

def oEqNil (neg : Bool) (const : Bool) (d : TypeDesc) (x : Operand) (y : Operand) : FRun := fun call look H =>
  if nilKind d ((evalBy look) x) then withH H (aeqNil neg const ((evalBy look) x) ((evalBy look) y)) else none

def oEqFlat (neg : Bool) (fs : List (Nat × TypeDesc)) (x : Operand) (y : Operand) : FRun := fun call look H =>
  if cellsFitL fs (aggCells ((evalBy look) x)) then withH H (aeqFlat neg (fs.map (·.1)) ((evalBy look) x) ((evalBy look) y)) else none

def oUn (op : UnOp) (x : Operand) : FRun := fun call look H =>
  withH H (aun op ((evalBy look) x))

def oToInt (k : IntKind) (x : Operand) : FRun := fun call look H =>
  withH H (atoInt k ((evalBy look) x))

def oToStr (x : Operand) : FRun := fun call look H =>
  withH H (atoStr ((evalBy look) x))

def oToBytes (x : Operand) : FRun := fun call look H =>
  atoBytes H ((evalBy look) x)

def oFromBytes (x : Operand) : FRun := fun call look H =>
  withH H (afromBytes H ((evalBy look) x))

def oMkIface (t : TypeId) (x : Operand) : FRun := fun call look H =>
  some (.iface t ((evalBy look) x), H)

def oMkFunc (f : Fn) (first : List Operand) (caps : List Operand) : FRun := fun call look H =>
  some (.func f (first.map (evalBy look)).toArray (caps.map (evalBy look)).toArray, H)

def oMkMap  : FRun := fun call look H =>
  some (.map (some H.next), H.push (.map []))

def oMkSlice (u8 : Bool) (size : Nat) (bytes : Nat) (zero : List Value) (l : Operand) (c : Operand) : FRun := fun call look H =>
  amakeSlice size bytes zero u8 H ((evalBy look) l) ((evalBy look) c)

def oSliceS (x : Operand) (lo : Option Operand) (hi : Option Operand) : FRun := fun call look H =>
  withH H (asliceStr ((evalBy look) x) (lo.map (evalBy look)) (hi.map (evalBy look)))

def oSlice (size : Nat) (x : Operand) (lo : Option Operand) (hi : Option Operand) (mx : Option Operand) : FRun := fun call look H =>
  withH H (aslice size H ((evalBy look) x) (lo.map (evalBy look)) (hi.map (evalBy look)) (mx.map (evalBy look)))

def oSliceA (n : Nat) (size : Nat) (x : Operand) (lo : Option Operand) (hi : Option Operand) (mx : Option Operand) : FRun := fun call look H =>
  withH H (asliceArr n size ((evalBy look) x) (lo.map (evalBy look)) (hi.map (evalBy look)) (mx.map (evalBy look)))

def oField (agg : Bool) (off : Nat) (size : Nat) (x : Operand) : FRun := fun call look H =>
  withH H (apart agg off size ((evalBy look) x))

def oIndexAddrA (n : Nat) (size : Nat) (x : Operand) (i : Operand) : FRun := fun call look H =>
  withH H (aindexAddrA n size ((evalBy look) x) ((evalBy look) i))

def oIndexS (x : Operand) (i : Operand) : FRun := fun call look H =>
  withH H (aindexStr ((evalBy look) x) ((evalBy look) i))

def oIndexA (agg : Bool) (n : Nat) (size : Nat) (x : Operand) (i : Operand) : FRun := fun call look H =>
  withH H (aindexArr agg n size ((evalBy look) x) ((evalBy look) i))

def oLookup (kd : TypeDesc) (zero : Value) (ok : Bool) (x : Operand) (k : Operand) : FRun := fun call look H =>
  if keyFits kd ((evalBy look) k) then withH H (alookup zero ok H ((evalBy look) x) ((evalBy look) k)) else none

def oMapUpdate (kd : TypeDesc) (m : Operand) (k : Operand) (v : Operand) : FRun := fun call look H =>
  if keyFits kd ((evalBy look) k) then noVal (amapUpdate H ((evalBy look) m) ((evalBy look) k) ((evalBy look) v)) else none

def oLenA (n : Nat) : FRun := fun call look H =>
  some (goInt n, H)

def oCap (x : Operand) : FRun := fun call look H =>
  withH H (acap H ((evalBy look) x))

def oAppend (size : Nat) (bytes : Nat) (s : Operand) (x : Operand) : FRun := fun call look H =>
  match chunkOf size H ((evalBy look) x) with
    | some (k, ch) => aappend size bytes H ((evalBy look) s) k ch
    | none => none

def oAppendN (u8 : Bool) (size : Nat) (bytes : Nat) (zero : List Value) (s : Operand) (x : Operand) : FRun := fun call look H =>
  aappendN u8 size bytes zero H ((evalBy look) s) ((evalBy look) x)

def oCopy (size : Nat) (d : Operand) (s : Operand) : FRun := fun call look H =>
  acopy size H ((evalBy look) d) ((evalBy look) s)

def oMax (xs : List Operand) : FRun := fun call look H =>
  withH H (amax (xs.map (evalBy look)))

def oMin (xs : List Operand) : FRun := fun call look H =>
  withH H (amin (xs.map (evalBy look)))

def oClear (zero : List Value) (x : Operand) : FRun := fun call look H =>
  noVal (aclear H zero ((evalBy look) x))

def oAssert (T : TypeId) (zero : Value) (ok : Bool) (x : Operand) : FRun := fun call look H =>
  withH H (aassert T zero ok ((evalBy look) x))

def oCall (f : FuncId) (args : List Operand) : FRun := fun call look H =>
  call f (args.map (evalBy look)) H

def oCallV (x : Operand) (args : List Operand) : FRun := fun call look H =>
  match (evalBy look) x with
    | .func (.func f) first caps => call f (first.toList ++ args.map (evalBy look) ++ caps.toList) H
    | _ => none

def oCallM (tbl : List (TypeId × FuncId)) (x : Operand) (args : List Operand) : FRun := fun call look H =>
  match (evalBy look) x with
    | .iface t v => match findM tbl t with
      | some f => call f (v :: args.map (evalBy look)) H
      | none => none
    | _ => none

def oPanic (x : Operand) : FRun := fun call look H =>
  none

def oNilCheckM (tbl : List (TypeId × String)) (x : Operand) : FRun := fun call look H =>
  withH H (anilCheckM tbl ((evalBy look) x))

def oAssertI (tbl : List TypeId) (ok : Bool) (x : Operand) : FRun := fun call look H =>
  withH H (aassertI tbl ok ((evalBy look) x))

def oLenAny (d : TypeDesc) (x : Operand) : FRun :=
  match d with
  | .slice e => oLenS e (fx x)
  | d => oLen d (fx x)
theorem oLenAny_ok (d : TypeDesc) (x : Operand) (call : FCallF) (look : Tmp → Value) (H : AH) : oLenAny d x call look H = runOp (up call) (.len d x) (evalBy look) H := by
  have h : oLen d (fx x) call look H = runOp (up call) (.len d x) (evalBy look) H := by simp only [oLen, fx_eq, runOp, COp.run]
  cases d
  case slice e => exact oLenS_ok e x call look H
  all_goals exact h

def convOp : COp → FRun
  | .mv x => oMv (fx x)
  | .pick c a b => oPick (fx c) (fx a) (fx b)
  | .load1 x => oLoad1 (fx x)
  | .loadN n x => oLoadN n (fx x)
  | .store n a x => oStore n (fx a) (fx x)
  | .nilCheck x => oNilCheck (fx x)
  | .fieldAddr off x => oFieldAddr off (fx x)
  | .indexAddr size x i => oIndexAddr size (fx x) (fx i)
  | .extract x i => oExtract (fx x) i
  | .len d x => oLenAny d x
  | .alloc z => oAlloc z
  | .box x => oBox x
  | .build zero places parts => oBuild zero places parts
  | .buildArr zero size parts => oBuildArr zero size parts
  | .buildSlice u8 size n zero parts => oBuildSlice u8 size n zero parts
  | .eqNil neg const d x y => oEqNil neg const d x y
  | .eqFlat neg fs x y => oEqFlat neg fs x y
  | .un op x => oUn op x
  | .toInt k x => oToInt k x
  | .toStr x => oToStr x
  | .toBytes x => oToBytes x
  | .fromBytes x => oFromBytes x
  | .mkIface t x => oMkIface t x
  | .mkFunc f first caps => oMkFunc f first caps
  | .mkMap  => oMkMap
  | .mkSlice u8 size bytes zero l c => oMkSlice u8 size bytes zero l c
  | .sliceS x lo hi => oSliceS x lo hi
  | .slice size x lo hi mx => oSlice size x lo hi mx
  | .sliceA n size x lo hi mx => oSliceA n size x lo hi mx
  | .field agg off size x => oField agg off size x
  | .indexAddrA n size x i => oIndexAddrA n size x i
  | .indexS x i => oIndexS x i
  | .indexA agg n size x i => oIndexA agg n size x i
  | .lookup kd zero ok x k => oLookup kd zero ok x k
  | .mapUpdate kd m k v => oMapUpdate kd m k v
  | .lenA n => oLenA n
  | .cap x => oCap x
  | .append size bytes s x => oAppend size bytes s x
  | .appendN u8 size bytes zero s x => oAppendN u8 size bytes zero s x
  | .copy size d s => oCopy size d s
  | .max xs => oMax xs
  | .min xs => oMin xs
  | .clear zero x => oClear zero x
  | .assert T zero ok x => oAssert T zero ok x
  | .call f args => oCall f args
  | .callV x args => oCallV x args
  | .callM tbl x args => oCallM tbl x args
  | .panic x => oPanic x
  | .nilCheckM tbl x => oNilCheckM tbl x
  | .assertI tbl ok x => oAssertI tbl ok x
  | .bin op x y => oBin op x y

theorem convOp_ok (c : COp) (call : FCallF) (look : Tmp → Value) (H : AH) : convOp c call look H = runOp (up call) c (evalBy look) H := by
  cases c
  case bin op x y => exact oBin_ok op x y call look H
  case load1 x => exact oLoad1_ok x call look H
  case loadN n x => exact oLoadN_ok n x call look H
  case store n a x => exact oStore_ok n a x call look H
  case fieldAddr o x => exact oFieldAddr_ok o x call look H
  case indexAddr s x i => exact oIndexAddr_ok s x i call look H
  case nilCheck x => exact oNilCheck_ok x call look H
  case extract x i => exact oExtract_ok x i call look H
  case pick c a b => exact oPick_ok c a b call look H
  case len d x => exact oLenAny_ok d x call look H
  case mv x => simp only [convOp, oMv, fx_eq, runOp, COp.run]
  case call f args => simp only [convOp, oCall, runOp, up, justVal_valOut]
  case callV x args =>
    simp only [convOp, oCallV, runOp, up]
    generalize evalBy look x = v
    cases v with
    | func f a b => cases f <;> first | rfl | simp only [justVal_valOut]
    | _ => rfl
  case callM tbl x args =>
    simp only [convOp, oCallM, runOp, up]
    generalize evalBy look x = v
    cases v with
    | iface t v => simp only; cases findM tbl t <;> first | rfl | simp only [justVal_valOut]
    | _ => rfl
  all_goals rfl

end
end Go.Ads
/- The machine once more, its frames in tries: for the kernel's eyes. -/
namespace Go.Ads
noncomputable section

abbrev Fr := Trie Value

def Fr.look (F : Fr) (t : Tmp) : Value := Option.rec (motive := fun _ => Value) undef (fun v => v) (F.get t)

def fput (F : Fr) (d : Option Tmp) (v : Value) : Fr := Option.rec (motive := fun _ => Fr) F (fun d => F.set d (some v)) d

def guardedBy (g : Option (Tmp × Bool)) (look : Tmp → Value) : Bool :=
  match g with
  | none => true
  | some (t, want) => match look t with
    | .bool b => b == want
    | _ => false

/-- An operation, made ready. 'lay': the cells of a block that it lays. -/
structure FOper where
  dst : Option Tmp
  run : FRun
  guard : Option (Tmp × Bool)
  lay : Option (List Value)

def layOf : COp → Option (List Value)
  | .alloc z => some z
  | _ => none
def conv (o : COper) : FOper := ⟨o.dst, convOp o.op, o.guard, layOf o.op⟩

inductive FCode where
  | skip
  | region (ops : List FOper)
  | draw (ops : List FOper) (n : Nat) (pairs : List (Nat × Nat))
  | seq (a b : FCode)
  | cond (c : Operand) (thn els : FCode)
  | block (id : Nat) (body : FCode)
  | loop (body : FCode)
  | exit (id : Nat)
  | ret
  | fail

def convCode : CCode → FCode
  | .skip => .skip
  | .region ops => .region (ops.map conv)
  | .draw ops pairs => .draw (ops.map conv) (allocsIn ops) pairs
  | .seq a b => .seq (convCode a) (convCode b)
  | .cond c a b => .cond c (convCode a) (convCode b)
  | .block id b => .block id (convCode b)
  | .loop b => .loop (convCode b)
  | .exit id => .exit id
  | .ret => .ret
  | .range .. => .fail

structure FFunc where
  results : List CRes
  body : FCode

structure FEnv where
  spec : FuncId → Option (List Value → AH → Option (Value × AH))
  code : Trie FFunc

abbrev FRes := Option (CExit × Fr × AH)

def fops (call : FCallF) : List FOper → Fr → AH → Option (Fr × AH)
  | [], F, H => some (F, H)
  | o :: l, F, H => cond (guardedBy o.guard F.look)
      (match o.run call F.look H with
      | some (v, H') => fops call l (fput F o.dst v) H'
      | none => none)
      (fops call l (fput F o.dst undef) H)

abbrev FEnt := Fr × AH × Value

def frunD (call : FCallF) (o : FOper) (look : Tmp → Value) (H : AH) (rid : Nat) : Option (Value × AH) :=
  match o.lay with
  | none => o.run call look H
  | some z => some (.pointer (some ⟨rid, 0, none⟩), H.set rid (.cells z 0 false))
def fnext (o : FOper) (rid : Nat) : Nat :=
  match o.lay with
  | none => rid
  | some _ => Nat.succ rid

def fdrawRun (call : FCallF) : List FOper → Nat → Fr → AH → Option (List FEnt × Fr × AH)
  | [], _, F, H => some ([], F, H)
  | o :: l, rid, F, H => cond (guardedBy o.guard F.look)
      (match frunD call o F.look H rid with
      | some (v, H') => match fdrawRun call l (fnext o rid) (fput F o.dst v) H' with
        | some (es, r) => some ((F, H, v) :: es, r)
        | none => none
      | none => none)
      (match fdrawRun call l (fnext o rid) (fput F o.dst undef) H with
      | some (es, r) => some ((F, H, undef) :: es, r)
      | none => none)

def fagain (call : FCallF) (c : FOper) (F : Fr) (v : Value) (H : AH) : Bool :=
  match c.run call F.look H with
  | some (u, _) => veq 16 u v
  | none => false

def fpairs (call : FCallF) (cs : List FOper) (es : List FEnt) : List (Nat × Nat) → Bool
  | [] => true
  | (i, j) :: l => (match cs[i]?, es[i]?, es[j]?, es[j + 1]? with
    | some c, some (F, _, v), some (_, H1, _), some (_, H2, _) => !guardedBy c.guard F.look || (fagain call c F v H1 && fagain call c F v H2)
    | _, _, _, _ => false) && fpairs call cs es l

def fdraw (call : FCallF) (cs : List FOper) (n : Nat) (pairs : List (Nat × Nat)) (F : Fr) (H : AH) : Option (Fr × AH) :=
  match fdrawRun call cs H.next F (H.reserve n) with
  | some (es, F', H') => cond (fpairs call cs (es ++ [(F', H', undef)]) pairs) (some (F', H')) none
  | none => none

def fReg (r : Option (Fr × AH)) : FRes :=
  match r with
  | some (F, H) => some (.normal, F, H)
  | none => none
def fSeq (k : Fr → AH → FRes) (r : FRes) : FRes :=
  match r with
  | some (e, F, H) => match e with
    | .normal => k F H
    | .exit id => some (.exit id, F, H)
    | .ret => some (.ret, F, H)
    | .panic _ => none
  | none => none
def fCond (v : Value) (a b : FRes) : FRes :=
  match v with
  | .bool c => cond c a b
  | _ => none
def fBlock (id : Nat) (r : FRes) : FRes :=
  match r with
  | some (e, F, H) => match e with
    | .exit id' => cond (Nat.beq id' id) (some (.normal, F, H)) (some (.exit id', F, H))
    | .normal => some (.normal, F, H)
    | .ret => some (.ret, F, H)
    | .panic _ => none
  | none => none

def resultBy (look : Tmp → Value) (H : AH) : CRes → Option Value
  | .tmp t => some (look t)
  | .cell a => match look a with
    | .pointer (some p) => match H.get p.block with
      | some o => o.cell? p.off
      | none => none
    | _ => none
  | .cells a n => match look a with
    | .pointer (some p) => match H.get p.block with
      | some o => match o.chunk p.off n with
        | some c => some (.agg c.cells.toArray)
        | none => none
      | none => none
    | _ => none
def resultsBy (look : Tmp → Value) (H : AH) : List CRes → Option (List Value)
  | [] => some []
  | r :: l => match resultBy look H r, resultsBy look H l with
    | some v, some vs => some (v :: vs)
    | _, _ => none

def fFin (rs : List CRes) (r : FRes) : Option (Value × AH) :=
  match r with
  | some (e, F, H) => match e with
    | .exit _ => none
    | .panic _ => none
    | .normal => match resultsBy F.look H rs with
      | some vs => some (tupled vs, H)
      | none => none
    | .ret => match resultsBy F.look H rs with
      | some vs => some (tupled vs, H)
      | none => none
  | none => none

def frameOf : List Value → Nat → Fr → Fr
  | [], _, F => F
  | v :: l, i, F => frameOf l (Nat.succ i) (F.set i (some v))

abbrev FExec := FCode → Fr → AH → FRes

def fstep (rec : FExec) (call : FCallF) (code : FCode) (F : Fr) (H : AH) : FRes :=
  match code with
  | .skip => some (.normal, F, H)
  | .region ops => fReg (fops call ops F H)
  | .draw ops n pairs => fReg (fdraw call ops n pairs F H)
  | .seq a b => fSeq (rec b) (rec a F H)
  | .cond c a b => fCond (evalBy F.look c) (rec a F H) (rec b F H)
  | .block id body => fBlock id (rec body F H)
  | .loop body => fSeq (rec (.loop body)) (rec body F H)
  | .exit id => some (.exit id, F, H)
  | .ret => some (.ret, F, H)
  | .fail => none

def fcall (E : FEnv) (rec : FExec) (g : FuncId) (args : List Value) (H : AH) : Option (Value × AH) :=
  match E.spec g with
  | some s => s args H
  | none => match E.code.get g with
    | some fn => fFin fn.results (rec fn.body (frameOf args 0 .leaf) H)
    | none => none

def fboth (E : FEnv) (n : Nat) : FExec × FCallF :=
  Nat.rec (motive := fun _ => FExec × FCallF) (fun _ _ _ => none, fun _ _ _ => none) (fun _ ih => (fstep ih.1 ih.2, fcall E ih.1)) n

/- It is the same machine. -/
def FrOK (F : Fr) (ts : List Value) : Prop := F.look = fun t => ts.getD t undef

theorem aeval_by (ts : List Value) : aeval ts = evalBy fun t => ts.getD t undef := by funext x; cases x <;> rfl
theorem guarded_by (g : Option (Tmp × Bool)) (ts : List Value) : guarded g ts = guardedBy g fun t => ts.getD t undef := by cases g <;> rfl
theorem aresults_by (ts : List Value) (H : AH) : ∀ rs, aresults ts H rs = resultsBy (fun t => ts.getD t undef) H rs := by
  intro rs
  induction rs with
  | nil => rfl
  | cons r l ih =>
    have : aresult ts H r = resultBy (fun t => ts.getD t undef) H r := by cases r <;> rfl
    simp only [aresults, resultsBy, this, ih]
    rfl

theorem look_set (F : Fr) (d t : Tmp) (v : Value) : Fr.look (F.set d (some v)) t = if t = d then v else F.look t := by
  unfold Fr.look
  rw [Trie.get_set]
  split <;> rfl

theorem FrOK.put {F : Fr} {ts : List Value} (h : FrOK F ts) {d : Option Tmp} (hd : ∀ x, d = some x → x < ts.length) (v : Value) : FrOK (fput F d v) (aput ts d v) := by
  cases d with
  | none => exact h
  | some d =>
    funext t
    show Fr.look (F.set d (some v)) t = (ts.set d v).getD t undef
    rw [look_set, h]
    by_cases e : t = d
    · subst e
      rw [if_pos rfl, List.getD_eq_getElem?_getD, List.getElem?_set_self (hd t rfl)]; rfl
    · rw [if_neg e]
      show ts.getD t undef = _
      rw [List.getD_eq_getElem?_getD, List.getD_eq_getElem?_getD, List.getElem?_set_ne (fun z => e z.symm)]

theorem aput_length (ts : List Value) (d : Option Tmp) (v : Value) : (aput ts d v).length = ts.length := by cases d <;> simp [aput]

theorem FrOK.frame (n : Nat) (args : List Value) : FrOK (frameOf args 0 .leaf) (args ++ List.replicate n undef) := by
  have key : ∀ (l : List Value) (i : Nat) (F : Fr) (t : Nat), (frameOf l i F).look t = if i ≤ t ∧ t < i + l.length then l.getD (t - i) undef else F.look t := by
    intro l
    induction l with
    | nil => intro i F t; rw [if_neg (by intro h; simp at h; omega)]; rfl
    | cons v l ih =>
      intro i F t
      show (frameOf l (i + 1) (F.set i (some v))).look t = _
      rw [ih, look_set]
      by_cases h1 : t = i
      · subst h1
        rw [if_neg (by omega), if_pos rfl, if_pos (by simp)]; simp
      · rw [if_neg h1]
        by_cases h2 : i + 1 ≤ t ∧ t < i + 1 + l.length
        · rw [if_pos h2, if_pos (by simp only [List.length_cons]; omega)]
          rw [show t - i = (t - (i + 1)) + 1 by omega]; simp
        · rw [if_neg h2, if_neg (by simp only [List.length_cons]; omega)]
  funext t
  rw [key]
  have hb : t < args.length ↔ (0 ≤ t ∧ t < 0 + args.length) := by simp
  by_cases h : t < args.length
  · rw [if_pos (hb.1 h), List.getD_eq_getElem?_getD, List.getD_eq_getElem?_getD, List.getElem?_append_left (by simpa using h)]; rfl
  · rw [if_neg (fun z => h (hb.2 z)), List.getD_eq_getElem?_getD, List.getElem?_append_right (Nat.le_of_not_lt h)]
    show undef = _
    cases hx : (List.replicate n undef)[t - args.length]? with
    | none => rfl
    | some v =>
      have := List.mem_of_getElem? hx
      rw [List.mem_replicate] at this
      rw [this.2]; rfl

def opFits (n : Nat) (o : COper) : Bool := match o.dst with
  | some d => Nat.blt d n
  | none => true
def codeFits (n : Nat) : CCode → Bool
  | .region ops => ops.all (opFits n)
  | .draw ops _ => ops.all (opFits n)
  | .seq a b => codeFits n a && codeFits n b
  | .cond _ a b => codeFits n a && codeFits n b
  | .block _ b => codeFits n b
  | .loop b => codeFits n b
  | _ => true

def SubCall (c : FCallF) (d : CallF) : Prop := ∀ f args H v H', c f args H = some (v, H') → d (.fn f) args H = some (.val v, H')

theorem runOp_sub {c : FCallF} {d : CallF} (h : SubCall c d) {o : COp} {ev : Operand → Value} {H : AH} {r : Value × AH} (hr : runOp (up c) o ev H = some r) : runOp d o ev H = some r := by
  obtain ⟨v, H'⟩ := r
  cases o <;> first | exact hr | skip
  · simp only [runOp, up, justVal_valOut] at hr
    simp only [runOp]; rw [h _ _ _ _ _ hr]; rfl
  · simp only [runOp] at hr ⊢
    split at hr
    · simp only [up, justVal_valOut] at hr
      rw [h _ _ _ _ _ hr]; rfl
    · cases hr
    · cases hr
  · simp only [runOp] at hr ⊢
    split at hr
    · split at hr
      · simp only [up, justVal_valOut] at hr
        rw [h _ _ _ _ _ hr]; rfl
      · cases hr
    · cases hr

theorem opFits_lt {n : Nat} {o : COper} (h : opFits n o = true) : ∀ x, o.dst = some x → x < n := by
  intro x hx
  unfold opFits at h
  rw [hx] at h
  simpa [Nat.blt_eq] using h

theorem fops_ok {c : FCallF} {d : CallF} (hcd : SubCall c d) : ∀ (l : List COper) (F : Fr) (ts : List Value) (H : AH) (F' : Fr) (H' : AH), l.all (opFits ts.length) = true → FrOK F ts → fops c (l.map conv) F H = some (F', H') →
    ∃ ts', runOps d l ts H = some (none, ts', H') ∧ FrOK F' ts' ∧ ts'.length = ts.length := by
  intro l
  induction l with
  | nil =>
    intro F ts H F' H' _ hF h
    simp only [List.map_nil, fops, Option.some.injEq, Prod.mk.injEq] at h
    obtain ⟨rfl, rfl⟩ := h
    exact ⟨ts, rfl, hF, rfl⟩
  | cons o l ih =>
    intro F ts H F' H' hfit hF h
    simp only [List.all_cons, Bool.and_eq_true] at hfit
    have hd := opFits_lt hfit.1
    simp only [List.map_cons, fops, conv, convOp_ok] at h
    simp only [runOps]
    rw [guarded_by, ← hF]
    cases hg : guardedBy o.guard F.look with
    | true =>
      rw [hg, cond_true] at h
      rw [if_pos rfl]
      split at h
      · rename_i v H1 hop
        have := runOp_O (runOp_sub hcd hop)
        rw [aeval_by, ← hF, this]
        obtain ⟨ts', h1, h2, h3⟩ := ih _ (aput ts o.dst v) _ _ _ (by rw [aput_length]; exact hfit.2) (hF.put hd v) h
        exact ⟨ts', h1, h2, by rw [h3, aput_length]⟩
      · cases h
    | false =>
      rw [hg, cond_false] at h
      rw [if_neg (by simp)]
      obtain ⟨ts', h1, h2, h3⟩ := ih _ (aput ts o.dst undef) _ _ _ (by rw [aput_length]; exact hfit.2) (hF.put hd undef) h
      exact ⟨ts', h1, h2, by rw [h3, aput_length]⟩

theorem layOf_none {op : COp} (h : op.isAlloc = false) : layOf op = none := by cases op <;> first | rfl | cases h
theorem runOpD_none {op : COp} (h : op.isAlloc = false) (c : CallF) (ev : Operand → Value) (H : AH) (rid : Nat) : runOpD c op ev H rid = runOp c op ev H := by cases op <;> first | rfl | cases h
theorem frunD_conv (c : FCallF) (o : COper) (look : Tmp → Value) (H : AH) (rid : Nat) : frunD c (conv o) look H rid = runOpD (up c) o.op (evalBy look) H rid := by
  cases ha : o.op.isAlloc with
  | true =>
    obtain ⟨d, op, g⟩ := o
    cases op <;> first | rfl | cases ha
  | false =>
    rw [runOpD_none ha, ← convOp_ok]
    unfold frunD conv
    simp only [layOf_none ha]
theorem fnext_conv (o : COper) (rid : Nat) : fnext (conv o) rid = ridNext o rid := by
  obtain ⟨d, op, g⟩ := o
  cases op <;> rfl

inductive EntsOK : List FEnt → List DEnt → Prop
  | nil : EntsOK [] []
  | cons {F : Fr} {ts : List Value} (h : FrOK F ts) (H : AH) (v : Value) {es : List FEnt} {ds : List DEnt} (t : EntsOK es ds) : EntsOK ((F, H, v) :: es) ((ts, H, v) :: ds)

theorem EntsOK.get {es : List FEnt} {ds : List DEnt} (h : EntsOK es ds) : ∀ (i : Nat) (F : Fr) (H : AH) (v : Value), es[i]? = some (F, H, v) → ∃ ts, ds[i]? = some (ts, H, v) ∧ FrOK F ts := by
  induction h with
  | nil => intro i F H v e; simp at e
  | cons hF H v t ih =>
    intro i F2 H2 v2 e
    cases i with
    | zero => simp only [List.getElem?_cons_zero, Option.some.injEq, Prod.mk.injEq] at e; obtain ⟨rfl, rfl, rfl⟩ := e; exact ⟨_, rfl, hF⟩
    | succ i => simp only [List.getElem?_cons_succ] at e ⊢; exact ih i F2 H2 v2 e

theorem EntsOK.snoc {es : List FEnt} {ds : List DEnt} (h : EntsOK es ds) {F : Fr} {ts : List Value} (hF : FrOK F ts) (H : AH) (v : Value) : EntsOK (es ++ [(F, H, v)]) (ds ++ [(ts, H, v)]) := by
  induction h with
  | nil => exact .cons hF H v .nil
  | cons h2 H2 v2 t ih => exact .cons h2 H2 v2 ih

theorem fdrawRun_ok {c : FCallF} {d : CallF} (hcd : SubCall c d) : ∀ (l : List COper) (rid : Nat) (F : Fr) (ts : List Value) (H : AH) (es : List FEnt) (F' : Fr) (H' : AH), l.all (opFits ts.length) = true → FrOK F ts → fdrawRun c (l.map conv) rid F H = some (es, F', H') →
    ∃ ds ts', drawRun d l rid ts H = some (ds, ts', H') ∧ EntsOK es ds ∧ FrOK F' ts' ∧ ts'.length = ts.length := by
  intro l
  induction l with
  | nil =>
    intro rid F ts H es F' H' _ hF h
    simp only [List.map_nil, fdrawRun, Option.some.injEq, Prod.mk.injEq] at h
    obtain ⟨rfl, rfl, rfl⟩ := h
    exact ⟨[], ts, rfl, .nil, hF, rfl⟩
  | cons o l ih =>
    intro rid F ts H es F' H' hfit hF h
    simp only [List.all_cons, Bool.and_eq_true] at hfit
    have hd := opFits_lt hfit.1
    simp only [List.map_cons, fdrawRun, frunD_conv, fnext_conv] at h
    rw [show (conv o).guard = o.guard from rfl, show (conv o).dst = o.dst from rfl] at h
    simp only [drawRun]
    rw [guarded_by, ← hF]
    cases hg : guardedBy o.guard F.look with
    | true =>
      rw [hg, cond_true] at h
      rw [if_pos rfl]
      split at h
      · rename_i v H1 hop
        split at h
        · rename_i es2 r hrun
          simp only [Option.some.injEq, Prod.mk.injEq] at h
          obtain ⟨rfl, rfl⟩ := h
          have hop2 : runOpD d o.op (evalBy F.look) H rid = some (v, H1) := by
            by_cases ha : o.op.isAlloc = true
            · cases hx : o.op <;> rw [hx] at hop ha <;> first | exact hop | cases ha
            · have ha2 : o.op.isAlloc = false := by simpa using ha
              have e1 : ∀ k : CallF, runOpD k o.op (evalBy F.look) H rid = runOp k o.op (evalBy F.look) H := by
                intro k
                cases hx : o.op <;> rw [hx] at ha2 <;> first | rfl | cases ha2
              rw [e1] at hop ⊢
              exact runOp_sub hcd hop
          rw [aeval_by, ← hF, hop2]
          obtain ⟨ds, ts', h1, h2, h3, h4⟩ := ih _ _ (aput ts o.dst v) _ _ _ _ (by rw [aput_length]; exact hfit.2) (hF.put hd v) hrun
          refine ⟨(ts, H, v) :: ds, ts', ?_, .cons hF H v h2, h3, by rw [h4, aput_length]⟩
          simp only [h1]
        · cases h
      · cases h
    | false =>
      rw [hg, cond_false] at h
      rw [if_neg (by simp)]
      split at h
      · rename_i es2 r hrun
        simp only [Option.some.injEq, Prod.mk.injEq] at h
        obtain ⟨rfl, rfl⟩ := h
        obtain ⟨ds, ts', h1, h2, h3, h4⟩ := ih _ _ (aput ts o.dst undef) _ _ _ _ (by rw [aput_length]; exact hfit.2) (hF.put hd undef) hrun
        refine ⟨(ts, H, undef) :: ds, ts', ?_, .cons hF H undef h2, h3, by rw [h4, aput_length]⟩
        simp only [h1]
      · cases h

theorem fpairs_ok {c : FCallF} {d : CallF} (hcd : SubCall c d) {cs : List COper} {es : List FEnt} {ds : List DEnt} (he : EntsOK es ds) : ∀ l, fpairs c (cs.map conv) es l = true → pairsHold d cs ds l = true := by
  intro l
  induction l with
  | nil => intro _; rfl
  | cons x l ih =>
    intro h
    obtain ⟨i, j⟩ := x
    simp only [fpairs, Bool.and_eq_true] at h
    simp only [pairsHold, Bool.and_eq_true]
    refine ⟨?_, ih h.2⟩
    have h1 := h.1
    split at h1
    · rename_i ff F Hx v F1 H1 v1 F2 H2 v2 a1 a2 a3 a4
      obtain ⟨cc, b1, rfl⟩ : ∃ cc, cs[i]? = some cc ∧ conv cc = ff := by
        rw [List.getElem?_map] at a1
        cases hcs : cs[i]? with
        | none => rw [hcs] at a1; cases a1
        | some cc => rw [hcs] at a1; cases a1; exact ⟨cc, rfl, rfl⟩
      obtain ⟨ts, b2, hF⟩ := he.get _ _ _ _ a2
      obtain ⟨_, b3, _⟩ := he.get _ _ _ _ a3
      obtain ⟨_, b4, _⟩ := he.get _ _ _ _ a4
      rw [b1, b2, b3, b4]
      simp only
      rw [guarded_by, ← hF]
      have key : ∀ H, fagain c (conv cc) F v H = true → readAgain d cc ts v H = true := by
        intro H hr
        unfold fagain at hr
        rw [show (conv cc).run = convOp cc.op from rfl, convOp_ok] at hr
        unfold readAgain
        split at hr
        · rename_i u H' hu
          rw [aeval_by, ← hF, runOp_sub hcd hu]
          exact hr
        · cases hr
      simp only [Bool.or_eq_true, Bool.and_eq_true] at h1 ⊢
      exact h1.imp id fun h => ⟨key _ h.1, key _ h.2⟩
    · cases h1

theorem fdraw_ok {c : FCallF} {d : CallF} (hcd : SubCall c d) {cs : List COper} {pairs : List (Nat × Nat)} {F : Fr} {ts : List Value} {H : AH} {F' : Fr} {H' : AH} (hfit : cs.all (opFits ts.length) = true) (hF : FrOK F ts) (h : fdraw c (cs.map conv) (allocsIn cs) pairs F H = some (F', H')) :
    ∃ ts', runDraw d cs pairs ts H = some (ts', H') ∧ FrOK F' ts' ∧ ts'.length = ts.length := by
  unfold fdraw at h
  split at h
  · rename_i es F1 H1 hrun
    obtain ⟨ds, ts', h1, h2, h3, h4⟩ := fdrawRun_ok hcd cs _ _ ts _ _ _ _ hfit hF hrun
    cases hp : fpairs c (cs.map conv) (es ++ [(F1, H1, undef)]) pairs with
    | true =>
      rw [hp, cond_true] at h
      simp only [Option.some.injEq, Prod.mk.injEq] at h
      obtain ⟨rfl, rfl⟩ := h
      have hp2 := fpairs_ok hcd (h2.snoc h3 H1 undef) _ hp
      refine ⟨ts', ?_, h3, h4⟩
      unfold runDraw
      rw [h1]; simp only [hp2, if_true]
    | false => rw [hp, cond_false] at h; cases h
  · cases h

theorem codeFits_mono {n m : Nat} (hnm : n ≤ m) : ∀ c, codeFits n c = true → codeFits m c = true := by
  have hop : ∀ o, opFits n o = true → opFits m o = true := by
    intro o h
    unfold opFits at h ⊢
    split at h
    · rename_i d hd
      simp only [Nat.blt_eq] at h ⊢; omega
    · exact h
  intro c
  induction c with
  | region ops => intro h; simp only [codeFits, List.all_eq_true] at h ⊢; exact fun x hx => hop x (h x hx)
  | draw ops _ => intro h; simp only [codeFits, List.all_eq_true] at h ⊢; exact fun x hx => hop x (h x hx)
  | seq a b iha ihb => intro h; simp only [codeFits, Bool.and_eq_true] at h ⊢; exact ⟨iha h.1, ihb h.2⟩
  | cond _ a b iha ihb => intro h; simp only [codeFits, Bool.and_eq_true] at h ⊢; exact ⟨iha h.1, ihb h.2⟩
  | block _ b ih => intro h; exact ih h
  | loop b ih => intro h; exact ih h
  | _ => intro _; rfl

/-- A function of the fast machine is one of the slow one's. -/
structure FitCode (E : Env) (g : FuncId) (ff : FFunc) (cf : CFunc) : Prop where
  code : E.code g = some cf
  fits : codeFits cf.ntmps cf.body = true
  rest : cf.rest = none
  recov : cf.recov = none
  eq : ff = ⟨cf.results, convCode cf.body⟩
structure FitEnv (E : Env) (G : FEnv) : Prop where
  spec : ∀ g s, G.spec g = some s → ∃ s', E.spec g = some s' ∧ ∀ args H v H', s args H = some (v, H') → s' args H = some (.val v, H')
  none : ∀ g, G.spec g = Option.none → E.spec g = Option.none
  code : ∀ g ff, G.code.get g = some ff → ∃ cf, FitCode E g ff cf

theorem fast_ok {E : Env} {G : FEnv} (hG : FitEnv E G) : ∀ n : Nat,
    (∀ code F ts H x F' H', codeFits ts.length code = true → FrOK F ts → (fboth G n).1 (convCode code) F H = some (x, F', H') → ∃ ts', exec E n code ts H = some (x, ts', H') ∧ FrOK F' ts' ∧ ts'.length = ts.length) ∧
    SubCall (fboth G n).2 (callF E n) := by
  intro n
  induction n with
  | zero => exact ⟨fun code F ts H x F' H' _ _ h => (by cases h), fun f args H v H' h => (by cases h)⟩
  | succ n ih =>
    obtain ⟨ihc, ihs⟩ := ih
    refine ⟨fun code F ts H x F' H' hc hF h => ?_, fun g args H v H' h => ?_⟩
    · replace h : fstep (fboth G n).1 (fboth G n).2 (convCode code) F H = some (x, F', H') := h
      have seqs : ∀ (a b : CCode), codeFits ts.length a = true → codeFits ts.length b = true → fSeq ((fboth G n).1 (convCode b)) ((fboth G n).1 (convCode a) F H) = some (x, F', H') →
          ∃ ts', (match exec E n a ts H with | some (.normal, ts', H') => exec E n b ts' H' | r => r) = some (x, ts', H') ∧ FrOK F' ts' ∧ ts'.length = ts.length := by
        intro a b ha hb h
        unfold fSeq at h
        split at h
        · rename_i e F1 H1 h1
          obtain ⟨ts1, a1, a2, a3⟩ := ihc _ _ ts _ _ _ _ ha hF h1
          split at h
          · obtain ⟨ts2, b1, b2, b3⟩ := ihc _ _ ts1 _ _ _ _ (by rw [a3]; exact hb) a2 h
            exact ⟨ts2, by rw [a1]; exact b1, b2, by rw [b3, a3]⟩
          · simp only [Option.some.injEq, Prod.mk.injEq] at h
            obtain ⟨rfl, rfl, rfl⟩ := h
            exact ⟨ts1, by rw [a1], a2, a3⟩
          · simp only [Option.some.injEq, Prod.mk.injEq] at h
            obtain ⟨rfl, rfl, rfl⟩ := h
            exact ⟨ts1, by rw [a1], a2, a3⟩
          · cases h
        · cases h
      cases code with
      | range f real a b => simp only [convCode, fstep] at h; cases h
      | skip =>
        simp only [convCode, fstep, Option.some.injEq, Prod.mk.injEq] at h
        obtain ⟨rfl, rfl, rfl⟩ := h
        exact ⟨ts, rfl, hF, rfl⟩
      | region ops =>
        simp only [convCode, fstep, fReg] at h
        split at h
        · rename_i F1 H1 h1
          simp only [Option.some.injEq, Prod.mk.injEq] at h
          obtain ⟨rfl, rfl, rfl⟩ := h
          obtain ⟨ts', a1, a2, a3⟩ := fops_ok ihs ops F ts H _ _ hc hF h1
          refine ⟨ts', ?_, a2, a3⟩
          simp only [exec]; rw [show (fun g args H => callF E n g args H) = callF E n from rfl, a1]
        · cases h
      | draw ops pairs =>
        simp only [convCode, fstep, fReg] at h
        split at h
        · rename_i F1 H1 h1
          simp only [Option.some.injEq, Prod.mk.injEq] at h
          obtain ⟨rfl, rfl, rfl⟩ := h
          obtain ⟨ts', a1, a2, a3⟩ := fdraw_ok ihs hc hF h1
          refine ⟨ts', ?_, a2, a3⟩
          simp only [exec]; rw [show (fun g args H => callF E n g args H) = callF E n from rfl, a1]
        · cases h
      | seq a b =>
        simp only [codeFits, Bool.and_eq_true] at hc
        simp only [convCode, fstep] at h
        simp only [exec]
        exact seqs a b hc.1 hc.2 h
      | cond c a b =>
        simp only [codeFits, Bool.and_eq_true] at hc
        simp only [convCode, fstep, fCond] at h
        simp only [exec]
        rw [aeval_by, ← hF]
        split at h
        · rename_i cv hcv
          rw [hcv]
          cases cv with
          | true => exact ihc _ _ ts _ _ _ _ hc.1 hF h
          | false => exact ihc _ _ ts _ _ _ _ hc.2 hF h
        · cases h
      | block id body =>
        simp only [convCode, fstep, fBlock] at h
        simp only [exec]
        split at h
        · rename_i e F1 H1 h1
          obtain ⟨ts1, a1, a2, a3⟩ := ihc body _ ts _ _ _ _ hc hF h1
          rw [a1]
          split at h
          · rename_i id'
            simp only
            cases hb : Nat.beq id' id with
            | true =>
              rw [hb, cond_true] at h
              rw [if_pos (Nat.eq_of_beq_eq_true hb)]
              simp only [Option.some.injEq, Prod.mk.injEq] at h
              obtain ⟨rfl, rfl, rfl⟩ := h
              exact ⟨ts1, rfl, a2, a3⟩
            | false =>
              rw [hb, cond_false] at h
              rw [if_neg (Nat.ne_of_beq_eq_false hb)]
              simp only [Option.some.injEq, Prod.mk.injEq] at h
              obtain ⟨rfl, rfl, rfl⟩ := h
              exact ⟨ts1, rfl, a2, a3⟩
          · simp only [Option.some.injEq, Prod.mk.injEq] at h
            obtain ⟨rfl, rfl, rfl⟩ := h
            exact ⟨ts1, rfl, a2, a3⟩
          · simp only [Option.some.injEq, Prod.mk.injEq] at h
            obtain ⟨rfl, rfl, rfl⟩ := h
            exact ⟨ts1, rfl, a2, a3⟩
          · cases h
        · cases h
      | loop body =>
        simp only [convCode, fstep] at h
        simp only [exec]
        exact seqs body (.loop body) hc hc h
      | exit id =>
        simp only [convCode, fstep, Option.some.injEq, Prod.mk.injEq] at h
        obtain ⟨rfl, rfl, rfl⟩ := h
        exact ⟨ts, rfl, hF, rfl⟩
      | ret =>
        simp only [convCode, fstep, Option.some.injEq, Prod.mk.injEq] at h
        obtain ⟨rfl, rfl, rfl⟩ := h
        exact ⟨ts, rfl, hF, rfl⟩
    · replace h : fcall G (fboth G n).1 g args H = some (v, H') := h
      unfold fcall at h
      simp only [callF]
      split at h
      · rename_i s hs
        obtain ⟨s', hs', hok⟩ := hG.spec g s hs
        rw [hs']; exact hok _ _ _ _ h
      · rename_i hs
        rw [hG.none g hs]
        split at h
        · rename_i ff hff
          obtain ⟨cf, hcf, hfits, hrest, hrecov, rfl⟩ := hG.code g ff hff
          rw [hcf]
          simp only [runFn, hrest, hrecov]
          unfold fFin at h
          have hlen : cf.ntmps ≤ (args ++ List.replicate (cf.ntmps - args.length) undef).length := by simp; omega
          split at h
          · rename_i e F1 H1 h1
            obtain ⟨ts1, a1, a2, a3⟩ := ihc _ _ _ _ _ _ _ (codeFits_mono hlen _ hfits) (FrOK.frame (cf.ntmps - args.length) args) h1
            rw [a1]
            have fin : (match resultsBy F1.look H1 cf.results with | some vs => some (tupled vs, H1) | none => none) = some (v, H') → finish cf ts1 H1 = some (.val v, H') := by
              intro h
              unfold finish
              rw [aresults_by, ← a2]
              split at h
              · rename_i vs hvs
                simp only [Option.some.injEq, Prod.mk.injEq] at h
                obtain ⟨rfl, rfl⟩ := h
                rw [hvs]
              · cases h
            split at h
            · cases h
            · cases h
            · exact fin h
            · exact fin h
          · cases h
        · cases h

/-- A function, made ready. -/
def convF (P : Program) (gs : List Nat) (fn : Func) : Option FFunc :=
  match compFunc P gs fn with
  | some cf => cond (codeFits cf.ntmps cf.body && (cf.rest.isNone && cf.recov.isNone)) (some ⟨cf.results, convCode cf.body⟩) none
  | none => none

theorem convF_some {P : Program} {gs : List Nat} {fn : Func} {ff : FFunc} (h : convF P gs fn = some ff) : ∃ cf, compFunc P gs fn = some cf ∧ codeFits cf.ntmps cf.body = true ∧ cf.rest = none ∧ cf.recov = none ∧ ff = ⟨cf.results, convCode cf.body⟩ := by
  unfold convF at h
  split at h
  · rename_i cf hcf
    cases hb : (codeFits cf.ntmps cf.body && (cf.rest.isNone && cf.recov.isNone)) with
    | true =>
      rw [hb] at h; cases h
      simp only [Bool.and_eq_true, Option.isNone_iff_eq_none] at hb
      exact ⟨cf, hcf, hb.1, hb.2.1, hb.2.2, rfl⟩
    | false => rw [hb] at h; cases h
  · cases h

/-- A table of functions. -/
def table {α : Type} : List (Nat × α) → Trie α
  | [] => .leaf
  | (i, x) :: l => (table l).set i (some x)

theorem table_get {α : Type} : ∀ {l : List (Nat × α)} {i : Nat} {x : α}, (table l).get i = some x → (i, x) ∈ l := by
  intro l
  induction l with
  | nil => intro i x h; cases h
  | cons y l ih =>
    intro i x h
    obtain ⟨j, z⟩ := y
    simp only [table, Trie.get_set] at h
    split at h
    · rename_i hi; cases h; subst hi; simp
    · exact List.mem_cons_of_mem _ (ih h)

/-- What must hold of a table. -/
def Listed (P : Program) (gs : List Nat) (x : Nat × FFunc) : Prop := ∃ fn, P.funcs[x.1]? = some fn ∧ convF P gs fn = some x.2 ∧ (fn.name != "runtime.NumGoroutine") = true

/-- The slow machine's table. -/
def envOf (P : Program) (gs : List Nat) (l : List (Nat × FFunc)) (spec : FuncId → Option (List Value → AH → Option (Value × AH))) : Env :=
  ⟨fun g => (spec g).map fun s args H => valOut (s args H), fun g => match (table l).get g with
    | some _ => (P.funcs[g]?).bind (compFunc P gs)
    | none => none⟩

theorem fitEnv_of {P : Program} {gs : List Nat} {l : List (Nat × FFunc)} {spec : FuncId → Option (List Value → AH → Option (Value × AH))} (h : ∀ x ∈ l, Listed P gs x) : FitEnv (envOf P gs l spec) ⟨spec, table l⟩ := by
  refine ⟨fun g s hs => ⟨_, by show (spec g).map _ = _; rw [show spec g = some s from hs]; rfl, fun args H v H' e => by show valOut (s args H) = _; rw [e]; rfl⟩, fun g hs => by show (spec g).map _ = _; rw [show spec g = none from hs]; rfl, fun g ff hff => ?_⟩
  obtain ⟨fn, h1, h2, _⟩ := h _ (table_get hff)
  obtain ⟨cf, h3, h4, h5, h6, h7⟩ := convF_some h2
  refine ⟨cf, ?_, h4, h5, h6, h7⟩
  have hff' : (table l).get g = some ff := hff
  simp only [envOf, hff']
  rw [show P.funcs[g]? = some fn from h1]
  exact h3

end
end Go.Ads
/- The fast machine, written in recursors: for the kernel's eyes. -/
namespace Go.Ads
noncomputable section

def opP? {α β γ : Type} (o : Option (α × β)) (f : α → β → γ) (d : γ) : γ := Option.rec (motive := fun _ => γ) d (fun p => Prod.rec (motive := fun _ => γ) f p) o
/-- What is left of code. -/
def opR? {γ : Type} (r : Option (CExit × Fr × AH)) (f : CExit → Fr → AH → γ) (d : γ) : γ := Option.rec (motive := fun _ => γ) d (fun p => Prod.rec (motive := fun _ => γ) (fun e q => Prod.rec (motive := fun _ => γ) (fun F H => f e F H) q) p) r

def kLook (F : Fr) (t : Tmp) : Value := op? (F.get t) (fun v => v) undef
def kPutF (F : Fr) (d : Option Tmp) (v : Value) : Fr := op? d (fun d => F.set d (some v)) F
def kBool (v : Value) (want : Bool) : Bool := op? (vBool v) (fun b => cond b want (cond want false true)) false
def kGuard (g : Option (Tmp × Bool)) (look : Tmp → Value) : Bool := op? g (fun p => kBool (look p.1) p.2) true

def kOps (call : FCallF) (l : List FOper) : Fr → AH → Option (Fr × AH) :=
  List.rec (motive := fun _ => Fr → AH → Option (Fr × AH)) (fun F H => some (F, H))
    (fun o _ ih F H => Bool.rec (motive := fun _ => Option (Fr × AH)) (ih (kPutF F o.dst undef) H)
      (opP? (o.run call F.look H) (fun v H' => ih (kPutF F o.dst v) H') none) (kGuard o.guard F.look)) l

theorem kLook_eq (F : Fr) (t : Tmp) : kLook F t = F.look t := rfl
theorem kPutF_eq (F : Fr) (d : Option Tmp) (v : Value) : kPutF F d v = fput F d v := rfl
theorem kGuard_eq (g : Option (Tmp × Bool)) (look : Tmp → Value) : kGuard g look = guardedBy g look := by
  cases g with
  | none => rfl
  | some p =>
    obtain ⟨t, w⟩ := p
    show kBool (look t) w = _
    simp only [guardedBy]
    generalize look t = v
    cases v with
    | bool b => cases b <;> cases w <;> rfl
    | _ => rfl

theorem kOps_eq (call : FCallF) : ∀ l F H, kOps call l F H = fops call l F H := by
  intro l
  induction l with
  | nil => intro F H; rfl
  | cons o l ih =>
    intro F H
    show Bool.rec (motive := fun _ => Option (Fr × AH)) (kOps call l (kPutF F o.dst undef) H) (opP? (o.run call F.look H) (fun v H' => kOps call l (kPutF F o.dst v) H') none) (kGuard o.guard F.look) = _
    simp only [fops, kGuard_eq]
    cases guardedBy o.guard F.look with
    | false => exact ih _ _
    | true =>
      cases o.run call F.look H with
      | none => rfl
      | some p => obtain ⟨v, H'⟩ := p; exact ih _ _

def kReg (r : Option (Fr × AH)) : FRes := opP? r (fun F H => some (.normal, F, H)) none
def kSeq (k : Fr → AH → FRes) (r : FRes) : FRes :=
  opR? r (fun e F H => CExit.rec (motive := fun _ => FRes) (k F H) (fun id => some (.exit id, F, H)) (some (.ret, F, H)) (fun _ => none) e) none
def kCond (v : Value) (a b : FRes) : FRes := op? (vBool v) (fun c => Bool.rec (motive := fun _ => FRes) b a c) none
def kBlock (id : Nat) (r : FRes) : FRes :=
  opR? r (fun e F H => CExit.rec (motive := fun _ => FRes) (some (.normal, F, H)) (fun i => Bool.rec (motive := fun _ => FRes) (some (.exit i, F, H)) (some (.normal, F, H)) (Nat.beq i id)) (some (.ret, F, H)) (fun _ => none) e) none
def kRes (look : Tmp → Value) (H : AH) (rs : List CRes) : Option (List Value) :=
  List.rec (motive := fun _ => Option (List Value)) (some []) (fun r _ ih => op? (CRes.rec (motive := fun _ => Option Value) (fun t => some (look t)) (fun a => resultBy look H (.cell a)) (fun a n => resultBy look H (.cells a n)) r) (fun v => op? ih (fun vs => some (v :: vs)) none) none) rs
def kDone (rs : List CRes) (F : Fr) (H : AH) : Option (Value × AH) := op? (kRes F.look H rs) (fun vs => some (tupled vs, H)) none
def kFin (rs : List CRes) (r : FRes) : Option (Value × AH) :=
  opR? r (fun e F H => CExit.rec (motive := fun _ => Option (Value × AH)) (kDone rs F H) (fun _ => none) (kDone rs F H) (fun _ => none) e) none
def kFrame (l : List Value) : Nat → Fr → Fr := List.rec (motive := fun _ => Nat → Fr → Fr) (fun _ F => F) (fun v _ ih i F => ih (Nat.succ i) (F.set i (some v))) l

def kStep (rec : FExec) (call : FCallF) (code : FCode) (F : Fr) (H : AH) : FRes :=
  FCode.rec (motive := fun _ => FRes) (some (.normal, F, H)) (fun ops => kReg (kOps call ops F H)) (fun ops n pairs => kReg (fdraw call ops n pairs F H))
    (fun a b _ _ => kSeq (rec b) (rec a F H)) (fun c a b _ _ => kCond (fx c F.look) (rec a F H) (rec b F H)) (fun id body _ => kBlock id (rec body F H)) (fun body _ => kSeq (rec (.loop body)) (rec body F H))
    (fun id => some (.exit id, F, H)) (some (.ret, F, H)) none code
def kCall (E : FEnv) (rec : FExec) (g : FuncId) (args : List Value) (H : AH) : Option (Value × AH) :=
  op? (E.spec g) (fun s => s args H) (op? (E.code.get g) (fun fn => kFin fn.results (rec fn.body (kFrame args 0 .leaf) H)) none)

def kBoth (E : FEnv) (n : Nat) : FExec × FCallF :=
  Nat.rec (motive := fun _ => FExec × FCallF) (fun _ _ _ => none, fun _ _ _ => none) (fun _ ih => (kStep ih.1 ih.2, kCall E ih.1)) n

theorem kSeq_eq (k : Fr → AH → FRes) (r : FRes) : kSeq k r = fSeq k r := by
  cases r with
  | none => rfl
  | some p => obtain ⟨e, F, H⟩ := p; cases e <;> rfl
theorem kCond_eq (v : Value) (a b : FRes) : kCond v a b = fCond v a b := by
  cases v with
  | bool c => cases c <;> rfl
  | _ => rfl
theorem kBlock_eq (id : Nat) (r : FRes) : kBlock id r = fBlock id r := by
  cases r with
  | none => rfl
  | some p =>
    obtain ⟨e, F, H⟩ := p
    cases e with
    | exit i =>
      show Bool.rec (motive := fun _ => FRes) _ _ (Nat.beq i id) = cond (Nat.beq i id) _ _
      cases Nat.beq i id <;> rfl
    | _ => rfl
theorem kRes_eq (look : Tmp → Value) (H : AH) : ∀ rs, kRes look H rs = resultsBy look H rs := by
  intro rs
  induction rs with
  | nil => rfl
  | cons r l ih =>
    have h : CRes.rec (motive := fun _ => Option Value) (fun t => some (look t)) (fun a => resultBy look H (.cell a)) (fun a n => resultBy look H (.cells a n)) r = resultBy look H r := by cases r <;> rfl
    show op? (CRes.rec (motive := fun _ => Option Value) (fun t => some (look t)) (fun a => resultBy look H (.cell a)) (fun a n => resultBy look H (.cells a n)) r) (fun v => op? (kRes look H l) (fun vs => some (v :: vs)) none) none = _
    rw [h, ih]
    simp only [resultsBy]
    cases resultBy look H r with
    | none => rfl
    | some v => cases resultsBy look H l <;> rfl
theorem kFin_eq (rs : List CRes) (r : FRes) : kFin rs r = fFin rs r := by
  cases r with
  | none => rfl
  | some p =>
    obtain ⟨e, F, H⟩ := p
    have h : kDone rs F H = (match resultsBy F.look H rs with | some vs => some (tupled vs, H) | none => none) := by
      unfold kDone; rw [kRes_eq]
      cases resultsBy F.look H rs <;> rfl
    cases e with
    | exit i => rfl
    | panic v => rfl
    | normal => exact h
    | ret => exact h
theorem kFrame_eq : ∀ (l : List Value) (i : Nat) (F : Fr), kFrame l i F = frameOf l i F := by
  intro l
  induction l with
  | nil => intro i F; rfl
  | cons v l ih => intro i F; exact ih _ _

theorem kBoth_eq (E : FEnv) : ∀ n, kBoth E n = fboth E n := by
  intro n
  induction n with
  | zero => rfl
  | succ n ih =>
    show (kStep (kBoth E n).1 (kBoth E n).2, kCall E (kBoth E n).1) = (fstep (fboth E n).1 (fboth E n).2, fcall E (fboth E n).1)
    rw [ih]
    congr 1
    · funext code F H
      cases code with
      | region ops =>
        show kReg (kOps _ ops F H) = fReg (fops _ ops F H)
        rw [kOps_eq]
        cases fops (fboth E n).2 ops F H <;> rfl
      | draw ops k pairs =>
        show kReg (fdraw _ ops k pairs F H) = fReg (fdraw _ ops k pairs F H)
        cases fdraw (fboth E n).2 ops k pairs F H <;> rfl
      | seq a b => exact kSeq_eq _ _
      | cond c a b =>
        show kCond (fx c F.look) _ _ = fCond (evalBy F.look c) _ _
        rw [fx_eq]; exact kCond_eq _ _ _
      | block id b => exact kBlock_eq _ _
      | loop b => exact kSeq_eq _ _
      | _ => rfl
    · funext g args H
      show op? (E.spec g) _ _ = _
      unfold fcall
      cases E.spec g with
      | some s => rfl
      | none =>
        show op? (E.code.get g) _ _ = _
        cases E.code.get g with
        | none => rfl
        | some fn =>
          show kFin fn.results ((fboth E n).1 fn.body (kFrame args 0 .leaf) H) = fFin fn.results ((fboth E n).1 fn.body (frameOf args 0 .leaf) H)
          rw [kFin_eq, kFrame_eq]

end
end Go.Ads
