/-
  The executor's operations on single cells: arithmetic, comparisons, conversions; that the model does just this.
-/
import Derived.Test.YtkpdkfeklecehaaSxA
namespace Go.Proofs.Ytkpdkfeklecehaa.Sx
open Go.RowKit
set_option linter.unusedVariables false
set_option linter.unusedSimpArgs false

/-- The number of a cell that holds one. -/
def SC.num : SC → Option (IntKind × Int)
  | .int n => some (.i64, n)
  | .u8 b => some (.u8, b.toNat)
  | .u64 x => some (.u64, x.toNat)
  | .ik k n => some (k, n)
  | _ => none
theorem SC.num_R {ρ : Ren} {x : SC} {k : IntKind} {n : Int} {v : Value} (h : x.num = some (k, n)) (hx : x.R ρ v) : v = .int k n := by
  cases x <;> simp only [SC.num, reduceCtorEq, Option.some.injEq, Prod.mk.injEq] at h <;> obtain ⟨rfl, rfl⟩ := h <;> exact hx

/-- A number of a kind as a cell. -/
def ofNum (k : IntKind) (n : Int) : SC :=
  match k with
  | .i64 => .int n
  | k => .ik k n
theorem ofNum_R {ρ : Ren} (k : IntKind) (n : Int) : (ofNum k n).R ρ (.int k n) := by cases k <;> rfl

def bitsI (op : BinOp) (k : IntKind) (a b : Int) : Option Int :=
  match op with
  | .and => some (k.wrap (BitVec.ofInt k.bits a &&& BitVec.ofInt k.bits b).toNat)
  | .or => some (k.wrap (BitVec.ofInt k.bits a ||| BitVec.ofInt k.bits b).toNat)
  | .xor => some (k.wrap (BitVec.ofInt k.bits a ^^^ BitVec.ofInt k.bits b).toNat)
  | .andNot => some (k.wrap (BitVec.ofInt k.bits a &&& ~~~BitVec.ofInt k.bits b).toNat)
  | _ => none

/-- An operation on two numbers of one kind: what must hold; the cell. -/
def numBin (op : BinOp) (k : IntKind) (a b : Int) : Option (Bool × SC) :=
  match op with
  | .add => some (true, ofNum k (k.wrap (a + b)))
  | .sub => some (true, ofNum k (k.wrap (a - b)))
  | .mul => some (true, ofNum k (k.wrap (a * b)))
  | .quo => some (b != 0, ofNum k (k.wrap (a.tdiv b)))
  | .rem => some (b != 0, ofNum k (a.tmod b))
  | .eql => some (true, .bool (a == b))
  | .neq => some (true, .bool (a != b))
  | .lss => some (true, .bool (decide (a < b)))
  | .leq => some (true, .bool (decide (a ≤ b)))
  | .gtr => some (true, .bool (decide (a > b)))
  | .geq => some (true, .bool (decide (a ≥ b)))
  | op => (bitsI op k a b).map fun n => (true, ofNum k n)

theorem numBin_run {ρ : Ren} {P : Program} (w : World) {op : BinOp} {k : IntKind} {a b : Int} {r : SC} (hs : op ≠ .shl) (hs' : op ≠ .shr) (t : TypeId)
    (h : numBin op k a b = some (true, r)) : ∃ v, (binOp op t (.int k a) (.int k b)).run P w = .ok v w ∧ r.R ρ v := by
  cases op <;> simp only [numBin, bitsI, Option.some.injEq, Prod.mk.injEq, Option.map_some, true_and, Option.map_none, reduceCtorEq, ne_eq, not_true_eq_false] at h hs hs'
  case quo => obtain ⟨h0, rfl⟩ := h; have h0' : b ≠ 0 := by simpa using h0
              exact ⟨_, by simp only [binOp, ne_eq, not_true_eq_false, if_false, Op.intDiv, h0']; rfl, ofNum_R _ _⟩
  case rem => obtain ⟨h0, rfl⟩ := h; have h0' : b ≠ 0 := by simpa using h0
              exact ⟨_, by simp only [binOp, ne_eq, not_true_eq_false, if_false, Op.intDiv, h0']; rfl, ofNum_R _ _⟩
  all_goals subst h; exact ⟨_, by simp only [binOp, ne_eq, not_true_eq_false, if_false, Op.intArith, Op.intBits, Op.intCmp]; rfl, by first | exact ofNum_R _ _ | rfl⟩

/-- Shifts. -/
def numShift (op : BinOp) (k : IntKind) (a b : Int) : Option (Bool × SC) :=
  match op with
  | .shl => some (decide (0 ≤ b), ofNum k (k.wrap (a * 2 ^ (min b.toNat k.bits))))
  | .shr => some (decide (0 ≤ b), ofNum k (a.fdiv (2 ^ (min b.toNat k.bits))))
  | _ => none
theorem numShift_run {ρ : Ren} {P : Program} (w : World) {op : BinOp} {k k' : IntKind} {a b : Int} {r : SC} (t : TypeId)
    (h : numShift op k a b = some (true, r)) : ∃ v, (binOp op t (.int k a) (.int k' b)).run P w = .ok v w ∧ r.R ρ v := by
  cases op <;> simp only [numShift, Option.some.injEq, Prod.mk.injEq, reduceCtorEq, decide_eq_true_eq] at h
  all_goals
    obtain ⟨h0, rfl⟩ := h
    have h0' : ¬ b < 0 := by omega
    exact ⟨_, by simp only [binOp, Op.shift, h0', if_false]; rfl, ofNum_R _ _⟩

theorem wrap_u64_nat (n : Nat) : IntKind.u64.wrap (n : Int) = ((n % 2 ^ 64 : Nat) : Int) := by
  simp [IntKind.wrap, IntKind.bits, IntKind.signed]
theorem wrap_u8_nat (n : Nat) : IntKind.u8.wrap (n : Int) = ((n % 2 ^ 8 : Nat) : Int) := by
  simp [IntKind.wrap, IntKind.bits, IntKind.signed]
theorem wrap_u64_eq (n : Int) : IntKind.u64.wrap n = n % 2 ^ 64 := by
  simp [IntKind.wrap, IntKind.bits, IntKind.signed]
theorem wrap_u8_eq (n : Int) : IntKind.u8.wrap n = n % 2 ^ 8 := by
  simp [IntKind.wrap, IntKind.bits, IntKind.signed]

/-- Operations on words. -/
def wordBin (op : BinOp) (x y : UInt64) : Option (Bool × SC) :=
  match op with
  | .add => some (true, .u64 (x + y))
  | .sub => some (true, .u64 (x - y))
  | .mul => some (true, .u64 (x * y))
  | .rem => some (y != 0, .u64 (x % y))
  | .quo => some (y != 0, .u64 (x / y))
  | .and => some (true, .u64 (x &&& y))
  | .or => some (true, .u64 (x ||| y))
  | .xor => some (true, .u64 (x ^^^ y))
  | .eql => some (true, .bool (x == y))
  | .neq => some (true, .bool (x != y))
  | _ => none
def byteBin (op : BinOp) (x y : UInt8) : Option (Bool × SC) :=
  match op with
  | .add => some (true, .u8 (x + y))
  | .sub => some (true, .u8 (x - y))
  | .and => some (true, .u8 (x &&& y))
  | .or => some (true, .u8 (x ||| y))
  | .xor => some (true, .u8 (x ^^^ y))
  | .eql => some (true, .bool (x == y))
  | .neq => some (true, .bool (x != y))
  | .lss => some (true, .bool (decide (x < y)))
  | .geq => some (true, .bool (decide (x ≥ y)))
  | _ => none

theorem u64_toNat_ne (y : UInt64) (h : (y != 0) = true) : ¬ ((y.toNat : Int) = 0) := by
  have : y ≠ 0 := by simpa using h
  have : y.toNat ≠ 0 := fun e => this (UInt64.toNat_inj.1 (by simpa using e))
  omega
theorem div_run {P : Program} {w : World} {op : BinOp} {k : IntKind} {a b : Int} {t : TypeId} (hb : ¬ b = 0) (hop : op = .quo ∨ op = .rem) :
    (binOp op t (.int k a) (.int k b)).run P w = .ok (.int k (match op with | .quo => k.wrap (a.tdiv b) | _ => a.tmod b)) w := by
  rcases hop with rfl | rfl <;> simp only [binOp, ne_eq, not_true_eq_false, if_false, Op.intDiv, hb] <;> rfl

theorem wordBin_run {ρ : Ren} {P : Program} (w : World) {op : BinOp} {x y : UInt64} {r : SC} (t : TypeId)
    (h : wordBin op x y = some (true, r)) : ∃ v, (binOp op t (.int .u64 x.toNat) (.int .u64 y.toNat)).run P w = .ok v w ∧ r.R ρ v := by
  have hx := x.toNat_lt
  have hy := y.toNat_lt
  have bx : BitVec.ofInt 64 (x.toNat : Int) = x.toBitVec := by
    rw [BitVec.ofInt_natCast]; apply BitVec.eq_of_toNat_eq; simp
  have by' : BitVec.ofInt 64 (y.toNat : Int) = y.toBitVec := by
    rw [BitVec.ofInt_natCast]; apply BitVec.eq_of_toNat_eq; simp
  cases op <;> simp only [wordBin, Option.some.injEq, Prod.mk.injEq, true_and, reduceCtorEq] at h
  case add => subst h; exact ⟨_, rfl, by rw [wrap_u64_eq]; simp only [SC.R, UInt64.toNat_add, Value.int.injEq, true_and]; omega⟩
  case sub => subst h; exact ⟨_, rfl, by rw [wrap_u64_eq]; simp only [SC.R, UInt64.toNat_sub, Value.int.injEq, true_and]; omega⟩
  case mul => subst h; exact ⟨_, rfl, by rw [wrap_u64_eq]; simp only [SC.R, UInt64.toNat_mul, Value.int.injEq, true_and]; norm_cast⟩
  case rem => obtain ⟨h0, rfl⟩ := h; exact ⟨_, div_run (u64_toNat_ne y h0) (.inr rfl), by simp only [SC.R, UInt64.toNat_mod, Value.int.injEq, true_and]; rw [Int.tmod_eq_emod_of_nonneg (by omega)]; norm_cast⟩
  case quo =>
    obtain ⟨h0, rfl⟩ := h
    refine ⟨_, div_run (u64_toNat_ne y h0) (.inl rfl), ?_⟩
    have : ((x.toNat : Int).tdiv y.toNat) = ((x.toNat / y.toNat : Nat) : Int) := by simp
    have hd := Nat.div_le_self x.toNat y.toNat
    simp only [SC.R, UInt64.toNat_div, Value.int.injEq, true_and]
    rw [this, wrap_u64_nat, Nat.mod_eq_of_lt (by omega)]
  case eql => subst h; exact ⟨_, rfl, by simp only [SC.R, Value.bool.injEq]; rw [Bool.eq_iff_iff, beq_iff_eq, beq_iff_eq, Int.ofNat_inj, UInt64.toNat_inj]⟩
  case neq => subst h; exact ⟨_, rfl, by simp only [SC.R, Value.bool.injEq]; rw [Bool.eq_iff_iff, bne_iff_ne, bne_iff_ne, ne_eq, ne_eq, Int.ofNat_inj, UInt64.toNat_inj]⟩
  case and =>
    subst h
    refine ⟨.int .u64 (IntKind.u64.wrap ((BitVec.ofInt 64 (x.toNat : Int) &&& BitVec.ofInt 64 (y.toNat : Int)).toNat : Nat)), rfl, ?_⟩
    rw [bx, by', wrap_u64_nat]
    simp only [SC.R, UInt64.toNat_and, BitVec.toNat_and, UInt64.toNat_toBitVec]
    rw [Nat.mod_eq_of_lt (Nat.and_lt_two_pow _ hy)]
  case or =>
    subst h
    refine ⟨.int .u64 (IntKind.u64.wrap ((BitVec.ofInt 64 (x.toNat : Int) ||| BitVec.ofInt 64 (y.toNat : Int)).toNat : Nat)), rfl, ?_⟩
    rw [bx, by', wrap_u64_nat]
    simp only [SC.R, UInt64.toNat_or, BitVec.toNat_or, UInt64.toNat_toBitVec]
    rw [Nat.mod_eq_of_lt (Nat.or_lt_two_pow hx hy)]
  case xor =>
    subst h
    refine ⟨.int .u64 (IntKind.u64.wrap ((BitVec.ofInt 64 (x.toNat : Int) ^^^ BitVec.ofInt 64 (y.toNat : Int)).toNat : Nat)), rfl, ?_⟩
    rw [bx, by', wrap_u64_nat]
    simp only [SC.R, UInt64.toNat_xor, BitVec.toNat_xor, UInt64.toNat_toBitVec]
    rw [Nat.mod_eq_of_lt (Nat.xor_lt_two_pow hx hy)]

theorem byteBin_run {ρ : Ren} {P : Program} (w : World) {op : BinOp} {x y : UInt8} {r : SC} (t : TypeId)
    (h : byteBin op x y = some (true, r)) : ∃ v, (binOp op t (.int .u8 x.toNat) (.int .u8 y.toNat)).run P w = .ok v w ∧ r.R ρ v := by
  have hx := x.toNat_lt
  have hy := y.toNat_lt
  have bx : BitVec.ofInt 8 (x.toNat : Int) = x.toBitVec := by
    rw [BitVec.ofInt_natCast]; apply BitVec.eq_of_toNat_eq; simp
  have by' : BitVec.ofInt 8 (y.toNat : Int) = y.toBitVec := by
    rw [BitVec.ofInt_natCast]; apply BitVec.eq_of_toNat_eq; simp
  cases op <;> simp only [byteBin, Option.some.injEq, Prod.mk.injEq, true_and, reduceCtorEq] at h
  case add => subst h; exact ⟨_, rfl, by rw [wrap_u8_eq]; simp only [SC.R, UInt8.toNat_add, Value.int.injEq, true_and]; omega⟩
  case sub => subst h; exact ⟨_, rfl, by rw [wrap_u8_eq]; simp only [SC.R, UInt8.toNat_sub, Value.int.injEq, true_and]; omega⟩
  case eql => subst h; exact ⟨_, rfl, by simp only [SC.R, Value.bool.injEq]; rw [Bool.eq_iff_iff, beq_iff_eq, beq_iff_eq, Int.ofNat_inj, UInt8.toNat_inj]⟩
  case neq => subst h; exact ⟨_, rfl, by simp only [SC.R, Value.bool.injEq]; rw [Bool.eq_iff_iff, bne_iff_ne, bne_iff_ne, ne_eq, ne_eq, Int.ofNat_inj, UInt8.toNat_inj]⟩
  case lss => subst h; exact ⟨_, rfl, by simp only [SC.R, Value.bool.injEq, decide_eq_decide, UInt8.lt_iff_toNat_lt]; try omega⟩
  case geq => subst h; exact ⟨_, rfl, by simp only [SC.R, Value.bool.injEq, decide_eq_decide, ge_iff_le, UInt8.le_iff_toNat_le]; try omega⟩
  case and =>
    subst h
    refine ⟨.int .u8 (IntKind.u8.wrap ((BitVec.ofInt 8 (x.toNat : Int) &&& BitVec.ofInt 8 (y.toNat : Int)).toNat : Nat)), rfl, ?_⟩
    rw [bx, by', wrap_u8_nat]
    simp only [SC.R, UInt8.toNat_and, BitVec.toNat_and, UInt8.toNat_toBitVec]
    rw [Nat.mod_eq_of_lt (Nat.and_lt_two_pow _ hy)]
  case or =>
    subst h
    refine ⟨.int .u8 (IntKind.u8.wrap ((BitVec.ofInt 8 (x.toNat : Int) ||| BitVec.ofInt 8 (y.toNat : Int)).toNat : Nat)), rfl, ?_⟩
    rw [bx, by', wrap_u8_nat]
    simp only [SC.R, UInt8.toNat_or, BitVec.toNat_or, UInt8.toNat_toBitVec]
    rw [Nat.mod_eq_of_lt (Nat.or_lt_two_pow hx hy)]
  case xor =>
    subst h
    refine ⟨.int .u8 (IntKind.u8.wrap ((BitVec.ofInt 8 (x.toNat : Int) ^^^ BitVec.ofInt 8 (y.toNat : Int)).toNat : Nat)), rfl, ?_⟩
    rw [bx, by', wrap_u8_nat]
    simp only [SC.R, UInt8.toNat_xor, BitVec.toNat_xor, UInt8.toNat_toBitVec]
    rw [Nat.mod_eq_of_lt (Nat.xor_lt_two_pow hx hy)]

/-- A word turned left or right by so many places. -/
def shlW (x : UInt64) (n : Nat) : UInt64 := bif Nat.ble 64 n then 0 else x <<< (UInt64.ofNat n)
def shrW (x : UInt64) (n : Nat) : UInt64 := bif Nat.ble 64 n then 0 else x >>> (UInt64.ofNat n)
def wordShift (op : BinOp) (x : UInt64) (b : Int) : Option (Bool × SC) :=
  match op with
  | .shl => some (decide (0 ≤ b), .u64 (shlW x b.toNat))
  | .shr => some (decide (0 ≤ b), .u64 (shrW x b.toNat))
  | _ => none
theorem shlW_toNat (x : UInt64) (n : Nat) : (shlW x n).toNat = x.toNat * 2 ^ (min n 64) % 2 ^ 64 := by
  unfold shlW
  cases h : Nat.ble 64 n with
  | true =>
    have : 64 ≤ n := Nat.le_of_ble_eq_true h
    rw [Nat.min_eq_right this]; simp
  | false =>
    have : n < 64 := Nat.lt_of_not_le fun hh => by rw [Nat.ble_eq_true_of_le hh] at h; cases h
    have hn : (UInt64.ofNat n).toNat = n := by
      rw [UInt64.toNat_ofNat']; omega
    rw [Nat.min_eq_left (by omega)]
    simp only [cond_false, UInt64.toNat_shiftLeft, hn, Nat.shiftLeft_eq]
    rw [Nat.mod_eq_of_lt this]
theorem shrW_toNat (x : UInt64) (n : Nat) : (shrW x n).toNat = x.toNat / 2 ^ (min n 64) := by
  have hx := x.toNat_lt
  unfold shrW
  cases h : Nat.ble 64 n with
  | true =>
    have : 64 ≤ n := Nat.le_of_ble_eq_true h
    rw [Nat.min_eq_right this]; simp; omega
  | false =>
    have : n < 64 := Nat.lt_of_not_le fun hh => by rw [Nat.ble_eq_true_of_le hh] at h; cases h
    have hn : (UInt64.ofNat n).toNat = n := by
      rw [UInt64.toNat_ofNat']; omega
    rw [Nat.min_eq_left (by omega)]
    simp only [cond_false, UInt64.toNat_shiftRight, hn, Nat.shiftRight_eq_div_pow]
    rw [Nat.mod_eq_of_lt this]
theorem wordShift_run {ρ : Ren} {P : Program} (w : World) {op : BinOp} {k' : IntKind} {x : UInt64} {b : Int} {r : SC} (t : TypeId)
    (h : wordShift op x b = some (true, r)) : ∃ v, (binOp op t (.int .u64 x.toNat) (.int k' b)).run P w = .ok v w ∧ r.R ρ v := by
  cases op <;> simp only [wordShift, Option.some.injEq, Prod.mk.injEq, reduceCtorEq, decide_eq_true_eq] at h
  all_goals
    obtain ⟨h0, rfl⟩ := h
    have h0' : ¬ b < 0 := by omega
    refine ⟨_, by simp [binOp, Op.shift, h0']; rfl, ?_⟩
    simp only [SC.R, Value.int.injEq, true_and, shlW_toNat, shrW_toNat, IntKind.bits]
  · rw [wrap_u64_eq]; norm_cast
  · rw [Int.fdiv_eq_ediv_of_nonneg _ (Int.le_of_lt (Int.pow_pos (by decide)))]; norm_cast

def isBool (P : Program) (t : TypeId) : Bool := match P.underlying t with | some .bool => true | _ => false
def isPtr (P : Program) (t : TypeId) : Bool := match P.underlying t with | some (.pointer _) => true | _ => false
theorem isBool_spec {P : Program} {t : TypeId} (h : isBool P t = true) : P.underlying t = some .bool := by
  unfold isBool at h; split at h <;> simp_all
theorem isPtr_spec {P : Program} {t : TypeId} (h : isPtr P t = true) : ∃ e, P.underlying t = some (.pointer e) := by
  unfold isPtr at h; split at h <;> simp_all

theorem equalIn_bool {P : Program} {t : TypeId} (h : isBool P t = true) (a b : Bool) (w : World) (d : Nat) : (Op.equalIn (d + 1) t (.bool a) (.bool b)).run P w = .ok (a == b) w := by
  simp [Op.equalIn, run_underlying (isBool_spec h)]
theorem equalIn_nil_nil {P : Program} {t : TypeId} (h : isPtr P t = true) (w : World) (d : Nat) : (Op.equalIn (d + 1) t (.pointer none) (.pointer none)).run P w = .ok true w := by
  obtain ⟨e, he⟩ := isPtr_spec h
  simp [Op.equalIn, run_underlying he]
theorem equalIn_ptr_nil {P : Program} {t : TypeId} (h : isPtr P t = true) (a : Addr) (w : World) (d : Nat) : (Op.equalIn (d + 1) t (.pointer (some a)) (.pointer none)).run P w = .ok false w := by
  obtain ⟨e, he⟩ := isPtr_spec h
  simp [Op.equalIn, run_underlying he]
theorem equalIn_nil_ptr {P : Program} {t : TypeId} (h : isPtr P t = true) (a : Addr) (w : World) (d : Nat) : (Op.equalIn (d + 1) t (.pointer none) (.pointer (some a))).run P w = .ok false w := by
  obtain ⟨e, he⟩ := isPtr_spec h
  simp [Op.equalIn, run_underlying he]
theorem eq_bool {P : Program} {t : TypeId} (h : isBool P t = true) (a b : Bool) (w : World) : (Op.equal t (.bool a) (.bool b)).run P w = .ok (a == b) w := equalIn_bool h a b w 9999
theorem eq_nil_nil {P : Program} {t : TypeId} (h : isPtr P t = true) (w : World) : (Op.equal t (.pointer none) (.pointer none)).run P w = .ok true w := equalIn_nil_nil h w 9999
theorem eq_ptr_nil {P : Program} {t : TypeId} (h : isPtr P t = true) (a : Addr) (w : World) : (Op.equal t (.pointer (some a)) (.pointer none)).run P w = .ok false w := equalIn_ptr_nil h a w 9999
theorem eq_nil_ptr {P : Program} {t : TypeId} (h : isPtr P t = true) (a : Addr) (w : World) : (Op.equal t (.pointer none) (.pointer (some a))).run P w = .ok false w := equalIn_nil_ptr h a w 9999

def isSliceT (P : Program) (t : TypeId) : Bool := match P.underlying t with | some (.slice _) => true | _ => false
theorem isSliceT_spec {P : Program} {t : TypeId} (h : isSliceT P t = true) : ∃ e, P.underlying t = some (.slice e) := by
  unfold isSliceT at h; split at h <;> simp_all
/-- Whether a slice is nil. -/
def nilOf : Value → Option Bool
  | .slice none _ _ => some true
  | .slice (some _) _ _ => some false
  | _ => none
theorem equalIn_slice {P : Program} {t : TypeId} (h : isSliceT P t = true) {v : Value} {b : Bool} (hv : nilOf v = some b) (w : World) (d : Nat) : (Op.equalIn (d + 1) t v (.slice none 0 0)).run P w = .ok b w ∧ ∀ (op : BinOp), (binOp .eql t v (.slice none 0 0)) = (do pure (.bool (← Op.equal t v (.slice none 0 0)))) ∧ (binOp .neq t v (.slice none 0 0)) = (do pure (.bool (!(← Op.equal t v (.slice none 0 0))))) := by
  obtain ⟨e, he⟩ := isSliceT_spec h
  unfold nilOf at hv
  split at hv <;> try (cases hv; done)
  · simp only [Option.some.injEq] at hv; subst hv
    exact ⟨by simp [Op.equalIn, run_underlying he], fun _ => ⟨rfl, rfl⟩⟩
  · simp only [Option.some.injEq] at hv; subst hv
    exact ⟨by simp [Op.equalIn, run_underlying he], fun _ => ⟨rfl, rfl⟩⟩

/-- Two nil pointers, a nil one and another, two bools, a row and nil: are they one? -/
def cellEq (P : Program) (t : TypeId) (x y : SC) : Option Bool :=
  match x, y with
  | .bool a, .bool b => if isBool P t then some (a == b) else none
  | .nilp, .nilp => if isPtr P t then some true else none
  | .ptr _ _, .nilp => if isPtr P t then some false else none
  | .nilp, .ptr _ _ => if isPtr P t then some false else none
  | .row _ v, .nils => if isSliceT P t then nilOf v else none
  | _, _ => none
theorem cellEq_run {ρ : Ren} {P : Program} {t : TypeId} {x y : SC} {b : Bool} {u v : Value} (h : cellEq P t x y = some b) (hx : x.R ρ u) (hy : y.R ρ v) (w : World) :
    (Op.equal t u v).run P w = .ok b w ∧ ∀ (op : BinOp), (binOp .eql t u v) = (do pure (.bool (← Op.equal t u v))) ∧ (binOp .neq t u v) = (do pure (.bool (!(← Op.equal t u v)))) := by
  unfold cellEq at h
  split at h
  case h_5 =>
    simp only [Option.ite_none_right_eq_some] at h
    obtain ⟨ht, h⟩ := h
    obtain ⟨rfl, _⟩ := hx
    obtain rfl : v = .slice none 0 0 := hy
    obtain ⟨g1, g2⟩ := equalIn_slice ht h w 9999
    exact ⟨g1, g2⟩
  all_goals simp only [Option.ite_none_right_eq_some, Option.some.injEq, reduceCtorEq] at h
  all_goals obtain ⟨ht, rfl⟩ := h
  all_goals simp only [SC.R] at hx hy
  · subst hx; subst hy; exact ⟨eq_bool ht _ _ _, fun _ => ⟨rfl, rfl⟩⟩
  · subst hx; subst hy; exact ⟨eq_nil_nil ht _, fun _ => ⟨rfl, rfl⟩⟩
  · obtain ⟨l, _, rfl⟩ := hx; subst hy; exact ⟨eq_ptr_nil ht _ _, fun _ => ⟨rfl, rfl⟩⟩
  · obtain ⟨l, _, rfl⟩ := hy; subst hx; exact ⟨eq_nil_ptr ht _ _, fun _ => ⟨rfl, rfl⟩⟩

def shiftCell (op : BinOp) (x : SC) (b : Int) : Option (Bool × SC) :=
  match x with
  | .u64 x => wordShift op x b
  | x => match x.num with | some (k, a) => numShift op k a b | none => none
theorem shiftCell_run {ρ : Ren} {P : Program} (w : World) {op : BinOp} {t : TypeId} {x r : SC} {u : Value} {k' : IntKind} {b : Int}
    (h : shiftCell op x b = some (true, r)) (hx : x.R ρ u) : ∃ z, (binOp op t u (.int k' b)).run P w = .ok z w ∧ r.R ρ z := by
  unfold shiftCell at h
  split at h
  · obtain rfl : u = _ := hx; exact wordShift_run w t h
  · split at h
    · rename_i k a hxn; obtain rfl := SC.num_R hxn hx; exact numShift_run w t h
    · cases h

def strBin (op : BinOp) (a b : List UInt8) : Option (Bool × SC) :=
  match op with
  | .eql => some (true, .bool (a == b))
  | .neq => some (true, .bool (!(a == b)))
  | .add => some (decide (a.length + b.length ≤ 9223372036854775807), .str (a ++ b))
  | _ => none
def eqBin (P : Program) (op : BinOp) (t : TypeId) (x y : SC) : Option (Bool × SC) :=
  match op with
  | .eql => (cellEq P t x y).map fun b => (true, .bool b)
  | .neq => (cellEq P t x y).map fun b => (true, .bool (!b))
  | _ => none
def plainBin (P : Program) (op : BinOp) (t : TypeId) (x y : SC) : Option (Bool × SC) :=
  match x, y with
  | .u64 x, .u64 y => wordBin op x y
  | .u8 x, .u8 y => byteBin op x y
  | .int a, .int b => numBin op .i64 a b
  | .ik k a, .ik k' b => if k = k' then numBin op k a b else none
  | .str a, .str b => strBin op a b
  | x, y => eqBin P op t x y
/-- An operation on two cells. -/
def cellBin (P : Program) (op : BinOp) (t : TypeId) (x y : SC) : Option (Bool × SC) :=
  match op with
  | .shl => match y.num with | none => none | some (_, b) => shiftCell .shl x b
  | .shr => match y.num with | none => none | some (_, b) => shiftCell .shr x b
  | op => plainBin P op t x y

theorem str_toList (s : List UInt8) : (⟨s.toArray⟩ : ByteArray).toList = s := by
  rw [ByteArray.toList_eq]

theorem strBin_run {ρ : Ren} {P : Program} (w : World) {op : BinOp} {t : TypeId} {a b : List UInt8} {r : SC}
    (h : strBin op a b = some (true, r)) : ∃ z, (binOp op t (.string ⟨a.toArray⟩) (.string ⟨b.toArray⟩)).run P w = .ok z w ∧ r.R ρ z := by
  cases op <;> simp only [strBin, Option.some.injEq, Prod.mk.injEq, true_and, reduceCtorEq, decide_eq_true_eq] at h
  case eql => subst h; exact ⟨_, rfl, by simp [SC.R, str_toList]⟩
  case neq => subst h; exact ⟨_, rfl, by simp [SC.R, str_toList]⟩
  case add =>
    obtain ⟨h0, rfl⟩ := h
    have : ¬ (((a.length + b.length : Nat) : Int) > IntKind.i64.max) := by
      simp [IntKind.max, IntKind.signed, IntKind.bits]; omega
    refine ⟨.string (⟨a.toArray⟩ ++ ⟨b.toArray⟩), ?_, ?_⟩
    · simp only [binOp, Op.stringOp, ByteArray.size, List.size_toArray, this, if_false]; rfl
    · simp only [SC.R, Value.string.injEq]
      apply ByteArray.ext
      simp

theorem cellBin_run {ρ : Ren} {P : Program} (w : World) {op : BinOp} {t : TypeId} {x y r : SC} {u v : Value}
    (h : cellBin P op t x y = some (true, r)) (hx : x.R ρ u) (hy : y.R ρ v) : ∃ z, (binOp op t u v).run P w = .ok z w ∧ r.R ρ z := by
  by_cases hs : op = .shl ∨ op = .shr
  · cases hyn : y.num with
    | none => rcases hs with rfl | rfl <;> simp only [cellBin, hyn, reduceCtorEq] at h
    | some kb =>
      obtain ⟨k', b⟩ := kb
      obtain rfl := SC.num_R hyn hy
      rcases hs with rfl | rfl <;> simp only [cellBin, hyn] at h <;> exact shiftCell_run w h hx
  · have hs1 : op ≠ .shl := fun e => hs (.inl e)
    have hs2 : op ≠ .shr := fun e => hs (.inr e)
    have gen : ∀ {x y : SC}, x.R ρ u → y.R ρ v → eqBin P op t x y = some (true, r) → ∃ z, (binOp op t u v).run P w = .ok z w ∧ r.R ρ z := fun {x y} hx hy h => by
      cases hc : cellEq P t x y with
      | none => cases op <;> simp [eqBin, hc] at h
      | some b =>
        obtain ⟨h1, h2⟩ := cellEq_run hc hx hy w
        cases op <;> simp only [eqBin, hc, Option.map_some, Option.some.injEq, Prod.mk.injEq, true_and, reduceCtorEq] at h
        case eql => subst h; exact ⟨.bool b, by rw [(h2 .eql).1]; simp [h1], rfl⟩
        case neq => subst h; exact ⟨.bool !b, by rw [(h2 .eql).2]; simp [h1], rfl⟩
    have h' : plainBin P op t x y = some (true, r) := by
      cases op <;> first | exact absurd rfl hs1 | exact absurd rfl hs2 | exact h
    clear h
    unfold plainBin at h'
    split at h'
    · obtain rfl : u = _ := hx; obtain rfl : v = _ := hy; exact wordBin_run w t h'
    · obtain rfl : u = _ := hx; obtain rfl : v = _ := hy; exact byteBin_run w t h'
    · obtain rfl : u = _ := hx; obtain rfl : v = _ := hy; exact numBin_run w hs1 hs2 t h'
    · simp only [Option.ite_none_right_eq_some] at h'
      obtain ⟨rfl, h'⟩ := h'
      obtain rfl : u = _ := hx; obtain rfl : v = _ := hy; exact numBin_run w hs1 hs2 t h'
    · obtain rfl : u = _ := hx; obtain rfl : v = _ := hy; exact strBin_run w h'
    · exact gen hx hy h'

/-- An operation on one cell. -/
def cellUn (op : UnOp) (x : SC) : Option SC :=
  match op, x with
  | .not, .bool b => some (.bool !b)
  | .neg, .int n => some (.int (IntKind.i64.wrap (0 - n)))
  | .xor, .u64 x => some (.u64 (~~~x))
  | .xor, .int n => some (.int (IntKind.i64.wrap (BitVec.ofInt 64 (-1) ^^^ BitVec.ofInt 64 n).toNat))
  | _, _ => none
theorem cellUn_run {ρ : Ren} {P : Program} (w : World) {op : UnOp} {x r : SC} {u : Value} (h : cellUn op x = some r) (hx : x.R ρ u) :
    ∃ z, (Op.unary op u).run P w = .ok z w ∧ r.R ρ z := by
  unfold cellUn at h
  split at h <;> simp only [Option.some.injEq, reduceCtorEq] at h <;> subst h <;> obtain rfl : u = _ := hx
  · exact ⟨_, rfl, rfl⟩
  · exact ⟨_, rfl, rfl⟩
  · rename_i x
    refine ⟨.int .u64 (IntKind.u64.wrap ((BitVec.ofInt 64 18446744073709551615 ^^^ BitVec.ofInt 64 (x.toNat : Int)).toNat : Nat)), rfl, ?_⟩
    have bx : BitVec.ofInt 64 (x.toNat : Int) = x.toBitVec := by
      rw [BitVec.ofInt_natCast]; apply BitVec.eq_of_toNat_eq; simp
    have b1 : BitVec.ofInt 64 18446744073709551615 = BitVec.allOnes 64 := by decide
    rw [bx, b1, wrap_u64_nat, BitVec.allOnes_xor]
    simp only [SC.R, Value.int.injEq, true_and, Int.ofNat_inj]
    have : (~~~x.toBitVec).toNat < 2 ^ 64 := BitVec.isLt _
    rw [Nat.mod_eq_of_lt this]
    rfl
  · exact ⟨_, rfl, rfl⟩

/-- A conversion between kinds of numbers. -/
def cellConv (k : IntKind) (x : SC) : Option SC :=
  match k, x with
  | .u64, .u64 x => some (.u64 x)
  | .u64, .u8 b => some (.u64 b.toUInt64)
  | .u8, .u8 b => some (.u8 b)
  | .u8, .u64 x => some (.u8 x.toUInt8)
  | .i64, .u8 b => some (.int b.toNat)
  | k, x => match x.num with
    | none => none
    | some (_, n) => match k with
      | .u64 => some (.u64 (UInt64.ofInt n))
      | .u8 => some (.u8 (UInt8.ofInt n))
      | k => some (ofNum k (k.wrap n))
theorem cellConv_run {ρ : Ren} {P : Program} (w : World) {k : IntKind} {x r : SC} {u : Value} {src dst : TypeId} {d : TypeDesc} (hs : P.underlying src = some d) (hd : P.underlying dst = some (.int k))
    (h : cellConv k x = some r) (hx : x.R ρ u) : ∃ z, (convert src dst u).run P w = .ok z w ∧ r.R ρ z := by
  have key : ∀ {k' : IntKind} {n : Int}, u = .int k' n → (convert src dst u).run P w = .ok (.int k (k.wrap n)) w := fun {k' n} hu => by
    subst hu; simp [convert, run_underlying hs, run_underlying hd, Conv.intToInt]
  unfold cellConv at h
  split at h
  · simp only [Option.some.injEq] at h; subst h
    rename_i x; have := x.toNat_lt
    exact ⟨_, key hx, by simp only [SC.R]; rw [wrap_u64_nat, Nat.mod_eq_of_lt (by omega)]⟩
  · simp only [Option.some.injEq] at h; subst h
    rename_i x; have := x.toNat_lt
    exact ⟨_, key hx, by simp only [SC.R]; rw [wrap_u64_nat, Nat.mod_eq_of_lt (by omega)]; simp⟩
  · simp only [Option.some.injEq] at h; subst h
    rename_i x; have := x.toNat_lt
    exact ⟨_, key hx, by simp only [SC.R]; rw [wrap_u8_nat, Nat.mod_eq_of_lt (by omega)]⟩
  · simp only [Option.some.injEq] at h; subst h
    exact ⟨_, key hx, by simp only [SC.R]; rw [wrap_u8_nat]; simp⟩
  · simp only [Option.some.injEq] at h; subst h
    rename_i x; have := x.toNat_lt
    refine ⟨_, key hx, ?_⟩
    simp only [SC.R, IntKind.wrap, IntKind.bits, IntKind.signed]
    simp; omega
  · cases hn : x.num with
    | none => simp [hn] at h
    | some kn =>
      obtain ⟨k', n⟩ := kn
      have hu := SC.num_R hn hx
      simp only [hn] at h
      split at h <;> simp only [Option.some.injEq] at h <;> subst h
      · refine ⟨_, key hu, ?_⟩
        simp only [SC.R, Value.int.injEq, true_and]
        rw [wrap_u64_eq, UInt64.ofInt, UInt64.toNat_ofNat']; omega
      · refine ⟨_, key hu, ?_⟩
        simp only [SC.R, Value.int.injEq, true_and]
        rw [wrap_u8_eq, UInt8.ofInt, UInt8.toNat_ofNat']; omega
      · exact ⟨_, key hu, ofNum_R _ _⟩

end Go.Proofs.Ytkpdkfeklecehaa.Sx
