/-
  The law of short rows: the words that are taken in.
-/
import Derived.Test.YtkiamgiobmgmmaaSpF
namespace Go.Proofs.Ytkiamgiobmgmmaa.Sp
open Go.RowKit Go.Proofs.Ytkiamgiobmgmmaa.Sx
set_option linter.unusedVariables false

abbrev fShort : Nat := 6
def b0 (off : Nat) (b : Blk) (i : Nat) : UInt64 := ((b.cells.getD (off + i * 1) .nilp).asU8).toUInt64
def ld0 (off : Nat) (b : Blk) (i : Nat) (acc : Bool) : Bool := bnd acc (Nat.blt (off + i * 1) b.cells.length && (b.cells.getD (off + i * 1) .nilp).isU8)
/-- The word of a short row. -/
def shortW (f : Nat → UInt64) (n : Nat) : Nat → UInt64
  | 0 => 0
  | i + 1 => shlW (shortW f n i) 8 ||| (bif Nat.blt i n then f i else bif Nat.beq i n then (0x80 : UInt8).toUInt64 else (0 : UInt8).toUInt64)
def shortOk (off : Nat) (b : Blk) (acc : Bool) : Nat → Bool
  | 0 => acc
  | i + 1 => ld0 off b i (shortOk off b acc i)
/-- A byte of a sum is not another one. -/
def neB (w v : UInt64) (k : Nat) : Bool := (shrW w k).toUInt8 != (shrW v k).toUInt8
def neOk (w v : UInt64) (acc : Bool) : Bool := bnd (bnd (bnd (bnd (bnd (bnd (bnd (bnd acc (!neB w v 56)) (!neB w v 48)) (!neB w v 40)) (!neB w v 32)) (!neB w v 24)) (!neB w v 16)) (!neB w v 8)) (!neB w v 0)
def xorA (x : W5) (w : UInt64) : W5 := ⟨x.a ^^^ w, x.b, x.c, x.d, x.e⟩
/-- Which way the tests go. -/
def shortTold (n : Nat) : List Bool := false :: ((List.range 8).flatMap (fun i => [true, Nat.blt i n, Nat.beq i n]) ++ (false :: ((List.range 8).flatMap (fun _ => [true, false]) ++ [false])))
def shortAll (off n : Nat) (b : Blk) : Bool := neOk (sumS [rdB off n b].flatten).p (turn (xorA (turn ⟨32, 0, 0, 0, 0⟩) (shortW (b0 off b) n 8))).a
  (bnd (shortOk off b true n) ((((Nat.ble (off + n * 1) b.cells.length && true) && (rd off n b).all SC.isU8) && true) && Nat.ble ([rdB off n b].flatten).length sumLim))

theorem short_run (n : Nat) (hn : n < 8) (w : World) (off : Nat) (b : Blk) (hok : shortAll off n b = true) :
    Sx.Fn Try.prog fShort (atW w 0) [.c (.slc 0 off 1 n none)] [(0, some b)] 1 fun r _ => r = .c (.bool true) := by
  match n, hn, hok with
  | 0, _, hok => exact Fn.xv (fuel := 1000) (told := shortTold 0) law_lib mixed (r := .c (.bool true)) (ob := shortAll off 0 b) (obs := []) (by kernel_rfl) hok trivial rfl
  | 1, _, hok => exact Fn.xv (fuel := 1000) (told := shortTold 1) law_lib mixed (r := .c (.bool true)) (ob := shortAll off 1 b) (obs := []) (by kernel_rfl) hok trivial rfl
  | 2, _, hok => exact Fn.xv (fuel := 1000) (told := shortTold 2) law_lib mixed (r := .c (.bool true)) (ob := shortAll off 2 b) (obs := []) (by kernel_rfl) hok trivial rfl
  | 3, _, hok => exact Fn.xv (fuel := 1000) (told := shortTold 3) law_lib mixed (r := .c (.bool true)) (ob := shortAll off 3 b) (obs := []) (by kernel_rfl) hok trivial rfl
  | 4, _, hok => exact Fn.xv (fuel := 1000) (told := shortTold 4) law_lib mixed (r := .c (.bool true)) (ob := shortAll off 4 b) (obs := []) (by kernel_rfl) hok trivial rfl
  | 5, _, hok => exact Fn.xv (fuel := 1000) (told := shortTold 5) law_lib mixed (r := .c (.bool true)) (ob := shortAll off 5 b) (obs := []) (by kernel_rfl) hok trivial rfl
  | 6, _, hok => exact Fn.xv (fuel := 1000) (told := shortTold 6) law_lib mixed (r := .c (.bool true)) (ob := shortAll off 6 b) (obs := []) (by kernel_rfl) hok trivial rfl
  | 7, _, hok => exact Fn.xv (fuel := 1000) (told := shortTold 7) law_lib mixed (r := .c (.bool true)) (ob := shortAll off 7 b) (obs := []) (by kernel_rfl) hok trivial rfl

theorem shortW_congr {f g : Nat → UInt64} {n : Nat} (h : ∀ i, i < n → f i = g i) : ∀ i, shortW f n i = shortW g n i
  | 0 => rfl
  | i + 1 => by
    simp only [shortW, shortW_congr h i]
    by_cases hi : i < n
    · rw [h i hi]
    · have : Nat.blt i n = false := by
        cases hb : Nat.blt i n with
        | false => rfl
        | true => exact absurd (by simpa [Nat.blt_eq] using hb) hi
      rw [this]; rfl
theorem shortW_eq (bs : List UInt8) (hl : bs.length < 8) : shortW (fun i => (bs.getD i 0).toUInt64) bs.length 8 = wordS (padded bs) := by
  rcases bs with _ | ⟨c0, _ | ⟨c1, _ | ⟨c2, _ | ⟨c3, _ | ⟨c4, _ | ⟨c5, _ | ⟨c6, _ | ⟨c7, bs⟩⟩⟩⟩⟩⟩⟩⟩ <;> first | rfl | (simp at hl; omega)
theorem sumS_short (bs : List UInt8) (hl : bs.length < 8) : (sumS bs).p = (turn (xorA (turn ⟨32, 0, 0, 0, 0⟩) (wordS (padded bs)))).a := by
  have h8 : (padded bs).length = 8 := by simp [padded, padK]; omega
  have ht : (padded bs).take 8 = padded bs := List.take_of_length_le (by omega)
  unfold sumS
  rw [h8]
  simp only [squeeze, absorb, xorA, ht]
theorem neOk_self (w : UInt64) {acc : Bool} (h : acc = true) : neOk w w acc = true := by
  simp [neOk, neB, bnd_true, h]

theorem spongeShort_fn {bs : List UInt8} (w : World) {off : Nat} {b : Blk} (h : RowB off b bs) : Sx.Fn Try.prog fShort (atW w 0) [.c (.slc 0 off 1 bs.length none)] [(0, some b)] 1 fun r _ => r = .c (.bool true) := by
  by_cases hlt : (bs.length : Int) > 7
  · exact Fn.xv (fuel := 1000) (told := [true]) law_lib mixed (r := .c (.bool true)) (ob := bnd true (decide ((bs.length : Int) > 7))) (obs := []) (by kernel_rfl) (by simp only [bnd_true, decide_eq_true_eq]; exact ⟨trivial, hlt⟩) trivial rfl
  · have hn : bs.length < 8 := by omega
    refine short_run bs.length hn w off b ?_
    have hflat : ([rdB off bs.length b]).flatten = bs := by rw [rdB_eq h]; simp
    have hw : shortW (b0 off b) bs.length 8 = wordS (padded bs) := by
      rw [← shortW_eq bs hn]
      refine shortW_congr (fun i hi => ?_) 8
      unfold b0
      rw [Nat.mul_one, row_get h hi]; rfl
    have hld : ∀ k, k ≤ bs.length → shortOk off b true k = true := by
      intro k
      induction k with
      | zero => intro _; rfl
      | succ k ih =>
        intro hk
        simp only [shortOk, ld0, ih (by omega), Nat.mul_one, row_get h (show k < bs.length by omega), SC.isU8]
        have := h.len
        simp only [bnd_true, Bool.and_eq_true, Nat.blt_eq, and_true, true_and]
        omega
    unfold shortAll
    rw [hflat, hw, sumS_short bs hn]
    refine neOk_self _ ?_
    rw [hld _ (Nat.le_refl _), rd_eq h, isU8s]
    have := h.len
    have hS : sumLim = 1099511627776 := rfl
    simp only [bnd_true, Bool.and_eq_true, Nat.ble_eq, and_true, true_and]
    omega

end Go.Proofs.Ytkiamgiobmgmmaa.Sp
