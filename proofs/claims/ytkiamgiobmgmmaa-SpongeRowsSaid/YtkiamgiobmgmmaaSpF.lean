/-
  The laws of a sum of bytes.
-/
import Derived.Test.YtkiamgiobmgmmaaSpE
import Derived.Test.YtkiamgiobmgmmaaSxL
namespace Go.Proofs.Ytkiamgiobmgmmaa.Sp
open Go.RowKit Go.Proofs.Ytkiamgiobmgmmaa.Sx
set_option linter.unusedVariables false

/-- Sums alike, byte by byte. -/
def eqHB (w v : UInt64) (acc : Bool) : Bool := ((shrW w 56).toUInt8 == (shrW v 56).toUInt8) && (((shrW w 48).toUInt8 == (shrW v 48).toUInt8) && (((shrW w 40).toUInt8 == (shrW v 40).toUInt8) && (((shrW w 32).toUInt8 == (shrW v 32).toUInt8) &&
  (((shrW w 24).toUInt8 == (shrW v 24).toUInt8) && (((shrW w 16).toUInt8 == (shrW v 16).toUInt8) && (((shrW w 8).toUInt8 == (shrW v 8).toUInt8) && (((shrW w 0).toUInt8 == (shrW v 0).toUInt8) && acc)))))))
def eqH (x y : H4) : Bool := eqHB x.p y.p (eqHB x.q y.q (eqHB x.r y.r (eqHB x.s y.s true)))
theorem eqHB_self (w : UInt64) : eqHB w w true = true := by simp [eqHB]
theorem eqH_self (x : H4) : eqH x x = true := by unfold eqH; simp only [eqHB_self]

/-- The bytes of a row, as they are read. -/
def rd (off n : Nat) (b : Blk) : List SC := (b.cells.drop off).take (n * 1)
def rdB (off n : Nat) (b : Blk) : List UInt8 := (rd off n b).map SC.asU8
theorem rd_eq {off : Nat} {b : Blk} {bs : List UInt8} (h : RowB off b bs) : rd off bs.length b = bs.map SC.u8 := row_take h
theorem rdB_eq {off : Nat} {b : Blk} {bs : List UInt8} (h : RowB off b bs) : rdB off bs.length b = bs := by
  unfold rdB; rw [rd_eq h, asU8s]

abbrev fSums : Nat := 4
theorem spongeSums_fn {bs : List UInt8} (w : World) {off : Nat} {b : Blk} (h : RowB off b bs) : Sx.Fn Try.prog fSums (atW w 0) [.c (.slc 0 off 1 bs.length none)] [(0, some b)] 1 fun r _ => r = .c (.bool true) := by
  have hS : sumLim = 1099511627776 := rfl
  by_cases hlt : (bs.length : Int) > 2000
  · exact Fn.xv (fuel := 1000) (told := [true]) law_lib mixed (r := .c (.bool true)) (ob := bnd true (decide ((bs.length : Int) > 2000))) (obs := []) (by kernel_rfl) (by simp only [bnd_true, decide_eq_true_eq]; exact ⟨trivial, hlt⟩) trivial rfl
  · have hrd := rd_eq h
    have hrb := rdB_eq h
    have hflat : ([rdB off bs.length b]).flatten = bs := by rw [hrb]; simp
    have he : eqH (sumS [rdB off bs.length b].flatten) (sumS (rdB off bs.length b)) = true := by rw [hflat, hrb]; exact eqH_self _
    refine Fn.xv (fuel := 1000) (told := [false, true]) law_lib mixed (r := .c (.bool (bif eqH (sumS [rdB off bs.length b].flatten) (sumS (rdB off bs.length b)) then true else false)))
      (ob := bnd (bnd (bnd (bnd true (!decide ((bs.length : Int) > 2000))) (((((Nat.ble (off + bs.length * 1) b.cells.length && true) && (rd off bs.length b).all SC.isU8) && true) && Nat.ble ([rdB off bs.length b].flatten).length sumLim))) ((Nat.ble (off + bs.length * 1) b.cells.length && true) && ((rd off bs.length b).all SC.isU8 && Nat.ble bs.length sumLim))) (eqH (sumS [rdB off bs.length b].flatten) (sumS (rdB off bs.length b)) == true && true)) (obs := []) (by kernel_rfl) ?_ trivial (by rw [he]; rfl)
    have hl := h.len
    rw [he, hflat, hrd, isU8s]
    simp only [bnd_true, Bool.and_eq_true, Nat.ble_eq, Bool.not_eq_true', decide_eq_false_iff_not, beq_self_eq_true, and_true, true_and]
    omega

end Go.Proofs.Ytkiamgiobmgmmaa.Sp
