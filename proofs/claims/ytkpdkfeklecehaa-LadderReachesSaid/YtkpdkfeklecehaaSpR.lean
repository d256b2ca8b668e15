/-
  Sums compared; rows read.
-/
import Derived.Test.YtkpdkfeklecehaaSpD
namespace Go.Proofs.Ytkpdkfeklecehaa.Sp
open Go.RowKit Go.Proofs.Ytkpdkfeklecehaa.Sx
set_option linter.unusedVariables false

/-- Sums alike, byte by byte. -/
def eqHB (w v : UInt64) (acc : Bool) : Bool := ((shrW w 56).toUInt8 == (shrW v 56).toUInt8) && (((shrW w 48).toUInt8 == (shrW v 48).toUInt8) && (((shrW w 40).toUInt8 == (shrW v 40).toUInt8) && (((shrW w 32).toUInt8 == (shrW v 32).toUInt8) &&
  (((shrW w 24).toUInt8 == (shrW v 24).toUInt8) && (((shrW w 16).toUInt8 == (shrW v 16).toUInt8) && (((shrW w 8).toUInt8 == (shrW v 8).toUInt8) && (((shrW w 0).toUInt8 == (shrW v 0).toUInt8) && acc)))))))
def eqH (x y : H4) : Bool := eqHB x.p y.p (eqHB x.q y.q (eqHB x.r y.r (eqHB x.s y.s true)))
theorem eqHB_self (w : UInt64) : eqHB w w true = true := by simp [eqHB]
theorem eqH_self (x : H4) : eqH x x = true := by unfold eqH; simp only [eqHB_self]

/-- The bytes of a row, as they are read. -/
def rd (off n : Nat) (b : Blk) : List SC := (b.cells.drop off).take (n * 1)
def rdB (off n : Nat) (b : Blk) : List UInt8 := (rd off n b).map SC.asU8
theorem rd_eq {off : Nat} {b : Blk} {bs : List UInt8} (h : RowB off b bs) : rd off bs.length b = bs.map SC.u8 := row_take h
theorem rdB_eq {off : Nat} {b : Blk} {bs : List UInt8} (h : RowB off b bs) : rdB off bs.length b = bs := by
  unfold rdB; rw [rd_eq h, asU8s]

theorem wrap_id {k : Int} (h : -9223372036854775808 ≤ k) (h' : k ≤ 9223372036854775807) : IntKind.i64.wrap k = k := by
  rw [IntKind.wrap_i64]; omega

theorem rd_own (bs : List UInt8) (t : TypeId) (x y : Bool) : rd 0 bs.length ⟨bs.map SC.u8, t, x, y⟩ = bs.map SC.u8 := by
  unfold rd
  rw [List.drop_zero, Nat.mul_one, List.take_of_length_le (by simp)]
theorem rdB_own (bs : List UInt8) (t : TypeId) (x y : Bool) : rdB 0 bs.length ⟨bs.map SC.u8, t, x, y⟩ = bs := by
  unfold rdB; rw [rd_own, asU8s]

end Go.Proofs.Ytkpdkfeklecehaa.Sp
