/-
  The laws of signatures: the same ones, others, and such as are made.
-/
import Derived.Test.YtionkonamhbjoaaSgC
namespace Go.Proofs.Ytionkonamhbjoaa.Sg
open Go.RowKit Go.Proofs.Ytionkonamhbjoaa.Sx Go.Proofs.Ytionkonamhbjoaa.Pw Go.Proofs.Ytionkonamhbjoaa.Pr
open Go.Proofs.Ytionkonamhbjoaa.Sp (rd rdB rd_eq rdB_eq rd_own rdB_own hc deriveS isU8s asU8s)
set_option linter.unusedVariables false

section
variable (cs : List SC) (off n : Nat) (b : Blk)
def smB : Blk := ⟨rd off n b, tB8, true, true⟩
def smA1 : Bool := (sE cs 0 (0 + n) (smB off n b) == sE cs 0 (0 + n) (smB off n b)) && ((sS cs 0 (0 + n) (smB off n b) == sS cs 0 (0 + n) (smB off n b)) && true)
def smA2 : Bool := bif smA1 cs off n b then rdB 0 (0 + n) (smB off n b) == rdB off n b else false
def smR (off n : Nat) (b : Blk) : Bool := (Nat.ble (off + n * 1) b.cells.length && true) && (rd off n b).all SC.isU8
def smApp : Bool := (Nat.ble (off + n * 1) b.cells.length && true) && (Nat.ble (0 + n) maxLen && (Nat.ble ((0 + n) * 1) 140737488355328 && true))
def smOb : Bool := gg (smA2 cs off n b) (gg (smA1 cs off n b) (gi (smA1 cs off n b) (smR off n b) (gg (smA1 cs off n b) (gi (smA1 cs off n b) (smR 0 (0 + n) (smB off n b)) (gg (smA1 cs off n b) (bnd (bnd (bnd (bnd (bnd (bnd (bnd (bnd true (!decide ((n : Int) > 500))) (Nat.ble (0 + 32) cs.length)) (sF cs)) (smApp off n b)) (rowOk5 0 (0 + n) (smB off n b))) (Nat.ble (0 + 32) cs.length)) (sF cs)) (rowOk5 0 (0 + n) (smB off n b))))))))
end

theorem same_lib : LibOK Try.prog [(fFrom, fromC), (fSign, signC), (fKnown4, knownC)] := LibOK.cons from_ok (LibOK.cons sign_ok (LibOK.cons known_ok (LibOK.nil _)))
theorem signSame_fn (hs : List UInt8) {bs : List UInt8} (w : World) (hh' : hs.length = 32) {off : Nat} {b : Blk} (h : RowB off b bs) : Sx.Fn Try.prog 8 (atW w 0) [.agg (hs.map SC.u8), .c (.slc 0 off 1 bs.length none)] [(0, some b)] 1 fun r _ => r = .c (.bool true) := by
  have hM : maxLen = 9223372036854775807 := rfl
  by_cases hA : (bs.length : Int) > 500
  · exact Fn.xv (fuel := 1000) (told := [true]) (LibOK.nil _) Sp.mixed (r := .c (.bool true)) (ob := bnd true (decide ((bs.length : Int) > 500))) (obs := []) (by kernel_rfl) (by rw [decide_eq_true hA]; rfl) trivial rfl
  have hz : 0 + bs.length = bs.length := Nat.zero_add _
  have hB : smB off bs.length b = ⟨bs.map SC.u8, tB8, true, true⟩ := by unfold smB; rw [rd_eq h]
  have a1 : smA1 (hs.map SC.u8) off bs.length b = true := by unfold smA1; simp
  have a2 : smA2 (hs.map SC.u8) off bs.length b = true := by unfold smA2; rw [a1, cond_true, hB, hz, rdB_own, rdB_eq h]; simp
  have r1 : smR off bs.length b = true := by
    unfold smR
    rw [rd_eq h, isU8s]
    have := h.len
    simp only [Bool.and_eq_true, Nat.ble_eq, and_true]; omega
  have r2 : smR 0 (0 + bs.length) (smB off bs.length b) = true := by
    unfold smR
    rw [hB, hz, rd_own, isU8s]
    simp
  have r3 : rowOk5 0 (0 + bs.length) (smB off bs.length b) = true := by
    unfold rowOk5
    rw [hB, hz, rd_own, isU8s]
    simp only [Bool.and_eq_true, Nat.ble_eq, and_true, true_and, List.length_map]; omega
  have r4 : smApp off bs.length b = true := by
    unfold smApp
    have := h.len
    simp only [Bool.and_eq_true, Nat.ble_eq, and_true]; omega
  exact Fn.xv (fuel := 1000) (told := [false, true, true]) same_lib Sp.mixed (r := .c (.bool (bif smA2 (hs.map SC.u8) off bs.length b then true else false))) (ob := smOb (hs.map SC.u8) off bs.length b) (obs := []) (by kernel_rfl) (by
    unfold smOb gi gg
    rw [a1, a2, r1, r2, r3, r4, sF_eq hh', decide_eq_false hA, List.length_map, hh']; rfl) trivial (by rw [a2]; rfl)

section
variable (x y : List SC) (off n : Nat) (b : Blk) (off' n' : Nat) (b' : Blk)
def oV (c d : List SC) (off n : Nat) (b : Blk) (off' n' : Nat) (b' : Blk) : Bool := verS (powS 4 (sX d)) (rdB off' n' b') (sE c off n b) (sS c off n b)
def oA1 : Bool := oV x y off n b off n b == oV x y off n b off n b
def oA2 : Bool := bif oA1 x y off n b then oV x x off n b off' n' b' == oV x x off n b off' n' b' else false
def oA3 : Bool := bif oA2 x y off n b off' n' b' then oV x x off n b off n b else false
def oD1 (n : Nat) : Bool := decide ((n : Int) > 300)
def oD2 (n n' : Nat) : Bool := bif oD1 n then true else decide ((n' : Int) > 300)
def oPre : Bool := bnd (q3 (oD1 n) false true) (!oD2 n n')
def oOb : Bool := gg (oA3 x y off n b off' n' b') (gi (oA2 x y off n b off' n' b') (rowOk5 off n b) (gg (oA2 x y off n b off' n' b') (g3 (oA2 x y off n b off' n' b') (gg (oA1 x y off n b) (gi (oA1 x y off n b) (rowOk5 off' n' b') (gg (oA1 x y off n b) (g3 (oA1 x y off n b) (gi (oA1 x y off n b) (rowOk5 off' n' b') (gg (oA1 x y off n b) (g3 (oA1 x y off n b)
  (bnd (bnd (bnd (bnd (bnd (bnd (bnd (bnd (bnd (oPre n n') (Nat.ble (0 + 32) x.length)) (sF x)) (rowOk5 off n b)) (Nat.ble (0 + 32) x.length)) (h32 (x.take 32))) (Nat.ble (0 + 32) y.length)) (h32 (y.take 32))) (rowOk5 off n b)) (rowOk5 off n b))))))))))))
end

theorem signOther_fn (xs ys : List UInt8) {bs cs : List UInt8} (w : World) (hx : xs.length = 32) (hy : ys.length = 32) {off : Nat} {b : Blk} (h : RowB off b bs) {off' : Nat} {b' : Blk} (h' : RowB off' b' cs) :
    Sx.Fn Try.prog 9 (atW w 0) [.agg (xs.map SC.u8), .agg (ys.map SC.u8), .c (.slc 0 off 1 bs.length none), .c (.slc 1 off' 1 cs.length none)] [(0, some b), (1, some b')] 2 fun r _ => r = .c (.bool true) := by
  cases d1 : oD1 bs.length with
  | true => exact Fn.xv (fuel := 1000) (told := [true]) sg_lib Sp.mixed (r := .c (.bool true)) (ob := bnd (q3 (oD1 bs.length) true true) (oD1 bs.length)) (obs := []) (by kernel_rfl) (by rw [d1]; rfl) trivial rfl
  | false =>
  cases d2 : oD2 bs.length cs.length with
  | true => exact Fn.xv (fuel := 1000) (told := [false, true]) sg_lib Sp.mixed (r := .c (.bool true)) (ob := bnd (q3 (oD1 bs.length) false true) (oD2 bs.length cs.length)) (obs := []) (by kernel_rfl) (by rw [d1, d2]; rfl) trivial rfl
  | false =>
  have hl : bs.length ≤ 300 := by simp only [oD1, decide_eq_false_iff_not] at d1; omega
  have hl' : cs.length ≤ 300 := by
    have := d2
    unfold oD2 at this
    rw [d1, cond_false, decide_eq_false_iff_not] at this; omega
  obtain ⟨_, _, hv⟩ := s_nat (xs.map SC.u8) h
  have a1 : oA1 (xs.map SC.u8) (ys.map SC.u8) off bs.length b = true := by unfold oA1; simp
  have a2 : oA2 (xs.map SC.u8) (ys.map SC.u8) off bs.length b off' cs.length b' = true := by unfold oA2; rw [a1]; simp
  have a3 : oA3 (xs.map SC.u8) (ys.map SC.u8) off bs.length b off' cs.length b' = true := by unfold oA3 oV; rw [a2, rdB_eq h]; exact hv
  have pr : oPre bs.length cs.length = true := by unfold oPre; rw [d1, d2]; rfl
  exact Fn.xv (fuel := 1000) (told := [false, false, true, true, true]) sg_lib Sp.mixed (r := .c (.bool (bif oA3 (xs.map SC.u8) (ys.map SC.u8) off bs.length b off' cs.length b' then true else false))) (ob := oOb (xs.map SC.u8) (ys.map SC.u8) off bs.length b off' cs.length b') (obs := []) (by kernel_rfl) (by
    unfold oOb g3 gi gg
    rw [a1, a2, a3, pr, sF_eq hx, rowOk5_eq h (by omega), rowOk5_eq h' (by omega), take32 hx, take32 hy, h32_of hx, h32_of hy, List.length_map, List.length_map, hx, hy]; rfl) trivial (by rw [a3]; rfl)

section
variable (cs : List SC) (off n : Nat) (b : Blk) (r e : Int)
def mD1 (n : Nat) : Bool := decide ((n : Int) > 300)
def mD2 (n : Nat) (r : Int) : Bool := bif mD1 n then true else decide (r < 1)
def mD3 (n : Nat) (r : Int) : Bool := bif mD2 n r then true else decide (r ≥ 1073741789)
def mD4 (n : Nat) (r e : Int) : Bool := bif mD3 n r then true else decide (e < 0)
def mD5 (n : Nat) (r e : Int) : Bool := bif mD4 n r e then true else decide (e ≥ 1073741789)
def mS : Int := (IntKind.i64.wrap (r + IntKind.i64.wrap (e * sX cs))).tmod 1073741789
def mV : Bool := verS (powS 4 (sX cs)) (rdB off n b) e (mS cs r e)
def mA1 : Bool := backS (powS 4 (sX cs)) e (mS cs r e) == powS 4 r
def mA2 : Bool := bif mA1 cs r e then mV cs off n b r e == mV cs off n b r e else false
def mDs : Bool := hh (mD4 n r e) false (hh (mD3 n r) false (hh (mD2 n r) false (hh (mD1 n) false true)))
def mOb : Bool := gg (mA2 cs off n b r e) (gg (mA1 cs r e) (gi (mA1 cs r e) (rowOk5 off n b) (gg (mA1 cs r e) (g3 (mA1 cs r e) (gi (mA1 cs r e) (rowOk5 off n b) (gg (mA1 cs r e) (g3 (mA1 cs r e) (bnd (bnd (bnd (mDs n r e) (!mD5 n r e)) (Nat.ble (0 + 32) cs.length)) (h32 (cs.take 32))))))))))
end

theorem made_lib : LibOK Try.prog [(frFrom, rfromC), (frPow, powC), (frMul, mulC), (fVer, verC), (frVer, verC), (fKnown4, knownC)] := LibOK.cons rfrom_ok (LibOK.cons rpow_ok (LibOK.cons rmul_ok (LibOK.cons ver_ok (LibOK.cons rver_ok (LibOK.cons known_ok (LibOK.nil _))))))
theorem signMade_fn (hs : List UInt8) {bs : List UInt8} (r e : Int) (w : World) (hh' : hs.length = 32) {off : Nat} {b : Blk} (h : RowB off b bs) : Sx.Fn Try.prog 10 (atW w 0) [.agg (hs.map SC.u8), .c (.slc 0 off 1 bs.length none), .c (.int r), .c (.int e)] [(0, some b)] 1 fun r _ => r = .c (.bool true) := by
  cases d1 : mD1 bs.length with
  | true => exact Fn.xv (fuel := 1000) (told := [true]) made_lib Sp.mixed (r := .c (.bool true)) (ob := bnd (hh (mD1 bs.length) true true) (mD1 bs.length)) (obs := []) (by kernel_rfl) (by rw [d1]; rfl) trivial rfl
  | false =>
  cases d2 : mD2 bs.length r with
  | true => exact Fn.xv (fuel := 1000) (told := [false, true]) made_lib Sp.mixed (r := .c (.bool true)) (ob := bnd (hh (mD2 bs.length r) true (hh (mD1 bs.length) false true)) (mD2 bs.length r)) (obs := []) (by kernel_rfl) (by rw [d1, d2]; rfl) trivial rfl
  | false =>
  cases d3 : mD3 bs.length r with
  | true => exact Fn.xv (fuel := 1000) (told := [false, false, true]) made_lib Sp.mixed (r := .c (.bool true)) (ob := bnd (hh (mD3 bs.length r) true (hh (mD2 bs.length r) false (hh (mD1 bs.length) false true))) (mD3 bs.length r)) (obs := []) (by kernel_rfl) (by rw [d1, d2, d3]; rfl) trivial rfl
  | false =>
  cases d4 : mD4 bs.length r e with
  | true => exact Fn.xv (fuel := 1000) (told := [false, false, false, true]) made_lib Sp.mixed (r := .c (.bool true)) (ob := bnd (hh (mD4 bs.length r e) true (hh (mD3 bs.length r) false (hh (mD2 bs.length r) false (hh (mD1 bs.length) false true)))) (mD4 bs.length r e)) (obs := []) (by kernel_rfl) (by rw [d1, d2, d3, d4]; rfl) trivial rfl
  | false =>
  have hds : mDs bs.length r e = true := by unfold mDs; rw [d1, d2, d3, d4]; rfl
  cases d5 : mD5 bs.length r e with
  | true => exact Fn.xv (fuel := 1000) (told := [false, false, false, false, true]) made_lib Sp.mixed (r := .c (.bool true)) (ob := bnd (mDs bs.length r e) (mD5 bs.length r e)) (obs := []) (by kernel_rfl) (by rw [hds, d5]; rfl) trivial rfl
  | false =>
  have hl : bs.length ≤ 300 := by simp only [mD1, decide_eq_false_iff_not] at d1; omega
  have hb : 1 ≤ r ∧ r < 1073741789 ∧ 0 ≤ e ∧ e < 1073741789 := by
    have e2 := d2
    have e3 := d3
    have e4 := d4
    have e5 := d5
    unfold mD5 at e5
    rw [d4, cond_false, decide_eq_false_iff_not] at e5
    unfold mD4 at e4
    rw [d3, cond_false, decide_eq_false_iff_not] at e4
    unfold mD3 at e3
    rw [d2, cond_false, decide_eq_false_iff_not] at e3
    unfold mD2 at e2
    rw [d1, cond_false, decide_eq_false_iff_not] at e2
    omega
  obtain ⟨x, hx, hx0, hxQ⟩ := scal_nat ((hs.map SC.u8).take 32)
  have hX : sX (hs.map SC.u8) = (x : Int) := hx
  obtain ⟨rn, rfl⟩ : ∃ rn : Nat, r = rn := ⟨r.toNat, by omega⟩
  obtain ⟨en, rfl⟩ : ∃ en : Nat, e = en := ⟨e.toNat, by omega⟩
  have hQ : prQ = 1073741789 := rfl
  have hmul : en * x ≤ 1073741789 * 1073741789 := Nat.mul_le_mul (by omega) (by omega)
  have hS : mS (hs.map SC.u8) rn en = (((rn + en * x) % prQ : Nat) : Int) := by
    unfold mS
    rw [hX]
    have h1 : IntKind.i64.wrap ((en : Int) * (x : Int)) = ((en * x : Nat) : Int) := by rw [← Int.natCast_mul, IntKind.wrap_i64]; omega
    have h2 : IntKind.i64.wrap ((rn : Int) + ((en * x : Nat) : Int)) = ((rn + en * x : Nat) : Int) := by rw [IntKind.wrap_i64]; omega
    rw [h1, h2, Int.tmod_eq_emod_of_nonneg (by omega)]
    exact (Int.natCast_emod _ _).symm
  have a1 : mA1 (hs.map SC.u8) rn en = true := by
    unfold mA1
    rw [hS, hX, back_eq hx0 hxQ (by omega) (by omega), beq_self_eq_true]
  have a2 : mA2 (hs.map SC.u8) off bs.length b rn en = true := by unfold mA2; rw [a1]; simp
  exact Fn.xv (fuel := 1000) (told := [false, false, false, false, false, true, true]) made_lib Sp.mixed (r := .c (.bool (bif mA2 (hs.map SC.u8) off bs.length b rn en then true else false))) (ob := mOb (hs.map SC.u8) off bs.length b rn en) (obs := []) (by kernel_rfl) (by
    unfold mOb g3 gi gg
    rw [a1, a2, hds, d5, rowOk5_eq h (by omega), take32 hh', h32_of hh', List.length_map, hh']; rfl) trivial (by rw [a2]; rfl)

end Go.Proofs.Ytionkonamhbjoaa.Sg
