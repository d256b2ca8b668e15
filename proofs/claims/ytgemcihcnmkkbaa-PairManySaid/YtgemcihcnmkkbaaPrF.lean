/-
  The laws of what is refused, and of what two keys share.
-/
import Derived.Test.YtgemcihcnmkkbaaPrE
namespace Go.Proofs.Ytgemcihcnmkkbaa.Pr
open Go.RowKit Go.Proofs.Ytgemcihcnmkkbaa.Sx Go.Proofs.Ytgemcihcnmkkbaa.Pw
set_option linter.unusedVariables false

section
variable (p : Int)
def uI : Int := bif isS p then IntKind.i64.wrap (0 + 1) else 0
def rfE1 (n : Bool) : Bool := isS p == n
def rE2' (n : Bool) : Bool := bif rfE1 p n then (uI p == (bif n then 1 else 0)) else false
def rZ (x : Int) : Bool := Sp.eqH (shI x p) ⟨0, 0, 0, 0⟩
def rT3 : Bool := bif rE2' p true then true else false
def rT4 : Bool := bif rT3 p then !((0 : Int) != 0) else false
def rF3 (x : Int) : Bool := bif rE2' p false then (bif isS p then true else rZ p x) else false
def rF4 (x : Int) : Bool := bif rF3 p x then !((0 : Int) != 0) else false
end
def gg (x : Bool) (acc : Bool) : Bool := bnd acc (x == true && true)
def rfCs (cs : List SC) : Int := scalS (cs.take 32)
def rfA (cs : List SC) : Bool := bnd (bnd true (Nat.ble (0 + 32) cs.length)) (((cs.take 32).all SC.sole && true) && h32 (cs.take 32))

def g3 (x acc : Bool) : Bool := gg x (gg x (gg x acc))
def gi (x y acc : Bool) : Bool := bnd acc (x == true && y)
def rfT (cs : List SC) (p : Int) : Bool := gg (rT4 p) (g3 (rT3 p) (gi (rE2' p true) (isS p) (g3 (isS p) (gg (rE2' p true) (gg (rE2' p true) (gg (rfE1 p true) (g3 (rfE1 p true) (bnd (rfA cs) (isS p)))))))))
def hh (x acc : Bool) : Bool := bnd acc (x == false && true)
def rfF (cs : List SC) (p : Int) : Bool := gg (rF4 p (rfCs cs)) (g3 (rF3 p (rfCs cs)) (gg (rE2' p false) (hh (isS p) (hh (isS p) (hh (isS p) (gg (rE2' p false) (gg (rE2' p false) (gg (rfE1 p false) (g3 (rfE1 p false) (bnd (rfA cs) (!isS p)))))))))))

theorem ref_lib : LibOK Try.prog [(fFrom, fromC), (fShared, sharedC), (frIs, isC), (fUses, usesC), (fMade, madeC), (fKnown3, knownC)] := LibOK.cons from_ok (LibOK.cons shared_ok (LibOK.cons ris_ok (LibOK.cons uses_ok (LibOK.cons made_ok (LibOK.cons known_ok (LibOK.nil _))))))
theorem rfA_eq {hs : List UInt8} (h : hs.length = 32) : rfA (hs.map SC.u8) = true := by
  unfold rfA
  rw [take32 h, h32_of h, sole_of, List.length_map, h]; rfl
theorem pairRefuses_fn (hs : List UInt8) (p : Int) (w : World) (hh' : hs.length = 32) : Sx.Fn Try.prog 8 (atW w 0) [.agg (hs.map SC.u8), .c (.int p)] [] 0 fun r _ => r = .c (.bool true) := by
  cases hi : isS p with
  | true =>
    have e1 : rfE1 p true = true := by unfold rfE1; rw [hi]; rfl
    have e2 : rE2' p true = true := by unfold rE2' uI; rw [e1, hi]; rfl
    have e3 : rT3 p = true := by unfold rT3; rw [e2]; rfl
    have e4 : rT4 p = true := by unfold rT4; rw [e3]; rfl
    exact Fn.xv (fuel := 1000) (told := [false, true, true, true, true, true, true]) ref_lib Sp.mixed (r := .c (.bool (bif rT4 p then true else false))) (ob := rfT (hs.map SC.u8) p) (obs := []) (by kernel_rfl) (by unfold rfT g3 gi gg; rw [e1, e2, e3, e4, hi, rfA_eq hh']; rfl) trivial (by rw [e4]; rfl)
  | false =>
    have e1 : rfE1 p false = true := by unfold rfE1; rw [hi]; rfl
    have e2 : rE2' p false = true := by unfold rE2' uI; rw [e1, hi]; rfl
    have ez : rZ p (rfCs (hs.map SC.u8)) = true := by unfold rZ shI; rw [hi]; exact Sp.eqH_self _
    have e3 : rF3 p (rfCs (hs.map SC.u8)) = true := by unfold rF3; rw [e2, hi, ez]; rfl
    have e4 : rF4 p (rfCs (hs.map SC.u8)) = true := by unfold rF4; rw [e3]; rfl
    exact Fn.xv (fuel := 1000) (told := [false, false, true, true, false, true, true]) ref_lib Sp.mixed (r := .c (.bool (bif rF4 p (rfCs (hs.map SC.u8)) then true else false))) (ob := rfF (hs.map SC.u8) p) (obs := []) (by kernel_rfl) (by unfold rfF g3 hh gg; rw [e1, e2, e3, e4, hi, rfA_eq hh']; rfl) trivial (by rw [e4]; rfl)

section
variable (a b : List SC) (p : Int)
def xS (cs : List SC) : Int := scalS (cs.take 32)
def yS (cs : List SC) : Int := powS 4 (xS cs)
def sF (cs : List SC) : Bool := ((cs.take 32).all SC.sole && true) && h32 (cs.take 32)
def sA1 : Bool := isS (yS b)
def sA2 : Bool := bif sA1 b then isS (yS a) else false
def sA3 : Bool := bif sA2 a b then Sp.eqH (shI (xS a) (yS b)) (shI (xS b) (yS a)) else false
def sA4 : Bool := bif sA3 a b then isS p == isS p else false
def sA5 : Bool := bif sA4 a b p then Sp.eqH (shI (xS a) p) (shI (xS a) p) else false
def sU1 : Int := bif isS (yS b) then IntKind.i64.wrap (0 + 1) else 0
def sU2 : Int := bif isS p then IntKind.i64.wrap (sU1 b + 1) else sU1 b
def sA6 (n : Int) : Bool := bif sA5 a b p then sU2 b p == n else false
def sA7 (n : Int) : Bool := bif sA6 a b p n then sU1 a == 1 else false
def sPre : Bool := bnd (bnd (bnd (bnd (bnd (bnd true (Nat.ble (0 + 32) a.length)) (sF a)) (Nat.ble (0 + 32) b.length)) (sF b)) (Nat.ble (0 + 32) a.length)) (h32 (a.take 32))
def sOb (n : Int) (c : Bool) : Bool := gg (sA7 a b p n) (g3 (sA6 a b p n) (gg (sA5 a b p) (g3 (sA5 a b p) (g3 (sA4 a b p) (g3 (sA3 a b) (g3 (sA2 a b) (gg (sA1 b) (bnd (sPre a b) c))))))))
end

theorem share_lib : LibOK Try.prog [(fFrom, fromC), (fPub, pubC), (fShared, sharedC), (frFrom, rfromC), (frShared, rsharedC), (fUses, usesC), (fKnown3, knownC)] := LibOK.cons from_ok (LibOK.cons pub_ok (LibOK.cons shared_ok (LibOK.cons rfrom_ok (LibOK.cons rshared_ok (LibOK.cons uses_ok (LibOK.cons known_ok (LibOK.nil _)))))))
theorem sF_eq {hs : List UInt8} (h : hs.length = 32) : sF (hs.map SC.u8) = true := by
  unfold sF
  rw [take32 h, h32_of h, sole_of]; rfl
theorem isS_pub (cs : List SC) : isS (yS cs) = true := by
  obtain ⟨s, hs, hs0, hsQ⟩ := scal_nat (cs.take 32)
  unfold yS xS
  rw [hs, pub_nat hsQ]
  exact isS_pow (q_coprime hs0 hsQ)
theorem share_sym (a b : List SC) : shI (xS a) (yS b) = shI (xS b) (yS a) := by
  obtain ⟨s, hs, hs0, hsQ⟩ := scal_nat (a.take 32)
  obtain ⟨t, ht, ht0, htQ⟩ := scal_nat (b.take 32)
  have e1 : powS (yS b) (xS a) = powS (yS a) (xS b) := by
    unfold yS xS
    rw [hs, ht, share_nat htQ hsQ, share_nat hsQ htQ, Nat.mul_comm]
  unfold shI
  rw [isS_pub a, isS_pub b, cond_true, cond_true]
  unfold shS
  rw [e1]
theorem pairShares_fn (xs ys : List UInt8) (p : Int) (w : World) (hx : xs.length = 32) (hy : ys.length = 32) : Sx.Fn Try.prog 6 (atW w 0) [.agg (xs.map SC.u8), .agg (ys.map SC.u8), .c (.int p)] [] 0 fun r _ => r = .c (.bool true) := by
  have e1 : sA1 (ys.map SC.u8) = true := isS_pub _
  have e2 : sA2 (xs.map SC.u8) (ys.map SC.u8) = true := by unfold sA2; rw [e1]; exact isS_pub _
  have e3 : sA3 (xs.map SC.u8) (ys.map SC.u8) = true := by unfold sA3; rw [e2, share_sym]; exact Sp.eqH_self _
  have e4 : sA4 (xs.map SC.u8) (ys.map SC.u8) p = true := by unfold sA4; rw [e3]; simp
  have e5 : sA5 (xs.map SC.u8) (ys.map SC.u8) p = true := by unfold sA5; rw [e4]; exact Sp.eqH_self _
  have u1 : ∀ cs, sU1 cs = 1 := fun cs => by unfold sU1; rw [isS_pub]; rfl
  have hpre : sPre (xs.map SC.u8) (ys.map SC.u8) = true := by
    unfold sPre
    rw [sF_eq hx, sF_eq hy, take32 hx, h32_of hx, List.length_map, List.length_map, hx, hy]; rfl
  cases hi : isS p with
  | true =>
    have e6 : sA6 (xs.map SC.u8) (ys.map SC.u8) p 2 = true := by unfold sA6 sU2; rw [e5, u1, hi]; rfl
    have e7 : sA7 (xs.map SC.u8) (ys.map SC.u8) p 2 = true := by unfold sA7; rw [e6, u1]; rfl
    exact Fn.xv (fuel := 1000) (told := [false, false, true, true, true, true, true, true, true, true]) share_lib Sp.mixed (r := .c (.bool (bif sA7 (xs.map SC.u8) (ys.map SC.u8) p 2 then true else false))) (ob := sOb (xs.map SC.u8) (ys.map SC.u8) p 2 (isS p)) (obs := []) (by kernel_rfl) (by unfold sOb g3 gg; rw [e1, e2, e3, e4, e5, e6, e7, hi, hpre]; rfl) trivial (by rw [e7]; rfl)
  | false =>
    have e6 : sA6 (xs.map SC.u8) (ys.map SC.u8) p 1 = true := by unfold sA6 sU2; rw [e5, u1, hi]; rfl
    have e7 : sA7 (xs.map SC.u8) (ys.map SC.u8) p 1 = true := by unfold sA7; rw [e6, u1]; rfl
    exact Fn.xv (fuel := 1000) (told := [false, false, false, true, true, true, true, true, true, true]) share_lib Sp.mixed (r := .c (.bool (bif sA7 (xs.map SC.u8) (ys.map SC.u8) p 1 then true else false))) (ob := sOb (xs.map SC.u8) (ys.map SC.u8) p 1 (!isS p)) (obs := []) (by kernel_rfl) (by unfold sOb g3 gg; rw [e1, e2, e3, e4, e5, e6, e7, hi, hpre]; rfl) trivial (by rw [e7]; rfl)

end Go.Proofs.Ytgemcihcnmkkbaa.Pr
