/-
  The law of a key's numbers, and of a number's bytes.
-/
import Derived.Test.YtgemcihcnmkkbaaPrF
namespace Go.Proofs.Ytgemcihcnmkkbaa.Pr
open Go.RowKit Go.Proofs.Ytgemcihcnmkkbaa.Sx Go.Proofs.Ytgemcihcnmkkbaa.Pw
set_option linter.unusedVariables false

def gN (x : Bool) : Nat → Bool → Bool
  | 0, acc => acc
  | n + 1, acc => bnd (gN x n acc) (x == true && true)
theorem gN_true (n : Nat) : gN true n true = true := by
  induction n with
  | zero => rfl
  | succ n ih => simp [gN, ih, bnd]

section
variable (S : List SC → Int) (W : Int → Int → Int) (cs : List SC) (n : Int)
def tX : Int := S (cs.take 32)
def tY : Int := W 4 (tX S cs)
def tE1 : Bool := tX S cs == tX S cs
def tE2 : Bool := bif tE1 S cs then true else false
def tE3 : Bool := bif tE2 S cs then tY S W cs == tY S W cs else false
def tE4 : Bool := bif tE3 S W cs then tY S W cs == tY S W cs else false
def tE5 : Bool := bif tE4 S W cs then true else false
def tE6 : Bool := bif tE5 S W cs then fourB n == fourB n else false
def tPre : Bool := bnd (bnd (bnd (bnd true (Nat.ble (0 + 32) cs.length)) (sF cs)) (Nat.ble (0 + 32) cs.length)) (h32 (cs.take 32))
def tOb : Bool := gN (tE6 S W cs n) 1 (gN (tE5 S W cs) 7 (gN (tE4 S W cs) 2 (gN (tE3 S W cs) 5 (gN (tE2 S cs) 5 (gN (tE1 S cs) 3 (tPre cs))))))
end
theorem tells_lib {S : List SC → Int} {W : Int → Int → Int} (hS : S = scalS) (hW : W = powS) : LibOK Try.prog [(fFrom, fromG S), (fMade, madeC), (fPub, pubG W), (frFrom, rfromG S W), (fSec, secC), (fFour, fourC), (frFour, fourC), (fKnown3, knownC)] :=
  LibOK.cons (fromG_ok hS) (LibOK.cons made_ok (LibOK.cons (pubG_ok hW) (LibOK.cons (rfromG_ok hS hW) (LibOK.cons sec_ok (LibOK.cons four_ok (LibOK.cons rfour_ok (LibOK.cons known_ok (LibOK.nil _))))))))
theorem tells_at {S : List SC → Int} {W : Int → Int → Int} (hS : S = scalS) (hW : W = powS) (hs : List UInt8) (n : Int) (w : World) (hh : hs.length = 32) : Sx.Fn Try.prog 5 (atW w 0) [.agg (hs.map SC.u8), .c (.int n)] [] 0 fun r _ => r = .c (.bool true) := by
  have e1 : tE1 S (hs.map SC.u8) = true := by unfold tE1; simp
  have e2 : tE2 S (hs.map SC.u8) = true := by unfold tE2; rw [e1]; rfl
  have e3 : tE3 S W (hs.map SC.u8) = true := by unfold tE3; rw [e2]; simp
  have e4 : tE4 S W (hs.map SC.u8) = true := by unfold tE4; rw [e3]; simp
  have e5 : tE5 S W (hs.map SC.u8) = true := by unfold tE5; rw [e4]; rfl
  have e6 : tE6 S W (hs.map SC.u8) n = true := by unfold tE6; rw [e5]; simp
  refine Fn.xv (fuel := 1000) (told := [false, false, true, true, true, true, true, true]) (tells_lib hS hW) Sp.mixed (r := .c (.bool (bif tE6 S W (hs.map SC.u8) n then true else false))) (ob := tOb S W (hs.map SC.u8) n)
    (obs := [.c (.int (tY S W (hs.map SC.u8))) = SV.c (.int (tY S W (hs.map SC.u8))), .c (.int (tY S W (hs.map SC.u8))) = SV.c (.int (tY S W (hs.map SC.u8)))]) (by kernel_rfl) ?_ ⟨rfl, rfl, trivial⟩ (by rw [e6]; rfl)
  unfold tOb tPre
  rw [e1, e2, e3, e4, e5, e6, sF_eq hh, take32 hh, h32_of hh, List.length_map, hh]; rfl
theorem pairTells_fn (hs : List UInt8) (n : Int) (w : World) (hh : hs.length = 32) : Sx.Fn Try.prog 5 (atW w 0) [.agg (hs.map SC.u8), .c (.int n)] [] 0 fun r _ => r = .c (.bool true) := tells_at rfl rfl hs n w hh

end Go.Proofs.Ytgemcihcnmkkbaa.Pr
