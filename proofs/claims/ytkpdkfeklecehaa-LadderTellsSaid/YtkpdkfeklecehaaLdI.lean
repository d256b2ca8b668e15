/-
  The laws of a secret's key and the secrets above.
-/
import Derived.Test.YtkpdkfeklecehaaLdH
namespace Go.Proofs.Ytkpdkfeklecehaa.Ld
open Go.RowKit Go.Proofs.Ytkpdkfeklecehaa.Sx Go.Proofs.Ytkpdkfeklecehaa.Pw
set_option linter.unusedVariables false

abbrev fTells : Nat := 6
section
variable (D : DT) (S : List SC → Int) (W : Int → Int → Int) (cs : List SC)
def uX (D : DT) (S : List SC → Int) (cs : List SC) : Int := S (Sp.hc (dv D cs nodeT))
def uY (D : DT) (S : List SC → Int) (W : Int → Int → Int) (cs : List SC) : Int := W 4 (uX D S cs)
def u1 : Bool := uY D S W cs == uY D S W cs
def u2 : Bool := bif u1 D S W cs then Sp.eqH (n1 D cs) (n1 D cs) else false
def u3 : Bool := bif u2 D S W cs then eqH3 (n1 D cs) (n2 D cs) (n3 D cs) (n1 D cs) (n2 D cs) (n3 D cs) else false
def u4 : Bool := bif u3 D S W cs then Sp.eqH (n4 D cs) (n4 D cs) else false
def u5 : Bool := bif u4 D S W cs then Sp.eqH (n1 D cs) (n1 D cs) else false
def u6 : Bool := bif u5 D S W cs then Sp.eqH (n3 D cs) (n3 D cs) else false
def u7 : Bool := bif u6 D S W cs then Sp.eqH (n4 D cs) (n4 D cs) else false
def uOb : Bool := gN (u7 D S W cs) 1 (gN (u6 D S W cs) 5 (gN (u5 D S W cs) 6 (gN (u4 D S W cs) 5 (gN (u3 D S W cs) 3 (gN (u2 D S W cs) 3 (gN (u1 D S W cs) 5 true))))))
end
theorem tells_at {D : DT} {S : List SC → Int} {W : Int → Int → Int} (hD : D = Sp.deriveS) (hS : S = scalS) (hW : W = powS) (w : World) (b0 b1 b2 b3 b4 b5 b6 b7 b8 b9 b10 b11 b12 b13 b14 b15 b16 b17 b18 b19 b20 b21 b22 b23 b24 b25 b26 b27 b28 b29 b30 b31 : UInt8) : Sx.Fn Try.prog fTells (atW w 0) [.agg (([b0, b1, b2, b3, b4, b5, b6, b7, b8, b9, b10, b11, b12, b13, b14, b15, b16, b17, b18, b19, b20, b21, b22, b23, b24, b25, b26, b27, b28, b29, b30, b31] : List UInt8).map SC.u8)] [] 0 fun r _ => r = .c (.bool true) := by
  have e1 : u1 D S W (([b0, b1, b2, b3, b4, b5, b6, b7, b8, b9, b10, b11, b12, b13, b14, b15, b16, b17, b18, b19, b20, b21, b22, b23, b24, b25, b26, b27, b28, b29, b30, b31] : List UInt8).map SC.u8) = true := by unfold u1; simp
  have e2 : u2 D S W (([b0, b1, b2, b3, b4, b5, b6, b7, b8, b9, b10, b11, b12, b13, b14, b15, b16, b17, b18, b19, b20, b21, b22, b23, b24, b25, b26, b27, b28, b29, b30, b31] : List UInt8).map SC.u8) = true := by unfold u2; rw [e1]; exact Sp.eqH_self _
  have e3 : u3 D S W (([b0, b1, b2, b3, b4, b5, b6, b7, b8, b9, b10, b11, b12, b13, b14, b15, b16, b17, b18, b19, b20, b21, b22, b23, b24, b25, b26, b27, b28, b29, b30, b31] : List UInt8).map SC.u8) = true := by unfold u3; rw [e2]; exact eqH3_self _ _ _
  have e4 : u4 D S W (([b0, b1, b2, b3, b4, b5, b6, b7, b8, b9, b10, b11, b12, b13, b14, b15, b16, b17, b18, b19, b20, b21, b22, b23, b24, b25, b26, b27, b28, b29, b30, b31] : List UInt8).map SC.u8) = true := by unfold u4; rw [e3]; exact Sp.eqH_self _
  have e5 : u5 D S W (([b0, b1, b2, b3, b4, b5, b6, b7, b8, b9, b10, b11, b12, b13, b14, b15, b16, b17, b18, b19, b20, b21, b22, b23, b24, b25, b26, b27, b28, b29, b30, b31] : List UInt8).map SC.u8) = true := by unfold u5; rw [e4]; exact Sp.eqH_self _
  have e6 : u6 D S W (([b0, b1, b2, b3, b4, b5, b6, b7, b8, b9, b10, b11, b12, b13, b14, b15, b16, b17, b18, b19, b20, b21, b22, b23, b24, b25, b26, b27, b28, b29, b30, b31] : List UInt8).map SC.u8) = true := by unfold u6; rw [e5]; exact Sp.eqH_self _
  have e7 : u7 D S W (([b0, b1, b2, b3, b4, b5, b6, b7, b8, b9, b10, b11, b12, b13, b14, b15, b16, b17, b18, b19, b20, b21, b22, b23, b24, b25, b26, b27, b28, b29, b30, b31] : List UInt8).map SC.u8) = true := by unfold u7; rw [e6]; exact Sp.eqH_self _
  refine Fn.xv (fuel := 1000) (told := [false, true, true, true, true, true, true, true]) (uL_ok hD hS hW) Sp.mixed (r := .c (.bool (bif u7 D S W (([b0, b1, b2, b3, b4, b5, b6, b7, b8, b9, b10, b11, b12, b13, b14, b15, b16, b17, b18, b19, b20, b21, b22, b23, b24, b25, b26, b27, b28, b29, b30, b31] : List UInt8).map SC.u8) then true else false))) (ob := uOb D S W (([b0, b1, b2, b3, b4, b5, b6, b7, b8, b9, b10, b11, b12, b13, b14, b15, b16, b17, b18, b19, b20, b21, b22, b23, b24, b25, b26, b27, b28, b29, b30, b31] : List UInt8).map SC.u8))
    (obs := [.agg (([b0, b1, b2, b3, b4, b5, b6, b7, b8, b9, b10, b11, b12, b13, b14, b15, b16, b17, b18, b19, b20, b21, b22, b23, b24, b25, b26, b27, b28, b29, b30, b31] : List UInt8).map SC.u8) = SV.agg (([b0, b1, b2, b3, b4, b5, b6, b7, b8, b9, b10, b11, b12, b13, b14, b15, b16, b17, b18, b19, b20, b21, b22, b23, b24, b25, b26, b27, b28, b29, b30, b31] : List UInt8).map SC.u8)]) (by kernel_rfl) ?_ ⟨rfl, trivial⟩ (by rw [e7]; rfl)
  unfold uOb
  rw [e1, e2, e3, e4, e5, e6, e7]; rfl
theorem ladderTells_fn (hs : List UInt8) (w : World) (hh : hs.length = 32) : Sx.Fn Try.prog fTells (atW w 0) [.agg (hs.map SC.u8)] [] 0 fun r _ => r = .c (.bool true) :=
  list32 (P := fun hs => Sx.Fn Try.prog fTells (atW w 0) [.agg (hs.map SC.u8)] [] 0 fun r _ => r = .c (.bool true)) (tells_at rfl rfl rfl w) hs hh

end Go.Proofs.Ytkpdkfeklecehaa.Ld
