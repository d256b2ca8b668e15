/-
  The law of the secrets that follow from one above.
-/
import Derived.Test.YtkpdkfeklecehaaLdH
namespace Go.Proofs.Ytkpdkfeklecehaa.Ld
open Go.RowKit Go.Proofs.Ytkpdkfeklecehaa.Sx Go.Proofs.Ytkpdkfeklecehaa.Pw
set_option linter.unusedVariables false

abbrev fClimbs : Nat := 7
section
variable (D : DT) (S : List SC → Int) (W : Int → Int → Int) (cs : List SC)
def cY (n : Sp.H4) : Int := W 4 (S (Sp.hc (dv D (Sp.hc n) nodeT)))
def cA (n : Sp.H4) : Bool := !(Sp.eqH n n)
def cB (n : Sp.H4) : Bool := bif cA n then true else false
def cC (n : Sp.H4) : Bool := bif cB n then true else !(cY D S W n == cY D S W n)
def cR (n : Sp.H4) (acc : Bool) : Bool := bnd (hN (cB n) 9 (hN (cA n) 3 acc)) (!cC D S W n)
def cP (n : Sp.H4) : Prop := SV.agg (Sp.hc n) = SV.agg (Sp.hc n)
theorem cR_eq (n : Sp.H4) (acc : Bool) : cR D S W n acc = acc := by
  have e1 : cA n = false := by unfold cA; rw [Sp.eqH_self]; rfl
  have e2 : cB n = false := by unfold cB; rw [e1]; rfl
  have e3 : cC D S W n = false := by unfold cC; rw [e2]; simp
  unfold cR
  rw [e1, e2, e3]
  simp [hN, bnd]
end
theorem climbs_0 {D : DT} {S : List SC → Int} {W : Int → Int → Int} (hD : D = Sp.deriveS) (hS : S = scalS) (hW : W = powS) (w : World) (b0 b1 b2 b3 b4 b5 b6 b7 b8 b9 b10 b11 b12 b13 b14 b15 b16 b17 b18 b19 b20 b21 b22 b23 b24 b25 b26 b27 b28 b29 b30 b31 : UInt8) : Sx.Fn Try.prog fClimbs (atW w 0) [.agg (([b0, b1, b2, b3, b4, b5, b6, b7, b8, b9, b10, b11, b12, b13, b14, b15, b16, b17, b18, b19, b20, b21, b22, b23, b24, b25, b26, b27, b28, b29, b30, b31] : List UInt8).map SC.u8), .c (.int 0)] [] 0 fun r _ => r = .c (.bool true) := by
  refine Fn.xv (fuel := 1000) (told := [false, false, true, false, false, false, true, false, false, false, true, false, false, false, false, true]) (uL_ok hD hS hW) Sp.mixed (r := .c (.bool (bif Sp.eqH (n4 D (([b0, b1, b2, b3, b4, b5, b6, b7, b8, b9, b10, b11, b12, b13, b14, b15, b16, b17, b18, b19, b20, b21, b22, b23, b24, b25, b26, b27, b28, b29, b30, b31] : List UInt8).map SC.u8)) (n4 D (([b0, b1, b2, b3, b4, b5, b6, b7, b8, b9, b10, b11, b12, b13, b14, b15, b16, b17, b18, b19, b20, b21, b22, b23, b24, b25, b26, b27, b28, b29, b30, b31] : List UInt8).map SC.u8)) then true else false))) (ob := gN (Sp.eqH (n4 D (([b0, b1, b2, b3, b4, b5, b6, b7, b8, b9, b10, b11, b12, b13, b14, b15, b16, b17, b18, b19, b20, b21, b22, b23, b24, b25, b26, b27, b28, b29, b30, b31] : List UInt8).map SC.u8)) (n4 D (([b0, b1, b2, b3, b4, b5, b6, b7, b8, b9, b10, b11, b12, b13, b14, b15, b16, b17, b18, b19, b20, b21, b22, b23, b24, b25, b26, b27, b28, b29, b30, b31] : List UInt8).map SC.u8))) 1 (cR D S W (n3 D (([b0, b1, b2, b3, b4, b5, b6, b7, b8, b9, b10, b11, b12, b13, b14, b15, b16, b17, b18, b19, b20, b21, b22, b23, b24, b25, b26, b27, b28, b29, b30, b31] : List UInt8).map SC.u8)) (cR D S W (n2 D (([b0, b1, b2, b3, b4, b5, b6, b7, b8, b9, b10, b11, b12, b13, b14, b15, b16, b17, b18, b19, b20, b21, b22, b23, b24, b25, b26, b27, b28, b29, b30, b31] : List UInt8).map SC.u8)) (cR D S W (n1 D (([b0, b1, b2, b3, b4, b5, b6, b7, b8, b9, b10, b11, b12, b13, b14, b15, b16, b17, b18, b19, b20, b21, b22, b23, b24, b25, b26, b27, b28, b29, b30, b31] : List UInt8).map SC.u8)) (true)))))
    (obs := [cP (n3 D (([b0, b1, b2, b3, b4, b5, b6, b7, b8, b9, b10, b11, b12, b13, b14, b15, b16, b17, b18, b19, b20, b21, b22, b23, b24, b25, b26, b27, b28, b29, b30, b31] : List UInt8).map SC.u8)), cP (n2 D (([b0, b1, b2, b3, b4, b5, b6, b7, b8, b9, b10, b11, b12, b13, b14, b15, b16, b17, b18, b19, b20, b21, b22, b23, b24, b25, b26, b27, b28, b29, b30, b31] : List UInt8).map SC.u8)), cP (n1 D (([b0, b1, b2, b3, b4, b5, b6, b7, b8, b9, b10, b11, b12, b13, b14, b15, b16, b17, b18, b19, b20, b21, b22, b23, b24, b25, b26, b27, b28, b29, b30, b31] : List UInt8).map SC.u8))]) (by kernel_rfl) ?_ ⟨rfl, rfl, rfl, trivial⟩ (by rw [Sp.eqH_self]; rfl)
  rw [Sp.eqH_self]
  simp only [cR_eq]; rfl
theorem climbs_1 {D : DT} {S : List SC → Int} {W : Int → Int → Int} (hD : D = Sp.deriveS) (hS : S = scalS) (hW : W = powS) (w : World) (b0 b1 b2 b3 b4 b5 b6 b7 b8 b9 b10 b11 b12 b13 b14 b15 b16 b17 b18 b19 b20 b21 b22 b23 b24 b25 b26 b27 b28 b29 b30 b31 : UInt8) : Sx.Fn Try.prog fClimbs (atW w 0) [.agg (([b0, b1, b2, b3, b4, b5, b6, b7, b8, b9, b10, b11, b12, b13, b14, b15, b16, b17, b18, b19, b20, b21, b22, b23, b24, b25, b26, b27, b28, b29, b30, b31] : List UInt8).map SC.u8), .c (.int 1)] [] 0 fun r _ => r = .c (.bool true) := by
  refine Fn.xv (fuel := 1000) (told := [false, false, true, false, false, false, true, false, false, false, false, true]) (uL_ok hD hS hW) Sp.mixed (r := .c (.bool (bif Sp.eqH (n4 D (([b0, b1, b2, b3, b4, b5, b6, b7, b8, b9, b10, b11, b12, b13, b14, b15, b16, b17, b18, b19, b20, b21, b22, b23, b24, b25, b26, b27, b28, b29, b30, b31] : List UInt8).map SC.u8)) (n4 D (([b0, b1, b2, b3, b4, b5, b6, b7, b8, b9, b10, b11, b12, b13, b14, b15, b16, b17, b18, b19, b20, b21, b22, b23, b24, b25, b26, b27, b28, b29, b30, b31] : List UInt8).map SC.u8)) then true else false))) (ob := gN (Sp.eqH (n4 D (([b0, b1, b2, b3, b4, b5, b6, b7, b8, b9, b10, b11, b12, b13, b14, b15, b16, b17, b18, b19, b20, b21, b22, b23, b24, b25, b26, b27, b28, b29, b30, b31] : List UInt8).map SC.u8)) (n4 D (([b0, b1, b2, b3, b4, b5, b6, b7, b8, b9, b10, b11, b12, b13, b14, b15, b16, b17, b18, b19, b20, b21, b22, b23, b24, b25, b26, b27, b28, b29, b30, b31] : List UInt8).map SC.u8))) 1 (cR D S W (n3 D (([b0, b1, b2, b3, b4, b5, b6, b7, b8, b9, b10, b11, b12, b13, b14, b15, b16, b17, b18, b19, b20, b21, b22, b23, b24, b25, b26, b27, b28, b29, b30, b31] : List UInt8).map SC.u8)) (cR D S W (n2 D (([b0, b1, b2, b3, b4, b5, b6, b7, b8, b9, b10, b11, b12, b13, b14, b15, b16, b17, b18, b19, b20, b21, b22, b23, b24, b25, b26, b27, b28, b29, b30, b31] : List UInt8).map SC.u8)) (true))))
    (obs := [cP (n3 D (([b0, b1, b2, b3, b4, b5, b6, b7, b8, b9, b10, b11, b12, b13, b14, b15, b16, b17, b18, b19, b20, b21, b22, b23, b24, b25, b26, b27, b28, b29, b30, b31] : List UInt8).map SC.u8)), cP (n2 D (([b0, b1, b2, b3, b4, b5, b6, b7, b8, b9, b10, b11, b12, b13, b14, b15, b16, b17, b18, b19, b20, b21, b22, b23, b24, b25, b26, b27, b28, b29, b30, b31] : List UInt8).map SC.u8))]) (by kernel_rfl) ?_ ⟨rfl, rfl, trivial⟩ (by rw [Sp.eqH_self]; rfl)
  rw [Sp.eqH_self]
  simp only [cR_eq]; rfl
theorem climbs_2 {D : DT} {S : List SC → Int} {W : Int → Int → Int} (hD : D = Sp.deriveS) (hS : S = scalS) (hW : W = powS) (w : World) (b0 b1 b2 b3 b4 b5 b6 b7 b8 b9 b10 b11 b12 b13 b14 b15 b16 b17 b18 b19 b20 b21 b22 b23 b24 b25 b26 b27 b28 b29 b30 b31 : UInt8) : Sx.Fn Try.prog fClimbs (atW w 0) [.agg (([b0, b1, b2, b3, b4, b5, b6, b7, b8, b9, b10, b11, b12, b13, b14, b15, b16, b17, b18, b19, b20, b21, b22, b23, b24, b25, b26, b27, b28, b29, b30, b31] : List UInt8).map SC.u8), .c (.int 2)] [] 0 fun r _ => r = .c (.bool true) := by
  refine Fn.xv (fuel := 1000) (told := [false, false, true, false, false, false, false, true]) (uL_ok hD hS hW) Sp.mixed (r := .c (.bool (bif Sp.eqH (n4 D (([b0, b1, b2, b3, b4, b5, b6, b7, b8, b9, b10, b11, b12, b13, b14, b15, b16, b17, b18, b19, b20, b21, b22, b23, b24, b25, b26, b27, b28, b29, b30, b31] : List UInt8).map SC.u8)) (n4 D (([b0, b1, b2, b3, b4, b5, b6, b7, b8, b9, b10, b11, b12, b13, b14, b15, b16, b17, b18, b19, b20, b21, b22, b23, b24, b25, b26, b27, b28, b29, b30, b31] : List UInt8).map SC.u8)) then true else false))) (ob := gN (Sp.eqH (n4 D (([b0, b1, b2, b3, b4, b5, b6, b7, b8, b9, b10, b11, b12, b13, b14, b15, b16, b17, b18, b19, b20, b21, b22, b23, b24, b25, b26, b27, b28, b29, b30, b31] : List UInt8).map SC.u8)) (n4 D (([b0, b1, b2, b3, b4, b5, b6, b7, b8, b9, b10, b11, b12, b13, b14, b15, b16, b17, b18, b19, b20, b21, b22, b23, b24, b25, b26, b27, b28, b29, b30, b31] : List UInt8).map SC.u8))) 1 (cR D S W (n3 D (([b0, b1, b2, b3, b4, b5, b6, b7, b8, b9, b10, b11, b12, b13, b14, b15, b16, b17, b18, b19, b20, b21, b22, b23, b24, b25, b26, b27, b28, b29, b30, b31] : List UInt8).map SC.u8)) (true)))
    (obs := [cP (n3 D (([b0, b1, b2, b3, b4, b5, b6, b7, b8, b9, b10, b11, b12, b13, b14, b15, b16, b17, b18, b19, b20, b21, b22, b23, b24, b25, b26, b27, b28, b29, b30, b31] : List UInt8).map SC.u8))]) (by kernel_rfl) ?_ ⟨rfl, trivial⟩ (by rw [Sp.eqH_self]; rfl)
  rw [Sp.eqH_self]
  simp only [cR_eq]; rfl
theorem ladderClimbs_fn (hs : List UInt8) (i : Int) (w : World) (hh : hs.length = 32) : Sx.Fn Try.prog fClimbs (atW w 0) [.agg (hs.map SC.u8), .c (.int i)] [] 0 fun r _ => r = .c (.bool true) := by
  by_cases hA : i < 0
  · exact Fn.xv (fuel := 1000) (told := [true]) (LibOK.nil _) Sp.mixed (r := .c (.bool true)) (ob := bnd (gN (decide (i < 0)) 2 true) (decide (i < 0))) (obs := []) (by kernel_rfl) (by rw [decide_eq_true hA]; rfl) trivial rfl
  by_cases hB : i > 2
  · exact Fn.xv (fuel := 1000) (told := [false, true]) (LibOK.nil _) Sp.mixed (r := .c (.bool true)) (ob := bnd (hN (decide (i < 0)) 2 true) (bif decide (i < 0) then true else decide (i > 2))) (obs := []) (by kernel_rfl) (by rw [decide_eq_false hA, decide_eq_true hB]; rfl) trivial rfl
  have h : i = 0 ∨ i = 1 ∨ i = 2 := by omega
  refine list32 (P := fun hs => Sx.Fn Try.prog fClimbs (atW w 0) [.agg (hs.map SC.u8), .c (.int i)] [] 0 fun r _ => r = .c (.bool true)) ?_ hs hh
  rcases h with rfl | rfl | rfl
  · exact climbs_0 rfl rfl rfl w
  · exact climbs_1 rfl rfl rfl w
  · exact climbs_2 rfl rfl rfl w

end Go.Proofs.Ytkpdkfeklecehaa.Ld
