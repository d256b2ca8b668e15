/-
  The law of full trees.
-/
import Derived.Test.YtkpdkfeklecehaaLdF1
import Derived.Test.YtkpdkfeklecehaaLdF2
import Derived.Test.YtkpdkfeklecehaaLdF3
import Derived.Test.YtkpdkfeklecehaaLdF4
import Derived.Test.YtkpdkfeklecehaaLdF5
import Derived.Test.YtkpdkfeklecehaaLdF6
import Derived.Test.YtkpdkfeklecehaaLdF7
import Derived.Test.YtkpdkfeklecehaaLdF8
namespace Go.Proofs.Ytkpdkfeklecehaa.Ld
open Go.RowKit Go.Proofs.Ytkpdkfeklecehaa.Sx Go.Proofs.Ytkpdkfeklecehaa.Pw
set_option linter.unusedVariables false

def q3 (x g acc : Bool) : Bool := bnd (bnd (bnd acc (x == g && true)) (x == g && true)) (x == g && true)
def q2 (x g acc : Bool) : Bool := bnd (bnd acc (x == g && true)) (x == g && true)
def d1 (m : Int) : Bool := decide (m < 1)
def d2 (m : Int) : Bool := bif d1 m then true else decide (m > 8)
def d3 (m l : Int) : Bool := bif d2 m then true else decide (l < 0)
def d4 (m l : Int) : Bool := bif d3 m l then true else decide (l ≥ m)
theorem ladderFull_fn (m l : Int) (n : Bool) (w : World) : Sx.Fn Try.prog fFull (atW w 0) [.c (.int m), .c (.int l), .c (.bool n)] [] 0 fun r _ => r = .c (.bool true) := by
  cases h1 : d1 m with
  | true => exact Fn.xv (fuel := 1000) (told := [true]) (LibOK.nil _) Sp.mixed (r := .c (.bool true)) (ob := bnd (q2 (d1 m) true true) (d1 m)) (obs := []) (by kernel_rfl) (by rw [h1]; rfl) trivial rfl
  | false =>
  cases h2 : d2 m with
  | true => exact Fn.xv (fuel := 1000) (told := [false, true]) (LibOK.nil _) Sp.mixed (r := .c (.bool true)) (ob := bnd (q2 (d2 m) true (q2 (d1 m) false true)) (d2 m)) (obs := []) (by kernel_rfl) (by rw [h1, h2]; rfl) trivial rfl
  | false =>
  cases h3 : d3 m l with
  | true => exact Fn.xv (fuel := 1000) (told := [false, false, true]) (LibOK.nil _) Sp.mixed (r := .c (.bool true)) (ob := bnd (q3 (d3 m l) true (q2 (d2 m) false (q2 (d1 m) false true))) (d3 m l)) (obs := []) (by kernel_rfl) (by rw [h1, h2, h3]; rfl) trivial rfl
  | false =>
  cases h4 : d4 m l with
  | true => exact Fn.xv (fuel := 1000) (told := [false, false, false, true]) (LibOK.nil _) Sp.mixed (r := .c (.bool true)) (ob := bnd (q3 (d3 m l) false (q2 (d2 m) false (q2 (d1 m) false true))) (d4 m l)) (obs := []) (by kernel_rfl) (by rw [h1, h2, h3, h4]; rfl) trivial rfl
  | false =>
  have hb : 1 ≤ m ∧ m ≤ 8 ∧ 0 ≤ l ∧ l < m := by
    have e1 := h1
    have e2 := h2
    have e3 := h3
    have e4 := h4
    unfold d4 at e4
    rw [h3, cond_false, decide_eq_false_iff_not] at e4
    unfold d3 at e3
    rw [h2, cond_false, decide_eq_false_iff_not] at e3
    unfold d2 at e2
    rw [h1, cond_false, decide_eq_false_iff_not] at e2
    unfold d1 at e1
    rw [decide_eq_false_iff_not] at e1
    omega
  obtain ⟨b1, b2, b3, b4⟩ := hb
  have h : m = 1 ∨ m = 2 ∨ m = 3 ∨ m = 4 ∨ m = 5 ∨ m = 6 ∨ m = 7 ∨ m = 8 := by omega
  rcases h with rfl | rfl | rfl | rfl | rfl | rfl | rfl | rfl
  · exact full_1 w l b3 b4 n
  · exact full_2 w l b3 b4 n
  · exact full_3 w l b3 b4 n
  · exact full_4 w l b3 b4 n
  · exact full_5 w l b3 b4 n
  · exact full_6 w l b3 b4 n
  · exact full_7 w l b3 b4 n
  · exact full_8 w l b3 b4 n

end Go.Proofs.Ytkpdkfeklecehaa.Ld
