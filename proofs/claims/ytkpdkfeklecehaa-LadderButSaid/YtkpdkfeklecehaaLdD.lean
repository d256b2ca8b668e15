/-
  The law of who is left out.
-/
import Derived.Test.YtkpdkfeklecehaaLdC1
import Derived.Test.YtkpdkfeklecehaaLdC2
import Derived.Test.YtkpdkfeklecehaaLdC3
import Derived.Test.YtkpdkfeklecehaaLdC4
import Derived.Test.YtkpdkfeklecehaaLdC5
import Derived.Test.YtkpdkfeklecehaaLdC6
import Derived.Test.YtkpdkfeklecehaaLdC7
import Derived.Test.YtkpdkfeklecehaaLdC8
namespace Go.Proofs.Ytkpdkfeklecehaa.Ld
open Go.RowKit Go.Proofs.Ytkpdkfeklecehaa.Sx Go.Proofs.Ytkpdkfeklecehaa.Pw
set_option linter.unusedVariables false

def tg (acc c t : Bool) : Bool := bnd acc (c == t && true)
def ty_ (acc c : Bool) : Bool := bnd acc c
theorem tg_eq {acc c t : Bool} (h : acc = true) (hc : c = t) : tg acc c t = true := by subst h hc; cases c <;> rfl
theorem ty_eq {acc c : Bool} (h : acc = true) (hc : c = true) : ty_ acc c = true := by subst h hc; rfl
theorem ladderBut_fn (m l b : Int) (w : World) : Sx.Fn Try.prog fBut (atW w 0) [.c (.int m), .c (.int l), .c (.int b)] [] 0 fun r _ => r = .c (.bool true) := by
  cases h1 : decide (m < 1) with
  | true => exact Fn.xvL (fuel := 1000) (LibOK.nil _) Sp.mixed [true] (r := .c (.bool true)) (ob := tg (true) (decide (m < 1)) true) (obs := []) (by kernel_rfl) (tg_eq (rfl) h1) trivial rfl
  | false =>
  cases h2 : decide (m > 8) with
  | true => exact Fn.xvL (fuel := 1000) (LibOK.nil _) Sp.mixed [false, true] (r := .c (.bool true)) (ob := tg (tg (true) (decide (m < 1)) false) (decide (m > 8)) true) (obs := []) (by kernel_rfl) (tg_eq (tg_eq (rfl) h1) h2) trivial rfl
  | false =>
  cases h3 : decide (l < 0) with
  | true => exact Fn.xvL (fuel := 1000) (LibOK.nil _) Sp.mixed [false, false, true] (r := .c (.bool true)) (ob := tg (tg (tg (true) (decide (m < 1)) false) (decide (m > 8)) false) (decide (l < 0)) true) (obs := []) (by kernel_rfl) (tg_eq (tg_eq (tg_eq (rfl) h1) h2) h3) trivial rfl
  | false =>
  cases h4 : decide (l ≥ m) with
  | true => exact Fn.xvL (fuel := 1000) (LibOK.nil _) Sp.mixed [false, false, false, true] (r := .c (.bool true)) (ob := tg (tg (tg (tg (true) (decide (m < 1)) false) (decide (m > 8)) false) (decide (l < 0)) false) (decide (l ≥ m)) true) (obs := []) (by kernel_rfl) (tg_eq (tg_eq (tg_eq (tg_eq (rfl) h1) h2) h3) h4) trivial rfl
  | false =>
  cases h5 : decide (b < 0) with
  | true => exact Fn.xvL (fuel := 1000) (LibOK.nil _) Sp.mixed [false, false, false, false, true] (r := .c (.bool true)) (ob := tg (tg (tg (tg (tg (true) (decide (m < 1)) false) (decide (m > 8)) false) (decide (l < 0)) false) (decide (l ≥ m)) false) (decide (b < 0)) true) (obs := []) (by kernel_rfl) (tg_eq (tg_eq (tg_eq (tg_eq (tg_eq (rfl) h1) h2) h3) h4) h5) trivial rfl
  | false =>
  cases h6 : decide (b > 7) with
  | true => exact Fn.xvL (fuel := 1000) (LibOK.nil _) Sp.mixed [false, false, false, false, false, true] (r := .c (.bool true)) (ob := ty_ (tg (tg (tg (tg (tg (true) (decide (m < 1)) false) (decide (m > 8)) false) (decide (l < 0)) false) (decide (l ≥ m)) false) (decide (b < 0)) false) (decide (b > 7))) (obs := []) (by kernel_rfl) (ty_eq (tg_eq (tg_eq (tg_eq (tg_eq (tg_eq (rfl) h1) h2) h3) h4) h5) h6) trivial rfl
  | false =>
  simp only [decide_eq_false_iff_not] at h1 h2 h3 h4 h5 h6
  have h : m = 1 ∨ m = 2 ∨ m = 3 ∨ m = 4 ∨ m = 5 ∨ m = 6 ∨ m = 7 ∨ m = 8 := by omega
  rcases h with rfl | rfl | rfl | rfl | rfl | rfl | rfl | rfl
  · exact but_1 w l b (by omega) (by omega) (by omega) (by omega)
  · exact but_2 w l b (by omega) (by omega) (by omega) (by omega)
  · exact but_3 w l b (by omega) (by omega) (by omega) (by omega)
  · exact but_4 w l b (by omega) (by omega) (by omega) (by omega)
  · exact but_5 w l b (by omega) (by omega) (by omega) (by omega)
  · exact but_6 w l b (by omega) (by omega) (by omega) (by omega)
  · exact but_7 w l b (by omega) (by omega) (by omega) (by omega)
  · exact but_8 w l b (by omega) (by omega) (by omega) (by omega)

end Go.Proofs.Ytkpdkfeklecehaa.Ld
