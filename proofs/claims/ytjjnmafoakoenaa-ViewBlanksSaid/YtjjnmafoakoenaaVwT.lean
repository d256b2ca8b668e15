/-
  Who comes or goes has no nodes above that still have keys.
-/
import Derived.Test.YtjjnmafoakoenaaVwTa
import Derived.Test.YtjjnmafoakoenaaVwTb
import Derived.Test.YtjjnmafoakoenaaVwTc
import Derived.Test.YtjjnmafoakoenaaVwTd
namespace Go.Proofs.Ytjjnmafoakoenaa.Vw
open Go.RowKit Go.Proofs.Ytjjnmafoakoenaa.Sx Go.Proofs.Ytjjnmafoakoenaa.Pw
set_option linter.unusedVariables false
set_option linter.unusedSimpArgs false

theorem viewBlanks_fn (m x : Int) (t : Bool) (w : World) : Sx.Fn Try.prog 10 (atW w 0) [.c (.int m), .c (.int x), .c (.bool t)] [] 0 fun x _ => x = .c (.bool true) := by
  cases h1 : decide (m < 2) with
  | true => exact Fn.xvL (fuel := 1000) oL_ok Sp.mixed [true] (r := .c (.bool true)) (ob := tg (true) (decide (m < 2)) true) (obs := []) (by kernel_rfl) (tg_eq (rfl) h1) trivial rfl
  | false =>
  cases h2 : decide (m > 7) with
  | true => exact Fn.xvL (fuel := 1000) oL_ok Sp.mixed [false, true] (r := .c (.bool true)) (ob := tg (tg (true) (decide (m < 2)) false) (decide (m > 7)) true) (obs := []) (by kernel_rfl) (tg_eq (tg_eq (rfl) h1) h2) trivial rfl
  | false =>
  cases h3 : decide (x < 1) with
  | true => exact Fn.xvL (fuel := 1000) oL_ok Sp.mixed [false, false, true] (r := .c (.bool true)) (ob := tg (tg (tg (true) (decide (m < 2)) false) (decide (m > 7)) false) (decide (x < 1)) true) (obs := []) (by kernel_rfl) (tg_eq (tg_eq (tg_eq (rfl) h1) h2) h3) trivial rfl
  | false =>
  cases h4 : decide (x ≥ m) with
  | true => exact Fn.xvL (fuel := 1000) oL_ok Sp.mixed [false, false, false, true] (r := .c (.bool true)) (ob := ty_ (tg (tg (tg (true) (decide (m < 2)) false) (decide (m > 7)) false) (decide (x < 1)) false) (decide (x ≥ m))) (obs := []) (by kernel_rfl) (ty_eq (tg_eq (tg_eq (tg_eq (rfl) h1) h2) h3) h4) trivial rfl
  | false =>
  simp only [decide_eq_false_iff_not] at h1 h2 h3 h4
  have e_m : m = 2 ∨ m = 3 ∨ m = 4 ∨ m = 5 ∨ m = 6 ∨ m = 7 := by omega
  rcases e_m with rfl | rfl | rfl | rfl | rfl | rfl
  · have e_x : x = 1 := by omega
    subst e_x
    cases t
    · exact lit_fn blanks_2_1_false
    · exact lit_fn blanks_2_1_true
  · have e_x : x = 1 ∨ x = 2 := by omega
    rcases e_x with rfl | rfl <;> cases t
    · exact lit_fn blanks_3_1_false
    · exact lit_fn blanks_3_1_true
    · exact lit_fn blanks_3_2_false
    · exact lit_fn blanks_3_2_true
  · have e_x : x = 1 ∨ x = 2 ∨ x = 3 := by omega
    rcases e_x with rfl | rfl | rfl <;> cases t
    · exact lit_fn blanks_4_1_false
    · exact lit_fn blanks_4_1_true
    · exact lit_fn blanks_4_2_false
    · exact lit_fn blanks_4_2_true
    · exact lit_fn blanks_4_3_false
    · exact lit_fn blanks_4_3_true
  · have e_x : x = 1 ∨ x = 2 ∨ x = 3 ∨ x = 4 := by omega
    rcases e_x with rfl | rfl | rfl | rfl <;> cases t
    · exact lit_fn blanks_5_1_false
    · exact lit_fn blanks_5_1_true
    · exact lit_fn blanks_5_2_false
    · exact lit_fn blanks_5_2_true
    · exact lit_fn blanks_5_3_false
    · exact lit_fn blanks_5_3_true
    · exact lit_fn blanks_5_4_false
    · exact lit_fn blanks_5_4_true
  · have e_x : x = 1 ∨ x = 2 ∨ x = 3 ∨ x = 4 ∨ x = 5 := by omega
    rcases e_x with rfl | rfl | rfl | rfl | rfl <;> cases t
    · exact lit_fn blanks_6_1_false
    · exact lit_fn blanks_6_1_true
    · exact lit_fn blanks_6_2_false
    · exact lit_fn blanks_6_2_true
    · exact lit_fn blanks_6_3_false
    · exact lit_fn blanks_6_3_true
    · exact lit_fn blanks_6_4_false
    · exact lit_fn blanks_6_4_true
    · exact lit_fn blanks_6_5_false
    · exact lit_fn blanks_6_5_true
  · have e_x : x = 1 ∨ x = 2 ∨ x = 3 ∨ x = 4 ∨ x = 5 ∨ x = 6 := by omega
    rcases e_x with rfl | rfl | rfl | rfl | rfl | rfl <;> cases t
    · exact lit_fn blanks_7_1_false
    · exact lit_fn blanks_7_1_true
    · exact lit_fn blanks_7_2_false
    · exact lit_fn blanks_7_2_true
    · exact lit_fn blanks_7_3_false
    · exact lit_fn blanks_7_3_true
    · exact lit_fn blanks_7_4_false
    · exact lit_fn blanks_7_4_true
    · exact lit_fn blanks_7_5_false
    · exact lit_fn blanks_7_5_true
    · exact lit_fn blanks_7_6_false
    · exact lit_fn blanks_7_6_true

end Go.Proofs.Ytjjnmafoakoenaa.Vw
