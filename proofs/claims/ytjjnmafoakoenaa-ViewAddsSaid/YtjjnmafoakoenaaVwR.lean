/-
  Who is added has the first free place.
-/
import Derived.Test.YtjjnmafoakoenaaVwRa
import Derived.Test.YtjjnmafoakoenaaVwRb
import Derived.Test.YtjjnmafoakoenaaVwRc
import Derived.Test.YtjjnmafoakoenaaVwRd
namespace Go.Proofs.Ytjjnmafoakoenaa.Vw
open Go.RowKit Go.Proofs.Ytjjnmafoakoenaa.Sx Go.Proofs.Ytjjnmafoakoenaa.Pw
set_option linter.unusedVariables false
set_option linter.unusedSimpArgs false

theorem viewAdds_fn (m n : Int) (w : World) : Sx.Fn Try.prog 6 (atW w 0) [.c (.int m), .c (.int n)] [] 0 fun x _ => x = .c (.bool true) := by
  cases h1 : decide (m < 1) with
  | true => exact Fn.xvL (fuel := 1000) oL_ok Sp.mixed [true] (r := .c (.bool true)) (ob := tg (true) (decide (m < 1)) true) (obs := []) (by kernel_rfl) (tg_eq (rfl) h1) trivial rfl
  | false =>
  cases h2 : decide (m > 8) with
  | true => exact Fn.xvL (fuel := 1000) oL_ok Sp.mixed [false, true] (r := .c (.bool true)) (ob := tg (tg (true) (decide (m < 1)) false) (decide (m > 8)) true) (obs := []) (by kernel_rfl) (tg_eq (tg_eq (rfl) h1) h2) trivial rfl
  | false =>
  cases h3 : decide (n < 0) with
  | true => exact Fn.xvL (fuel := 1000) oL_ok Sp.mixed [false, false, true] (r := .c (.bool true)) (ob := tg (tg (tg (true) (decide (m < 1)) false) (decide (m > 8)) false) (decide (n < 0)) true) (obs := []) (by kernel_rfl) (tg_eq (tg_eq (tg_eq (rfl) h1) h2) h3) trivial rfl
  | false =>
  cases h4 : decide (n > 4) with
  | true => exact Fn.xvL (fuel := 1000) oL_ok Sp.mixed [false, false, false, true] (r := .c (.bool true)) (ob := ty_ (tg (tg (tg (true) (decide (m < 1)) false) (decide (m > 8)) false) (decide (n < 0)) false) (decide (n > 4))) (obs := []) (by kernel_rfl) (ty_eq (tg_eq (tg_eq (tg_eq (rfl) h1) h2) h3) h4) trivial rfl
  | false =>
  simp only [decide_eq_false_iff_not] at h1 h2 h3 h4
  have e_m : m = 1 ∨ m = 2 ∨ m = 3 ∨ m = 4 ∨ m = 5 ∨ m = 6 ∨ m = 7 ∨ m = 8 := by omega
  have e_n : n = 0 ∨ n = 1 ∨ n = 2 ∨ n = 3 ∨ n = 4 := by omega
  rcases e_m with rfl | rfl | rfl | rfl | rfl | rfl | rfl | rfl <;> rcases e_n with rfl | rfl | rfl | rfl | rfl
  · exact lit_fn adds_1_0
  · exact lit_fn adds_1_1
  · exact lit_fn adds_1_2
  · exact lit_fn adds_1_3
  · exact lit_fn adds_1_4
  · exact lit_fn adds_2_0
  · exact lit_fn adds_2_1
  · exact lit_fn adds_2_2
  · exact lit_fn adds_2_3
  · exact lit_fn adds_2_4
  · exact lit_fn adds_3_0
  · exact lit_fn adds_3_1
  · exact lit_fn adds_3_2
  · exact lit_fn adds_3_3
  · exact lit_fn adds_3_4
  · exact lit_fn adds_4_0
  · exact lit_fn adds_4_1
  · exact lit_fn adds_4_2
  · exact lit_fn adds_4_3
  · exact lit_fn adds_4_4
  · exact lit_fn adds_5_0
  · exact lit_fn adds_5_1
  · exact lit_fn adds_5_2
  · exact lit_fn adds_5_3
  · exact lit_fn adds_5_4
  · exact lit_fn adds_6_0
  · exact lit_fn adds_6_1
  · exact lit_fn adds_6_2
  · exact lit_fn adds_6_3
  · exact lit_fn adds_6_4
  · exact lit_fn adds_7_0
  · exact lit_fn adds_7_1
  · exact lit_fn adds_7_2
  · exact lit_fn adds_7_3
  · exact lit_fn adds_7_4
  · exact lit_fn adds_8_0
  · exact lit_fn adds_8_1
  · exact lit_fn adds_8_2
  · exact lit_fn adds_8_3
  · exact lit_fn adds_8_4

end Go.Proofs.Ytjjnmafoakoenaa.Vw
