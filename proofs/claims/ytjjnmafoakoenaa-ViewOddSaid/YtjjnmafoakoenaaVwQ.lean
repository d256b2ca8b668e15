/-
  Odd operations are refused.
-/
import Derived.Test.YtjjnmafoakoenaaVwP
namespace Go.Proofs.Ytjjnmafoakoenaa.Vw
open Go.RowKit Go.Proofs.Ytjjnmafoakoenaa.Sx Go.Proofs.Ytjjnmafoakoenaa.Pw
set_option linter.unusedVariables false
set_option linter.unusedSimpArgs false

abbrev fOddW : Nat := 8
theorem odd_0 : (xfunL Try.prog oL 1000 fOddW [.c (.int 0)] [] 0 []).map (fun q => (q.1, q.2.1, q.2.2.1)) = some (true, [], .c (.bool true)) := by kernel_rfl
theorem odd_1 : (xfunL Try.prog oL 1000 fOddW [.c (.int 1)] [] 0 []).map (fun q => (q.1, q.2.1, q.2.2.1)) = some (true, [], .c (.bool true)) := by kernel_rfl
theorem odd_2 : (xfunL Try.prog oL 1000 fOddW [.c (.int 2)] [] 0 []).map (fun q => (q.1, q.2.1, q.2.2.1)) = some (true, [], .c (.bool true)) := by kernel_rfl
theorem odd_3 : (xfunL Try.prog oL 1000 fOddW [.c (.int 3)] [] 0 []).map (fun q => (q.1, q.2.1, q.2.2.1)) = some (true, [], .c (.bool true)) := by kernel_rfl
theorem odd_4 : (xfunL Try.prog oL 1000 fOddW [.c (.int 4)] [] 0 []).map (fun q => (q.1, q.2.1, q.2.2.1)) = some (true, [], .c (.bool true)) := by kernel_rfl
theorem odd_5 : (xfunL Try.prog oL 1000 fOddW [.c (.int 5)] [] 0 []).map (fun q => (q.1, q.2.1, q.2.2.1)) = some (true, [], .c (.bool true)) := by kernel_rfl
theorem odd_6 : (xfunL Try.prog oL 1000 fOddW [.c (.int 6)] [] 0 []).map (fun q => (q.1, q.2.1, q.2.2.1)) = some (true, [], .c (.bool true)) := by kernel_rfl
theorem odd_7 : (xfunL Try.prog oL 1000 fOddW [.c (.int 7)] [] 0 []).map (fun q => (q.1, q.2.1, q.2.2.1)) = some (true, [], .c (.bool true)) := by kernel_rfl
theorem odd_8 : (xfunL Try.prog oL 1000 fOddW [.c (.int 8)] [] 0 []).map (fun q => (q.1, q.2.1, q.2.2.1)) = some (true, [], .c (.bool true)) := by kernel_rfl
theorem odd_9 : (xfunL Try.prog oL 1000 fOddW [.c (.int 9)] [] 0 []).map (fun q => (q.1, q.2.1, q.2.2.1)) = some (true, [], .c (.bool true)) := by kernel_rfl
theorem odd_10 : (xfunL Try.prog oL 1000 fOddW [.c (.int 10)] [] 0 []).map (fun q => (q.1, q.2.1, q.2.2.1)) = some (true, [], .c (.bool true)) := by kernel_rfl
theorem odd_11 : (xfunL Try.prog oL 1000 fOddW [.c (.int 11)] [] 0 []).map (fun q => (q.1, q.2.1, q.2.2.1)) = some (true, [], .c (.bool true)) := by kernel_rfl
theorem odd_12 : (xfunL Try.prog oL 1000 fOddW [.c (.int 12)] [] 0 []).map (fun q => (q.1, q.2.1, q.2.2.1)) = some (true, [], .c (.bool true)) := by kernel_rfl
theorem odd_13 : (xfunL Try.prog oL 1000 fOddW [.c (.int 13)] [] 0 []).map (fun q => (q.1, q.2.1, q.2.2.1)) = some (true, [], .c (.bool true)) := by kernel_rfl
theorem odd_14 : (xfunL Try.prog oL 1000 fOddW [.c (.int 14)] [] 0 []).map (fun q => (q.1, q.2.1, q.2.2.1)) = some (true, [], .c (.bool true)) := by kernel_rfl
theorem odd_15 : (xfunL Try.prog oL 1000 fOddW [.c (.int 15)] [] 0 []).map (fun q => (q.1, q.2.1, q.2.2.1)) = some (true, [], .c (.bool true)) := by kernel_rfl
theorem viewOdd_fn (a : Int) (w : World) : Sx.Fn Try.prog fOddW (atW w 0) [.c (.int a)] [] 0 fun x _ => x = .c (.bool true) := by
  cases h1 : decide (a < 0) with
  | true => exact Fn.xvL (fuel := 1000) oL_ok Sp.mixed [true] (r := .c (.bool true)) (ob := tg (true) (decide (a < 0)) true) (obs := []) (by kernel_rfl) (tg_eq (rfl) h1) trivial rfl
  | false =>
  cases h2 : decide (a ≥ 16) with
  | true => exact Fn.xvL (fuel := 1000) oL_ok Sp.mixed [false, true] (r := .c (.bool true)) (ob := ty_ (tg (true) (decide (a < 0)) false) (decide (a ≥ 16))) (obs := []) (by kernel_rfl) (ty_eq (tg_eq (rfl) h1) h2) trivial rfl
  | false =>
  simp only [decide_eq_false_iff_not] at h1 h2
  have e_a : a = 0 ∨ a = 1 ∨ a = 2 ∨ a = 3 ∨ a = 4 ∨ a = 5 ∨ a = 6 ∨ a = 7 ∨ a = 8 ∨ a = 9 ∨ a = 10 ∨ a = 11 ∨ a = 12 ∨ a = 13 ∨ a = 14 ∨ a = 15 := by omega
  rcases e_a with rfl | rfl | rfl | rfl | rfl | rfl | rfl | rfl | rfl | rfl | rfl | rfl | rfl | rfl | rfl | rfl
  · exact lit_fn odd_0
  · exact lit_fn odd_1
  · exact lit_fn odd_2
  · exact lit_fn odd_3
  · exact lit_fn odd_4
  · exact lit_fn odd_5
  · exact lit_fn odd_6
  · exact lit_fn odd_7
  · exact lit_fn odd_8
  · exact lit_fn odd_9
  · exact lit_fn odd_10
  · exact lit_fn odd_11
  · exact lit_fn odd_12
  · exact lit_fn odd_13
  · exact lit_fn odd_14
  · exact lit_fn odd_15

end Go.Proofs.Ytjjnmafoakoenaa.Vw
