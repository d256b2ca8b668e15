/-
  Places that are left and taken, computed.
-/
import Derived.Test.YtjjnmafoakoenaaVwP
namespace Go.Proofs.Ytjjnmafoakoenaa.Vw
open Go.RowKit Go.Proofs.Ytjjnmafoakoenaa.Sx Go.Proofs.Ytjjnmafoakoenaa.Pw
set_option linter.unusedVariables false
set_option linter.unusedSimpArgs false

theorem swaps_7_1_true : (xfunL Try.prog oL 1000 7 [.c (.int 7), .c (.int 1), .c (.bool true)] [] 0 []).map (fun q => (q.1, q.2.1, q.2.2.1)) = some (true, [], .c (.bool true)) := by kernel_rfl
theorem swaps_7_1_false : (xfunL Try.prog oL 1000 7 [.c (.int 7), .c (.int 1), .c (.bool false)] [] 0 []).map (fun q => (q.1, q.2.1, q.2.2.1)) = some (true, [], .c (.bool true)) := by kernel_rfl
theorem swaps_7_2_true : (xfunL Try.prog oL 1000 7 [.c (.int 7), .c (.int 2), .c (.bool true)] [] 0 []).map (fun q => (q.1, q.2.1, q.2.2.1)) = some (true, [], .c (.bool true)) := by kernel_rfl
theorem swaps_7_2_false : (xfunL Try.prog oL 1000 7 [.c (.int 7), .c (.int 2), .c (.bool false)] [] 0 []).map (fun q => (q.1, q.2.1, q.2.2.1)) = some (true, [], .c (.bool true)) := by kernel_rfl
theorem swaps_7_3_true : (xfunL Try.prog oL 1000 7 [.c (.int 7), .c (.int 3), .c (.bool true)] [] 0 []).map (fun q => (q.1, q.2.1, q.2.2.1)) = some (true, [], .c (.bool true)) := by kernel_rfl
theorem swaps_7_3_false : (xfunL Try.prog oL 1000 7 [.c (.int 7), .c (.int 3), .c (.bool false)] [] 0 []).map (fun q => (q.1, q.2.1, q.2.2.1)) = some (true, [], .c (.bool true)) := by kernel_rfl
theorem swaps_7_4_true : (xfunL Try.prog oL 1000 7 [.c (.int 7), .c (.int 4), .c (.bool true)] [] 0 []).map (fun q => (q.1, q.2.1, q.2.2.1)) = some (true, [], .c (.bool true)) := by kernel_rfl
theorem swaps_7_4_false : (xfunL Try.prog oL 1000 7 [.c (.int 7), .c (.int 4), .c (.bool false)] [] 0 []).map (fun q => (q.1, q.2.1, q.2.2.1)) = some (true, [], .c (.bool true)) := by kernel_rfl
theorem swaps_7_5_true : (xfunL Try.prog oL 1000 7 [.c (.int 7), .c (.int 5), .c (.bool true)] [] 0 []).map (fun q => (q.1, q.2.1, q.2.2.1)) = some (true, [], .c (.bool true)) := by kernel_rfl
theorem swaps_7_5_false : (xfunL Try.prog oL 1000 7 [.c (.int 7), .c (.int 5), .c (.bool false)] [] 0 []).map (fun q => (q.1, q.2.1, q.2.2.1)) = some (true, [], .c (.bool true)) := by kernel_rfl
theorem swaps_7_6_true : (xfunL Try.prog oL 1000 7 [.c (.int 7), .c (.int 6), .c (.bool true)] [] 0 []).map (fun q => (q.1, q.2.1, q.2.2.1)) = some (true, [], .c (.bool true)) := by kernel_rfl
theorem swaps_7_6_false : (xfunL Try.prog oL 1000 7 [.c (.int 7), .c (.int 6), .c (.bool false)] [] 0 []).map (fun q => (q.1, q.2.1, q.2.2.1)) = some (true, [], .c (.bool true)) := by kernel_rfl
theorem swaps_8_1_true : (xfunL Try.prog oL 1000 7 [.c (.int 8), .c (.int 1), .c (.bool true)] [] 0 []).map (fun q => (q.1, q.2.1, q.2.2.1)) = some (true, [], .c (.bool true)) := by kernel_rfl
theorem swaps_8_1_false : (xfunL Try.prog oL 1000 7 [.c (.int 8), .c (.int 1), .c (.bool false)] [] 0 []).map (fun q => (q.1, q.2.1, q.2.2.1)) = some (true, [], .c (.bool true)) := by kernel_rfl
theorem swaps_8_2_true : (xfunL Try.prog oL 1000 7 [.c (.int 8), .c (.int 2), .c (.bool true)] [] 0 []).map (fun q => (q.1, q.2.1, q.2.2.1)) = some (true, [], .c (.bool true)) := by kernel_rfl
theorem swaps_8_2_false : (xfunL Try.prog oL 1000 7 [.c (.int 8), .c (.int 2), .c (.bool false)] [] 0 []).map (fun q => (q.1, q.2.1, q.2.2.1)) = some (true, [], .c (.bool true)) := by kernel_rfl
theorem swaps_8_3_true : (xfunL Try.prog oL 1000 7 [.c (.int 8), .c (.int 3), .c (.bool true)] [] 0 []).map (fun q => (q.1, q.2.1, q.2.2.1)) = some (true, [], .c (.bool true)) := by kernel_rfl
theorem swaps_8_3_false : (xfunL Try.prog oL 1000 7 [.c (.int 8), .c (.int 3), .c (.bool false)] [] 0 []).map (fun q => (q.1, q.2.1, q.2.2.1)) = some (true, [], .c (.bool true)) := by kernel_rfl
theorem swaps_8_4_true : (xfunL Try.prog oL 1000 7 [.c (.int 8), .c (.int 4), .c (.bool true)] [] 0 []).map (fun q => (q.1, q.2.1, q.2.2.1)) = some (true, [], .c (.bool true)) := by kernel_rfl
theorem swaps_8_4_false : (xfunL Try.prog oL 1000 7 [.c (.int 8), .c (.int 4), .c (.bool false)] [] 0 []).map (fun q => (q.1, q.2.1, q.2.2.1)) = some (true, [], .c (.bool true)) := by kernel_rfl
theorem swaps_8_5_true : (xfunL Try.prog oL 1000 7 [.c (.int 8), .c (.int 5), .c (.bool true)] [] 0 []).map (fun q => (q.1, q.2.1, q.2.2.1)) = some (true, [], .c (.bool true)) := by kernel_rfl
theorem swaps_8_5_false : (xfunL Try.prog oL 1000 7 [.c (.int 8), .c (.int 5), .c (.bool false)] [] 0 []).map (fun q => (q.1, q.2.1, q.2.2.1)) = some (true, [], .c (.bool true)) := by kernel_rfl
theorem swaps_8_6_true : (xfunL Try.prog oL 1000 7 [.c (.int 8), .c (.int 6), .c (.bool true)] [] 0 []).map (fun q => (q.1, q.2.1, q.2.2.1)) = some (true, [], .c (.bool true)) := by kernel_rfl
theorem swaps_8_6_false : (xfunL Try.prog oL 1000 7 [.c (.int 8), .c (.int 6), .c (.bool false)] [] 0 []).map (fun q => (q.1, q.2.1, q.2.2.1)) = some (true, [], .c (.bool true)) := by kernel_rfl
theorem swaps_8_7_true : (xfunL Try.prog oL 1000 7 [.c (.int 8), .c (.int 7), .c (.bool true)] [] 0 []).map (fun q => (q.1, q.2.1, q.2.2.1)) = some (true, [], .c (.bool true)) := by kernel_rfl
theorem swaps_8_7_false : (xfunL Try.prog oL 1000 7 [.c (.int 8), .c (.int 7), .c (.bool false)] [] 0 []).map (fun q => (q.1, q.2.1, q.2.2.1)) = some (true, [], .c (.bool true)) := by kernel_rfl

end Go.Proofs.Ytjjnmafoakoenaa.Vw
