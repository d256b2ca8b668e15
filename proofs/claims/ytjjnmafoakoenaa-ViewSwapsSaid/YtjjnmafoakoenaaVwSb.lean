/-
  Places that are left and taken, computed.
-/
import Derived.Test.YtjjnmafoakoenaaVwP
namespace Go.Proofs.Ytjjnmafoakoenaa.Vw
open Go.RowKit Go.Proofs.Ytjjnmafoakoenaa.Sx Go.Proofs.Ytjjnmafoakoenaa.Pw
set_option linter.unusedVariables false
set_option linter.unusedSimpArgs false

theorem swaps_2_1_true : (xfunL Try.prog oL 1000 7 [.c (.int 2), .c (.int 1), .c (.bool true)] [] 0 []).map (fun q => (q.1, q.2.1, q.2.2.1)) = some (true, [], .c (.bool true)) := by kernel_rfl
theorem swaps_2_1_false : (xfunL Try.prog oL 1000 7 [.c (.int 2), .c (.int 1), .c (.bool false)] [] 0 []).map (fun q => (q.1, q.2.1, q.2.2.1)) = some (true, [], .c (.bool true)) := by kernel_rfl
theorem swaps_3_1_true : (xfunL Try.prog oL 1000 7 [.c (.int 3), .c (.int 1), .c (.bool true)] [] 0 []).map (fun q => (q.1, q.2.1, q.2.2.1)) = some (true, [], .c (.bool true)) := by kernel_rfl
theorem swaps_3_1_false : (xfunL Try.prog oL 1000 7 [.c (.int 3), .c (.int 1), .c (.bool false)] [] 0 []).map (fun q => (q.1, q.2.1, q.2.2.1)) = some (true, [], .c (.bool true)) := by kernel_rfl
theorem swaps_3_2_true : (xfunL Try.prog oL 1000 7 [.c (.int 3), .c (.int 2), .c (.bool true)] [] 0 []).map (fun q => (q.1, q.2.1, q.2.2.1)) = some (true, [], .c (.bool true)) := by kernel_rfl
theorem swaps_3_2_false : (xfunL Try.prog oL 1000 7 [.c (.int 3), .c (.int 2), .c (.bool false)] [] 0 []).map (fun q => (q.1, q.2.1, q.2.2.1)) = some (true, [], .c (.bool true)) := by kernel_rfl
theorem swaps_4_1_true : (xfunL Try.prog oL 1000 7 [.c (.int 4), .c (.int 1), .c (.bool true)] [] 0 []).map (fun q => (q.1, q.2.1, q.2.2.1)) = some (true, [], .c (.bool true)) := by kernel_rfl
theorem swaps_4_1_false : (xfunL Try.prog oL 1000 7 [.c (.int 4), .c (.int 1), .c (.bool false)] [] 0 []).map (fun q => (q.1, q.2.1, q.2.2.1)) = some (true, [], .c (.bool true)) := by kernel_rfl
theorem swaps_4_2_true : (xfunL Try.prog oL 1000 7 [.c (.int 4), .c (.int 2), .c (.bool true)] [] 0 []).map (fun q => (q.1, q.2.1, q.2.2.1)) = some (true, [], .c (.bool true)) := by kernel_rfl
theorem swaps_4_2_false : (xfunL Try.prog oL 1000 7 [.c (.int 4), .c (.int 2), .c (.bool false)] [] 0 []).map (fun q => (q.1, q.2.1, q.2.2.1)) = some (true, [], .c (.bool true)) := by kernel_rfl
theorem swaps_4_3_true : (xfunL Try.prog oL 1000 7 [.c (.int 4), .c (.int 3), .c (.bool true)] [] 0 []).map (fun q => (q.1, q.2.1, q.2.2.1)) = some (true, [], .c (.bool true)) := by kernel_rfl
theorem swaps_4_3_false : (xfunL Try.prog oL 1000 7 [.c (.int 4), .c (.int 3), .c (.bool false)] [] 0 []).map (fun q => (q.1, q.2.1, q.2.2.1)) = some (true, [], .c (.bool true)) := by kernel_rfl
theorem swaps_5_1_true : (xfunL Try.prog oL 1000 7 [.c (.int 5), .c (.int 1), .c (.bool true)] [] 0 []).map (fun q => (q.1, q.2.1, q.2.2.1)) = some (true, [], .c (.bool true)) := by kernel_rfl
theorem swaps_5_1_false : (xfunL Try.prog oL 1000 7 [.c (.int 5), .c (.int 1), .c (.bool false)] [] 0 []).map (fun q => (q.1, q.2.1, q.2.2.1)) = some (true, [], .c (.bool true)) := by kernel_rfl
theorem swaps_5_2_true : (xfunL Try.prog oL 1000 7 [.c (.int 5), .c (.int 2), .c (.bool true)] [] 0 []).map (fun q => (q.1, q.2.1, q.2.2.1)) = some (true, [], .c (.bool true)) := by kernel_rfl
theorem swaps_5_2_false : (xfunL Try.prog oL 1000 7 [.c (.int 5), .c (.int 2), .c (.bool false)] [] 0 []).map (fun q => (q.1, q.2.1, q.2.2.1)) = some (true, [], .c (.bool true)) := by kernel_rfl
theorem swaps_5_3_true : (xfunL Try.prog oL 1000 7 [.c (.int 5), .c (.int 3), .c (.bool true)] [] 0 []).map (fun q => (q.1, q.2.1, q.2.2.1)) = some (true, [], .c (.bool true)) := by kernel_rfl
theorem swaps_5_3_false : (xfunL Try.prog oL 1000 7 [.c (.int 5), .c (.int 3), .c (.bool false)] [] 0 []).map (fun q => (q.1, q.2.1, q.2.2.1)) = some (true, [], .c (.bool true)) := by kernel_rfl
theorem swaps_5_4_true : (xfunL Try.prog oL 1000 7 [.c (.int 5), .c (.int 4), .c (.bool true)] [] 0 []).map (fun q => (q.1, q.2.1, q.2.2.1)) = some (true, [], .c (.bool true)) := by kernel_rfl
theorem swaps_5_4_false : (xfunL Try.prog oL 1000 7 [.c (.int 5), .c (.int 4), .c (.bool false)] [] 0 []).map (fun q => (q.1, q.2.1, q.2.2.1)) = some (true, [], .c (.bool true)) := by kernel_rfl
theorem swaps_6_1_true : (xfunL Try.prog oL 1000 7 [.c (.int 6), .c (.int 1), .c (.bool true)] [] 0 []).map (fun q => (q.1, q.2.1, q.2.2.1)) = some (true, [], .c (.bool true)) := by kernel_rfl
theorem swaps_6_1_false : (xfunL Try.prog oL 1000 7 [.c (.int 6), .c (.int 1), .c (.bool false)] [] 0 []).map (fun q => (q.1, q.2.1, q.2.2.1)) = some (true, [], .c (.bool true)) := by kernel_rfl
theorem swaps_6_2_true : (xfunL Try.prog oL 1000 7 [.c (.int 6), .c (.int 2), .c (.bool true)] [] 0 []).map (fun q => (q.1, q.2.1, q.2.2.1)) = some (true, [], .c (.bool true)) := by kernel_rfl
theorem swaps_6_2_false : (xfunL Try.prog oL 1000 7 [.c (.int 6), .c (.int 2), .c (.bool false)] [] 0 []).map (fun q => (q.1, q.2.1, q.2.2.1)) = some (true, [], .c (.bool true)) := by kernel_rfl
theorem swaps_6_3_true : (xfunL Try.prog oL 1000 7 [.c (.int 6), .c (.int 3), .c (.bool true)] [] 0 []).map (fun q => (q.1, q.2.1, q.2.2.1)) = some (true, [], .c (.bool true)) := by kernel_rfl
theorem swaps_6_3_false : (xfunL Try.prog oL 1000 7 [.c (.int 6), .c (.int 3), .c (.bool false)] [] 0 []).map (fun q => (q.1, q.2.1, q.2.2.1)) = some (true, [], .c (.bool true)) := by kernel_rfl
theorem swaps_6_4_true : (xfunL Try.prog oL 1000 7 [.c (.int 6), .c (.int 4), .c (.bool true)] [] 0 []).map (fun q => (q.1, q.2.1, q.2.2.1)) = some (true, [], .c (.bool true)) := by kernel_rfl
theorem swaps_6_4_false : (xfunL Try.prog oL 1000 7 [.c (.int 6), .c (.int 4), .c (.bool false)] [] 0 []).map (fun q => (q.1, q.2.1, q.2.2.1)) = some (true, [], .c (.bool true)) := by kernel_rfl
theorem swaps_6_5_true : (xfunL Try.prog oL 1000 7 [.c (.int 6), .c (.int 5), .c (.bool true)] [] 0 []).map (fun q => (q.1, q.2.1, q.2.2.1)) = some (true, [], .c (.bool true)) := by kernel_rfl
theorem swaps_6_5_false : (xfunL Try.prog oL 1000 7 [.c (.int 6), .c (.int 5), .c (.bool false)] [] 0 []).map (fun q => (q.1, q.2.1, q.2.2.1)) = some (true, [], .c (.bool true)) := by kernel_rfl

end Go.Proofs.Ytjjnmafoakoenaa.Vw
