/-
  Nodes above who comes or goes, computed.
-/
import Derived.Test.YtjjnmafoakoenaaVwP
namespace Go.Proofs.Ytjjnmafoakoenaa.Vw
open Go.RowKit Go.Proofs.Ytjjnmafoakoenaa.Sx Go.Proofs.Ytjjnmafoakoenaa.Pw
set_option linter.unusedVariables false
set_option linter.unusedSimpArgs false

theorem blanks_2_1_false : (xfunL Try.prog oL 1000 10 [.c (.int 2), .c (.int 1), .c (.bool false)] [] 0 []).map (fun q => (q.1, q.2.1, q.2.2.1)) = some (true, [], .c (.bool true)) := by kernel_rfl
theorem blanks_3_2_false : (xfunL Try.prog oL 1000 10 [.c (.int 3), .c (.int 2), .c (.bool false)] [] 0 []).map (fun q => (q.1, q.2.1, q.2.2.1)) = some (true, [], .c (.bool true)) := by kernel_rfl
theorem blanks_4_2_false : (xfunL Try.prog oL 1000 10 [.c (.int 4), .c (.int 2), .c (.bool false)] [] 0 []).map (fun q => (q.1, q.2.1, q.2.2.1)) = some (true, [], .c (.bool true)) := by kernel_rfl
theorem blanks_5_1_false : (xfunL Try.prog oL 1000 10 [.c (.int 5), .c (.int 1), .c (.bool false)] [] 0 []).map (fun q => (q.1, q.2.1, q.2.2.1)) = some (true, [], .c (.bool true)) := by kernel_rfl
theorem blanks_5_3_false : (xfunL Try.prog oL 1000 10 [.c (.int 5), .c (.int 3), .c (.bool false)] [] 0 []).map (fun q => (q.1, q.2.1, q.2.2.1)) = some (true, [], .c (.bool true)) := by kernel_rfl
theorem blanks_6_1_false : (xfunL Try.prog oL 1000 10 [.c (.int 6), .c (.int 1), .c (.bool false)] [] 0 []).map (fun q => (q.1, q.2.1, q.2.2.1)) = some (true, [], .c (.bool true)) := by kernel_rfl
theorem blanks_6_3_false : (xfunL Try.prog oL 1000 10 [.c (.int 6), .c (.int 3), .c (.bool false)] [] 0 []).map (fun q => (q.1, q.2.1, q.2.2.1)) = some (true, [], .c (.bool true)) := by kernel_rfl
theorem blanks_6_5_false : (xfunL Try.prog oL 1000 10 [.c (.int 6), .c (.int 5), .c (.bool false)] [] 0 []).map (fun q => (q.1, q.2.1, q.2.2.1)) = some (true, [], .c (.bool true)) := by kernel_rfl
theorem blanks_7_2_false : (xfunL Try.prog oL 1000 10 [.c (.int 7), .c (.int 2), .c (.bool false)] [] 0 []).map (fun q => (q.1, q.2.1, q.2.2.1)) = some (true, [], .c (.bool true)) := by kernel_rfl
theorem blanks_7_4_false : (xfunL Try.prog oL 1000 10 [.c (.int 7), .c (.int 4), .c (.bool false)] [] 0 []).map (fun q => (q.1, q.2.1, q.2.2.1)) = some (true, [], .c (.bool true)) := by kernel_rfl
theorem blanks_7_6_false : (xfunL Try.prog oL 1000 10 [.c (.int 7), .c (.int 6), .c (.bool false)] [] 0 []).map (fun q => (q.1, q.2.1, q.2.2.1)) = some (true, [], .c (.bool true)) := by kernel_rfl

end Go.Proofs.Ytjjnmafoakoenaa.Vw
