/-
  Who is added, computed.
-/
import Derived.Test.YtjjnmafoakoenaaVwP
namespace Go.Proofs.Ytjjnmafoakoenaa.Vw
open Go.RowKit Go.Proofs.Ytjjnmafoakoenaa.Sx Go.Proofs.Ytjjnmafoakoenaa.Pw
set_option linter.unusedVariables false
set_option linter.unusedSimpArgs false

theorem adds_2_0 : (xfunL Try.prog oL 1000 6 [.c (.int 2), .c (.int 0)] [] 0 []).map (fun q => (q.1, q.2.1, q.2.2.1)) = some (true, [], .c (.bool true)) := by kernel_rfl
theorem adds_2_1 : (xfunL Try.prog oL 1000 6 [.c (.int 2), .c (.int 1)] [] 0 []).map (fun q => (q.1, q.2.1, q.2.2.1)) = some (true, [], .c (.bool true)) := by kernel_rfl
theorem adds_2_2 : (xfunL Try.prog oL 1000 6 [.c (.int 2), .c (.int 2)] [] 0 []).map (fun q => (q.1, q.2.1, q.2.2.1)) = some (true, [], .c (.bool true)) := by kernel_rfl
theorem adds_2_3 : (xfunL Try.prog oL 1000 6 [.c (.int 2), .c (.int 3)] [] 0 []).map (fun q => (q.1, q.2.1, q.2.2.1)) = some (true, [], .c (.bool true)) := by kernel_rfl
theorem adds_2_4 : (xfunL Try.prog oL 1000 6 [.c (.int 2), .c (.int 4)] [] 0 []).map (fun q => (q.1, q.2.1, q.2.2.1)) = some (true, [], .c (.bool true)) := by kernel_rfl
theorem adds_7_0 : (xfunL Try.prog oL 1000 6 [.c (.int 7), .c (.int 0)] [] 0 []).map (fun q => (q.1, q.2.1, q.2.2.1)) = some (true, [], .c (.bool true)) := by kernel_rfl
theorem adds_7_1 : (xfunL Try.prog oL 1000 6 [.c (.int 7), .c (.int 1)] [] 0 []).map (fun q => (q.1, q.2.1, q.2.2.1)) = some (true, [], .c (.bool true)) := by kernel_rfl
theorem adds_7_2 : (xfunL Try.prog oL 1000 6 [.c (.int 7), .c (.int 2)] [] 0 []).map (fun q => (q.1, q.2.1, q.2.2.1)) = some (true, [], .c (.bool true)) := by kernel_rfl
theorem adds_7_3 : (xfunL Try.prog oL 1000 6 [.c (.int 7), .c (.int 3)] [] 0 []).map (fun q => (q.1, q.2.1, q.2.2.1)) = some (true, [], .c (.bool true)) := by kernel_rfl
theorem adds_7_4 : (xfunL Try.prog oL 1000 6 [.c (.int 7), .c (.int 4)] [] 0 []).map (fun q => (q.1, q.2.1, q.2.2.1)) = some (true, [], .c (.bool true)) := by kernel_rfl

end Go.Proofs.Ytjjnmafoakoenaa.Vw
