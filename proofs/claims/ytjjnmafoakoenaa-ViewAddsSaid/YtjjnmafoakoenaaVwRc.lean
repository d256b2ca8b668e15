/-
  Who is added, computed.
-/
import Derived.Test.YtjjnmafoakoenaaVwP
namespace Go.Proofs.Ytjjnmafoakoenaa.Vw
open Go.RowKit Go.Proofs.Ytjjnmafoakoenaa.Sx Go.Proofs.Ytjjnmafoakoenaa.Pw
set_option linter.unusedVariables false
set_option linter.unusedSimpArgs false

theorem adds_3_0 : (xfunL Try.prog oL 1000 6 [.c (.int 3), .c (.int 0)] [] 0 []).map (fun q => (q.1, q.2.1, q.2.2.1)) = some (true, [], .c (.bool true)) := by kernel_rfl
theorem adds_3_1 : (xfunL Try.prog oL 1000 6 [.c (.int 3), .c (.int 1)] [] 0 []).map (fun q => (q.1, q.2.1, q.2.2.1)) = some (true, [], .c (.bool true)) := by kernel_rfl
theorem adds_3_2 : (xfunL Try.prog oL 1000 6 [.c (.int 3), .c (.int 2)] [] 0 []).map (fun q => (q.1, q.2.1, q.2.2.1)) = some (true, [], .c (.bool true)) := by kernel_rfl
theorem adds_3_3 : (xfunL Try.prog oL 1000 6 [.c (.int 3), .c (.int 3)] [] 0 []).map (fun q => (q.1, q.2.1, q.2.2.1)) = some (true, [], .c (.bool true)) := by kernel_rfl
theorem adds_3_4 : (xfunL Try.prog oL 1000 6 [.c (.int 3), .c (.int 4)] [] 0 []).map (fun q => (q.1, q.2.1, q.2.2.1)) = some (true, [], .c (.bool true)) := by kernel_rfl
theorem adds_6_0 : (xfunL Try.prog oL 1000 6 [.c (.int 6), .c (.int 0)] [] 0 []).map (fun q => (q.1, q.2.1, q.2.2.1)) = some (true, [], .c (.bool true)) := by kernel_rfl
theorem adds_6_1 : (xfunL Try.prog oL 1000 6 [.c (.int 6), .c (.int 1)] [] 0 []).map (fun q => (q.1, q.2.1, q.2.2.1)) = some (true, [], .c (.bool true)) := by kernel_rfl
theorem adds_6_2 : (xfunL Try.prog oL 1000 6 [.c (.int 6), .c (.int 2)] [] 0 []).map (fun q => (q.1, q.2.1, q.2.2.1)) = some (true, [], .c (.bool true)) := by kernel_rfl
theorem adds_6_3 : (xfunL Try.prog oL 1000 6 [.c (.int 6), .c (.int 3)] [] 0 []).map (fun q => (q.1, q.2.1, q.2.2.1)) = some (true, [], .c (.bool true)) := by kernel_rfl
theorem adds_6_4 : (xfunL Try.prog oL 1000 6 [.c (.int 6), .c (.int 4)] [] 0 []).map (fun q => (q.1, q.2.1, q.2.2.1)) = some (true, [], .c (.bool true)) := by kernel_rfl

end Go.Proofs.Ytjjnmafoakoenaa.Vw
