/-
  The law of full trees, 1 members.
-/
import Derived.Test.YtkpdkfeklecehaaLdA
namespace Go.Proofs.Ytkpdkfeklecehaa.Ld
open Go.RowKit Go.Proofs.Ytkpdkfeklecehaa.Sx Go.Proofs.Ytkpdkfeklecehaa.Pw
set_option linter.unusedVariables false

theorem full_1_0_false (S : List SC → Int) (K : List SC → Nat) (hS : S = scalS) (hK : K = keyK) (w : World) : Sx.Fn Try.prog fFull (atW w 0) [.c (.int 1), .c (.int 0), .c (.bool false)] [] 0 fun r _ => r = .c (.bool true) := full_at hS hK w 1 0 false (by kernel_rfl)
theorem full_1_0_true (S : List SC → Int) (K : List SC → Nat) (hS : S = scalS) (hK : K = keyK) (w : World) : Sx.Fn Try.prog fFull (atW w 0) [.c (.int 1), .c (.int 0), .c (.bool true)] [] 0 fun r _ => r = .c (.bool true) := full_at hS hK w 1 0 true (by kernel_rfl)
theorem full_1 (w : World) (l : Int) (h0 : 0 ≤ l) (h1 : l < 1) (n : Bool) : Sx.Fn Try.prog fFull (atW w 0) [.c (.int 1), .c (.int l), .c (.bool n)] [] 0 fun r _ => r = .c (.bool true) := by
  have h : l = 0 := by omega
  rcases h with rfl <;> cases n
  · exact full_1_0_false _ _ rfl rfl w
  · exact full_1_0_true _ _ rfl rfl w

end Go.Proofs.Ytkpdkfeklecehaa.Ld
