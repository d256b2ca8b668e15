/-
  The law of full trees, 5 members.
-/
import Derived.Test.YtkpdkfeklecehaaLdA
namespace Go.Proofs.Ytkpdkfeklecehaa.Ld
open Go.RowKit Go.Proofs.Ytkpdkfeklecehaa.Sx Go.Proofs.Ytkpdkfeklecehaa.Pw
set_option linter.unusedVariables false

theorem full_5_0_false (S : List SC → Int) (K : List SC → Nat) (hS : S = scalS) (hK : K = keyK) (w : World) : Sx.Fn Try.prog fFull (atW w 0) [.c (.int 5), .c (.int 0), .c (.bool false)] [] 0 fun r _ => r = .c (.bool true) := full_at hS hK w 5 0 false (by kernel_rfl)
theorem full_5_0_true (S : List SC → Int) (K : List SC → Nat) (hS : S = scalS) (hK : K = keyK) (w : World) : Sx.Fn Try.prog fFull (atW w 0) [.c (.int 5), .c (.int 0), .c (.bool true)] [] 0 fun r _ => r = .c (.bool true) := full_at hS hK w 5 0 true (by kernel_rfl)
theorem full_5_1_false (S : List SC → Int) (K : List SC → Nat) (hS : S = scalS) (hK : K = keyK) (w : World) : Sx.Fn Try.prog fFull (atW w 0) [.c (.int 5), .c (.int 1), .c (.bool false)] [] 0 fun r _ => r = .c (.bool true) := full_at hS hK w 5 1 false (by kernel_rfl)
theorem full_5_1_true (S : List SC → Int) (K : List SC → Nat) (hS : S = scalS) (hK : K = keyK) (w : World) : Sx.Fn Try.prog fFull (atW w 0) [.c (.int 5), .c (.int 1), .c (.bool true)] [] 0 fun r _ => r = .c (.bool true) := full_at hS hK w 5 1 true (by kernel_rfl)
theorem full_5_2_false (S : List SC → Int) (K : List SC → Nat) (hS : S = scalS) (hK : K = keyK) (w : World) : Sx.Fn Try.prog fFull (atW w 0) [.c (.int 5), .c (.int 2), .c (.bool false)] [] 0 fun r _ => r = .c (.bool true) := full_at hS hK w 5 2 false (by kernel_rfl)
theorem full_5_2_true (S : List SC → Int) (K : List SC → Nat) (hS : S = scalS) (hK : K = keyK) (w : World) : Sx.Fn Try.prog fFull (atW w 0) [.c (.int 5), .c (.int 2), .c (.bool true)] [] 0 fun r _ => r = .c (.bool true) := full_at hS hK w 5 2 true (by kernel_rfl)
theorem full_5_3_false (S : List SC → Int) (K : List SC → Nat) (hS : S = scalS) (hK : K = keyK) (w : World) : Sx.Fn Try.prog fFull (atW w 0) [.c (.int 5), .c (.int 3), .c (.bool false)] [] 0 fun r _ => r = .c (.bool true) := full_at hS hK w 5 3 false (by kernel_rfl)
theorem full_5_3_true (S : List SC → Int) (K : List SC → Nat) (hS : S = scalS) (hK : K = keyK) (w : World) : Sx.Fn Try.prog fFull (atW w 0) [.c (.int 5), .c (.int 3), .c (.bool true)] [] 0 fun r _ => r = .c (.bool true) := full_at hS hK w 5 3 true (by kernel_rfl)
theorem full_5_4_false (S : List SC → Int) (K : List SC → Nat) (hS : S = scalS) (hK : K = keyK) (w : World) : Sx.Fn Try.prog fFull (atW w 0) [.c (.int 5), .c (.int 4), .c (.bool false)] [] 0 fun r _ => r = .c (.bool true) := full_at hS hK w 5 4 false (by kernel_rfl)
theorem full_5_4_true (S : List SC → Int) (K : List SC → Nat) (hS : S = scalS) (hK : K = keyK) (w : World) : Sx.Fn Try.prog fFull (atW w 0) [.c (.int 5), .c (.int 4), .c (.bool true)] [] 0 fun r _ => r = .c (.bool true) := full_at hS hK w 5 4 true (by kernel_rfl)
theorem full_5 (w : World) (l : Int) (h0 : 0 ≤ l) (h1 : l < 5) (n : Bool) : Sx.Fn Try.prog fFull (atW w 0) [.c (.int 5), .c (.int l), .c (.bool n)] [] 0 fun r _ => r = .c (.bool true) := by
  have h : l = 0 ∨ l = 1 ∨ l = 2 ∨ l = 3 ∨ l = 4 := by omega
  rcases h with rfl | rfl | rfl | rfl | rfl <;> cases n
  · exact full_5_0_false _ _ rfl rfl w
  · exact full_5_0_true _ _ rfl rfl w
  · exact full_5_1_false _ _ rfl rfl w
  · exact full_5_1_true _ _ rfl rfl w
  · exact full_5_2_false _ _ rfl rfl w
  · exact full_5_2_true _ _ rfl rfl w
  · exact full_5_3_false _ _ rfl rfl w
  · exact full_5_3_true _ _ rfl rfl w
  · exact full_5_4_false _ _ rfl rfl w
  · exact full_5_4_true _ _ rfl rfl w

end Go.Proofs.Ytkpdkfeklecehaa.Ld
