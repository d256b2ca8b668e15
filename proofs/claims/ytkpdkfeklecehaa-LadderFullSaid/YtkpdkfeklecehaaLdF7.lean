/-
  The law of full trees, 7 members.
-/
import Derived.Test.YtkpdkfeklecehaaLdA
namespace Go.Proofs.Ytkpdkfeklecehaa.Ld
open Go.RowKit Go.Proofs.Ytkpdkfeklecehaa.Sx Go.Proofs.Ytkpdkfeklecehaa.Pw
set_option linter.unusedVariables false

theorem full_7_0_false (S : List SC → Int) (K : List SC → Nat) (hS : S = scalS) (hK : K = keyK) (w : World) : Sx.Fn Try.prog fFull (atW w 0) [.c (.int 7), .c (.int 0), .c (.bool false)] [] 0 fun r _ => r = .c (.bool true) := full_at hS hK w 7 0 false (by kernel_rfl)
theorem full_7_0_true (S : List SC → Int) (K : List SC → Nat) (hS : S = scalS) (hK : K = keyK) (w : World) : Sx.Fn Try.prog fFull (atW w 0) [.c (.int 7), .c (.int 0), .c (.bool true)] [] 0 fun r _ => r = .c (.bool true) := full_at hS hK w 7 0 true (by kernel_rfl)
theorem full_7_1_false (S : List SC → Int) (K : List SC → Nat) (hS : S = scalS) (hK : K = keyK) (w : World) : Sx.Fn Try.prog fFull (atW w 0) [.c (.int 7), .c (.int 1), .c (.bool false)] [] 0 fun r _ => r = .c (.bool true) := full_at hS hK w 7 1 false (by kernel_rfl)
theorem full_7_1_true (S : List SC → Int) (K : List SC → Nat) (hS : S = scalS) (hK : K = keyK) (w : World) : Sx.Fn Try.prog fFull (atW w 0) [.c (.int 7), .c (.int 1), .c (.bool true)] [] 0 fun r _ => r = .c (.bool true) := full_at hS hK w 7 1 true (by kernel_rfl)
theorem full_7_2_false (S : List SC → Int) (K : List SC → Nat) (hS : S = scalS) (hK : K = keyK) (w : World) : Sx.Fn Try.prog fFull (atW w 0) [.c (.int 7), .c (.int 2), .c (.bool false)] [] 0 fun r _ => r = .c (.bool true) := full_at hS hK w 7 2 false (by kernel_rfl)
theorem full_7_2_true (S : List SC → Int) (K : List SC → Nat) (hS : S = scalS) (hK : K = keyK) (w : World) : Sx.Fn Try.prog fFull (atW w 0) [.c (.int 7), .c (.int 2), .c (.bool true)] [] 0 fun r _ => r = .c (.bool true) := full_at hS hK w 7 2 true (by kernel_rfl)
theorem full_7_3_false (S : List SC → Int) (K : List SC → Nat) (hS : S = scalS) (hK : K = keyK) (w : World) : Sx.Fn Try.prog fFull (atW w 0) [.c (.int 7), .c (.int 3), .c (.bool false)] [] 0 fun r _ => r = .c (.bool true) := full_at hS hK w 7 3 false (by kernel_rfl)
theorem full_7_3_true (S : List SC → Int) (K : List SC → Nat) (hS : S = scalS) (hK : K = keyK) (w : World) : Sx.Fn Try.prog fFull (atW w 0) [.c (.int 7), .c (.int 3), .c (.bool true)] [] 0 fun r _ => r = .c (.bool true) := full_at hS hK w 7 3 true (by kernel_rfl)
theorem full_7_4_false (S : List SC → Int) (K : List SC → Nat) (hS : S = scalS) (hK : K = keyK) (w : World) : Sx.Fn Try.prog fFull (atW w 0) [.c (.int 7), .c (.int 4), .c (.bool false)] [] 0 fun r _ => r = .c (.bool true) := full_at hS hK w 7 4 false (by kernel_rfl)
theorem full_7_4_true (S : List SC → Int) (K : List SC → Nat) (hS : S = scalS) (hK : K = keyK) (w : World) : Sx.Fn Try.prog fFull (atW w 0) [.c (.int 7), .c (.int 4), .c (.bool true)] [] 0 fun r _ => r = .c (.bool true) := full_at hS hK w 7 4 true (by kernel_rfl)
theorem full_7_5_false (S : List SC → Int) (K : List SC → Nat) (hS : S = scalS) (hK : K = keyK) (w : World) : Sx.Fn Try.prog fFull (atW w 0) [.c (.int 7), .c (.int 5), .c (.bool false)] [] 0 fun r _ => r = .c (.bool true) := full_at hS hK w 7 5 false (by kernel_rfl)
theorem full_7_5_true (S : List SC → Int) (K : List SC → Nat) (hS : S = scalS) (hK : K = keyK) (w : World) : Sx.Fn Try.prog fFull (atW w 0) [.c (.int 7), .c (.int 5), .c (.bool true)] [] 0 fun r _ => r = .c (.bool true) := full_at hS hK w 7 5 true (by kernel_rfl)
theorem full_7_6_false (S : List SC → Int) (K : List SC → Nat) (hS : S = scalS) (hK : K = keyK) (w : World) : Sx.Fn Try.prog fFull (atW w 0) [.c (.int 7), .c (.int 6), .c (.bool false)] [] 0 fun r _ => r = .c (.bool true) := full_at hS hK w 7 6 false (by kernel_rfl)
theorem full_7_6_true (S : List SC → Int) (K : List SC → Nat) (hS : S = scalS) (hK : K = keyK) (w : World) : Sx.Fn Try.prog fFull (atW w 0) [.c (.int 7), .c (.int 6), .c (.bool true)] [] 0 fun r _ => r = .c (.bool true) := full_at hS hK w 7 6 true (by kernel_rfl)
theorem full_7 (w : World) (l : Int) (h0 : 0 ≤ l) (h1 : l < 7) (n : Bool) : Sx.Fn Try.prog fFull (atW w 0) [.c (.int 7), .c (.int l), .c (.bool n)] [] 0 fun r _ => r = .c (.bool true) := by
  have h : l = 0 ∨ l = 1 ∨ l = 2 ∨ l = 3 ∨ l = 4 ∨ l = 5 ∨ l = 6 := by omega
  rcases h with rfl | rfl | rfl | rfl | rfl | rfl | rfl <;> cases n
  · exact full_7_0_false _ _ rfl rfl w
  · exact full_7_0_true _ _ rfl rfl w
  · exact full_7_1_false _ _ rfl rfl w
  · exact full_7_1_true _ _ rfl rfl w
  · exact full_7_2_false _ _ rfl rfl w
  · exact full_7_2_true _ _ rfl rfl w
  · exact full_7_3_false _ _ rfl rfl w
  · exact full_7_3_true _ _ rfl rfl w
  · exact full_7_4_false _ _ rfl rfl w
  · exact full_7_4_true _ _ rfl rfl w
  · exact full_7_5_false _ _ rfl rfl w
  · exact full_7_5_true _ _ rfl rfl w
  · exact full_7_6_false _ _ rfl rfl w
  · exact full_7_6_true _ _ rfl rfl w

end Go.Proofs.Ytkpdkfeklecehaa.Ld
