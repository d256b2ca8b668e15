/-
  The law of who is left out, 1 members.
-/
import Derived.Test.YtkpdkfeklecehaaLdB
namespace Go.Proofs.Ytkpdkfeklecehaa.Ld
open Go.RowKit Go.Proofs.Ytkpdkfeklecehaa.Sx Go.Proofs.Ytkpdkfeklecehaa.Pw
set_option linter.unusedVariables false

theorem but_1_0_0 (S : List SC → Int) (K : List SC → Nat) (hS : S = scalS) (hK : K = keyK) (w : World) : Sx.Fn Try.prog fBut (atW w 0) [.c (.int 1), .c (.int 0), .c (.int 0)] [] 0 fun r _ => r = .c (.bool true) := but_at hS hK w 1 0 0 (by kernel_rfl)
theorem but_1_0_1 (S : List SC → Int) (K : List SC → Nat) (hS : S = scalS) (hK : K = keyK) (w : World) : Sx.Fn Try.prog fBut (atW w 0) [.c (.int 1), .c (.int 0), .c (.int 1)] [] 0 fun r _ => r = .c (.bool true) := but_at hS hK w 1 0 1 (by kernel_rfl)
theorem but_1_0_2 (S : List SC → Int) (K : List SC → Nat) (hS : S = scalS) (hK : K = keyK) (w : World) : Sx.Fn Try.prog fBut (atW w 0) [.c (.int 1), .c (.int 0), .c (.int 2)] [] 0 fun r _ => r = .c (.bool true) := but_at hS hK w 1 0 2 (by kernel_rfl)
theorem but_1_0_3 (S : List SC → Int) (K : List SC → Nat) (hS : S = scalS) (hK : K = keyK) (w : World) : Sx.Fn Try.prog fBut (atW w 0) [.c (.int 1), .c (.int 0), .c (.int 3)] [] 0 fun r _ => r = .c (.bool true) := but_at hS hK w 1 0 3 (by kernel_rfl)
theorem but_1_0_4 (S : List SC → Int) (K : List SC → Nat) (hS : S = scalS) (hK : K = keyK) (w : World) : Sx.Fn Try.prog fBut (atW w 0) [.c (.int 1), .c (.int 0), .c (.int 4)] [] 0 fun r _ => r = .c (.bool true) := but_at hS hK w 1 0 4 (by kernel_rfl)
theorem but_1_0_5 (S : List SC → Int) (K : List SC → Nat) (hS : S = scalS) (hK : K = keyK) (w : World) : Sx.Fn Try.prog fBut (atW w 0) [.c (.int 1), .c (.int 0), .c (.int 5)] [] 0 fun r _ => r = .c (.bool true) := but_at hS hK w 1 0 5 (by kernel_rfl)
theorem but_1_0_6 (S : List SC → Int) (K : List SC → Nat) (hS : S = scalS) (hK : K = keyK) (w : World) : Sx.Fn Try.prog fBut (atW w 0) [.c (.int 1), .c (.int 0), .c (.int 6)] [] 0 fun r _ => r = .c (.bool true) := but_at hS hK w 1 0 6 (by kernel_rfl)
theorem but_1_0_7 (S : List SC → Int) (K : List SC → Nat) (hS : S = scalS) (hK : K = keyK) (w : World) : Sx.Fn Try.prog fBut (atW w 0) [.c (.int 1), .c (.int 0), .c (.int 7)] [] 0 fun r _ => r = .c (.bool true) := but_at hS hK w 1 0 7 (by kernel_rfl)
theorem but_1 (w : World) (l b : Int) (h0 : 0 ≤ l) (h1 : l < 1) (h2 : 0 ≤ b) (h3 : b ≤ 7) : Sx.Fn Try.prog fBut (atW w 0) [.c (.int 1), .c (.int l), .c (.int b)] [] 0 fun r _ => r = .c (.bool true) := by
  have h : l = 0 := by omega
  have g : b = 0 ∨ b = 1 ∨ b = 2 ∨ b = 3 ∨ b = 4 ∨ b = 5 ∨ b = 6 ∨ b = 7 := by omega
  subst h
  rcases g with rfl | rfl | rfl | rfl | rfl | rfl | rfl | rfl
  · exact but_1_0_0 _ _ rfl rfl w
  · exact but_1_0_1 _ _ rfl rfl w
  · exact but_1_0_2 _ _ rfl rfl w
  · exact but_1_0_3 _ _ rfl rfl w
  · exact but_1_0_4 _ _ rfl rfl w
  · exact but_1_0_5 _ _ rfl rfl w
  · exact but_1_0_6 _ _ rfl rfl w
  · exact but_1_0_7 _ _ rfl rfl w

end Go.Proofs.Ytkpdkfeklecehaa.Ld
