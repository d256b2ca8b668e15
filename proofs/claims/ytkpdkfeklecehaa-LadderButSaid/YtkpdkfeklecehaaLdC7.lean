/-
  The law of who is left out, 7 members.
-/
import Derived.Test.YtkpdkfeklecehaaLdB
namespace Go.Proofs.Ytkpdkfeklecehaa.Ld
open Go.RowKit Go.Proofs.Ytkpdkfeklecehaa.Sx Go.Proofs.Ytkpdkfeklecehaa.Pw
set_option linter.unusedVariables false

theorem but_7_0_0 (S : List SC → Int) (K : List SC → Nat) (hS : S = scalS) (hK : K = keyK) (w : World) : Sx.Fn Try.prog fBut (atW w 0) [.c (.int 7), .c (.int 0), .c (.int 0)] [] 0 fun r _ => r = .c (.bool true) := but_at hS hK w 7 0 0 (by kernel_rfl)
theorem but_7_0_1 (S : List SC → Int) (K : List SC → Nat) (hS : S = scalS) (hK : K = keyK) (w : World) : Sx.Fn Try.prog fBut (atW w 0) [.c (.int 7), .c (.int 0), .c (.int 1)] [] 0 fun r _ => r = .c (.bool true) := but_at hS hK w 7 0 1 (by kernel_rfl)
theorem but_7_0_2 (S : List SC → Int) (K : List SC → Nat) (hS : S = scalS) (hK : K = keyK) (w : World) : Sx.Fn Try.prog fBut (atW w 0) [.c (.int 7), .c (.int 0), .c (.int 2)] [] 0 fun r _ => r = .c (.bool true) := but_at hS hK w 7 0 2 (by kernel_rfl)
theorem but_7_0_3 (S : List SC → Int) (K : List SC → Nat) (hS : S = scalS) (hK : K = keyK) (w : World) : Sx.Fn Try.prog fBut (atW w 0) [.c (.int 7), .c (.int 0), .c (.int 3)] [] 0 fun r _ => r = .c (.bool true) := but_at hS hK w 7 0 3 (by kernel_rfl)
theorem but_7_0_4 (S : List SC → Int) (K : List SC → Nat) (hS : S = scalS) (hK : K = keyK) (w : World) : Sx.Fn Try.prog fBut (atW w 0) [.c (.int 7), .c (.int 0), .c (.int 4)] [] 0 fun r _ => r = .c (.bool true) := but_at hS hK w 7 0 4 (by kernel_rfl)
theorem but_7_0_5 (S : List SC → Int) (K : List SC → Nat) (hS : S = scalS) (hK : K = keyK) (w : World) : Sx.Fn Try.prog fBut (atW w 0) [.c (.int 7), .c (.int 0), .c (.int 5)] [] 0 fun r _ => r = .c (.bool true) := but_at hS hK w 7 0 5 (by kernel_rfl)
theorem but_7_0_6 (S : List SC → Int) (K : List SC → Nat) (hS : S = scalS) (hK : K = keyK) (w : World) : Sx.Fn Try.prog fBut (atW w 0) [.c (.int 7), .c (.int 0), .c (.int 6)] [] 0 fun r _ => r = .c (.bool true) := but_at hS hK w 7 0 6 (by kernel_rfl)
theorem but_7_0_7 (S : List SC → Int) (K : List SC → Nat) (hS : S = scalS) (hK : K = keyK) (w : World) : Sx.Fn Try.prog fBut (atW w 0) [.c (.int 7), .c (.int 0), .c (.int 7)] [] 0 fun r _ => r = .c (.bool true) := but_at hS hK w 7 0 7 (by kernel_rfl)
theorem but_7_1_0 (S : List SC → Int) (K : List SC → Nat) (hS : S = scalS) (hK : K = keyK) (w : World) : Sx.Fn Try.prog fBut (atW w 0) [.c (.int 7), .c (.int 1), .c (.int 0)] [] 0 fun r _ => r = .c (.bool true) := but_at hS hK w 7 1 0 (by kernel_rfl)
theorem but_7_1_1 (S : List SC → Int) (K : List SC → Nat) (hS : S = scalS) (hK : K = keyK) (w : World) : Sx.Fn Try.prog fBut (atW w 0) [.c (.int 7), .c (.int 1), .c (.int 1)] [] 0 fun r _ => r = .c (.bool true) := but_at hS hK w 7 1 1 (by kernel_rfl)
theorem but_7_1_2 (S : List SC → Int) (K : List SC → Nat) (hS : S = scalS) (hK : K = keyK) (w : World) : Sx.Fn Try.prog fBut (atW w 0) [.c (.int 7), .c (.int 1), .c (.int 2)] [] 0 fun r _ => r = .c (.bool true) := but_at hS hK w 7 1 2 (by kernel_rfl)
theorem but_7_1_3 (S : List SC → Int) (K : List SC → Nat) (hS : S = scalS) (hK : K = keyK) (w : World) : Sx.Fn Try.prog fBut (atW w 0) [.c (.int 7), .c (.int 1), .c (.int 3)] [] 0 fun r _ => r = .c (.bool true) := but_at hS hK w 7 1 3 (by kernel_rfl)
theorem but_7_1_4 (S : List SC → Int) (K : List SC → Nat) (hS : S = scalS) (hK : K = keyK) (w : World) : Sx.Fn Try.prog fBut (atW w 0) [.c (.int 7), .c (.int 1), .c (.int 4)] [] 0 fun r _ => r = .c (.bool true) := but_at hS hK w 7 1 4 (by kernel_rfl)
theorem but_7_1_5 (S : List SC → Int) (K : List SC → Nat) (hS : S = scalS) (hK : K = keyK) (w : World) : Sx.Fn Try.prog fBut (atW w 0) [.c (.int 7), .c (.int 1), .c (.int 5)] [] 0 fun r _ => r = .c (.bool true) := but_at hS hK w 7 1 5 (by kernel_rfl)
theorem but_7_1_6 (S : List SC → Int) (K : List SC → Nat) (hS : S = scalS) (hK : K = keyK) (w : World) : Sx.Fn Try.prog fBut (atW w 0) [.c (.int 7), .c (.int 1), .c (.int 6)] [] 0 fun r _ => r = .c (.bool true) := but_at hS hK w 7 1 6 (by kernel_rfl)
theorem but_7_1_7 (S : List SC → Int) (K : List SC → Nat) (hS : S = scalS) (hK : K = keyK) (w : World) : Sx.Fn Try.prog fBut (atW w 0) [.c (.int 7), .c (.int 1), .c (.int 7)] [] 0 fun r _ => r = .c (.bool true) := but_at hS hK w 7 1 7 (by kernel_rfl)
theorem but_7_2_0 (S : List SC → Int) (K : List SC → Nat) (hS : S = scalS) (hK : K = keyK) (w : World) : Sx.Fn Try.prog fBut (atW w 0) [.c (.int 7), .c (.int 2), .c (.int 0)] [] 0 fun r _ => r = .c (.bool true) := but_at hS hK w 7 2 0 (by kernel_rfl)
theorem but_7_2_1 (S : List SC → Int) (K : List SC → Nat) (hS : S = scalS) (hK : K = keyK) (w : World) : Sx.Fn Try.prog fBut (atW w 0) [.c (.int 7), .c (.int 2), .c (.int 1)] [] 0 fun r _ => r = .c (.bool true) := but_at hS hK w 7 2 1 (by kernel_rfl)
theorem but_7_2_2 (S : List SC → Int) (K : List SC → Nat) (hS : S = scalS) (hK : K = keyK) (w : World) : Sx.Fn Try.prog fBut (atW w 0) [.c (.int 7), .c (.int 2), .c (.int 2)] [] 0 fun r _ => r = .c (.bool true) := but_at hS hK w 7 2 2 (by kernel_rfl)
theorem but_7_2_3 (S : List SC → Int) (K : List SC → Nat) (hS : S = scalS) (hK : K = keyK) (w : World) : Sx.Fn Try.prog fBut (atW w 0) [.c (.int 7), .c (.int 2), .c (.int 3)] [] 0 fun r _ => r = .c (.bool true) := but_at hS hK w 7 2 3 (by kernel_rfl)
theorem but_7_2_4 (S : List SC → Int) (K : List SC → Nat) (hS : S = scalS) (hK : K = keyK) (w : World) : Sx.Fn Try.prog fBut (atW w 0) [.c (.int 7), .c (.int 2), .c (.int 4)] [] 0 fun r _ => r = .c (.bool true) := but_at hS hK w 7 2 4 (by kernel_rfl)
theorem but_7_2_5 (S : List SC → Int) (K : List SC → Nat) (hS : S = scalS) (hK : K = keyK) (w : World) : Sx.Fn Try.prog fBut (atW w 0) [.c (.int 7), .c (.int 2), .c (.int 5)] [] 0 fun r _ => r = .c (.bool true) := but_at hS hK w 7 2 5 (by kernel_rfl)
theorem but_7_2_6 (S : List SC → Int) (K : List SC → Nat) (hS : S = scalS) (hK : K = keyK) (w : World) : Sx.Fn Try.prog fBut (atW w 0) [.c (.int 7), .c (.int 2), .c (.int 6)] [] 0 fun r _ => r = .c (.bool true) := but_at hS hK w 7 2 6 (by kernel_rfl)
theorem but_7_2_7 (S : List SC → Int) (K : List SC → Nat) (hS : S = scalS) (hK : K = keyK) (w : World) : Sx.Fn Try.prog fBut (atW w 0) [.c (.int 7), .c (.int 2), .c (.int 7)] [] 0 fun r _ => r = .c (.bool true) := but_at hS hK w 7 2 7 (by kernel_rfl)
theorem but_7_3_0 (S : List SC → Int) (K : List SC → Nat) (hS : S = scalS) (hK : K = keyK) (w : World) : Sx.Fn Try.prog fBut (atW w 0) [.c (.int 7), .c (.int 3), .c (.int 0)] [] 0 fun r _ => r = .c (.bool true) := but_at hS hK w 7 3 0 (by kernel_rfl)
theorem but_7_3_1 (S : List SC → Int) (K : List SC → Nat) (hS : S = scalS) (hK : K = keyK) (w : World) : Sx.Fn Try.prog fBut (atW w 0) [.c (.int 7), .c (.int 3), .c (.int 1)] [] 0 fun r _ => r = .c (.bool true) := but_at hS hK w 7 3 1 (by kernel_rfl)
theorem but_7_3_2 (S : List SC → Int) (K : List SC → Nat) (hS : S = scalS) (hK : K = keyK) (w : World) : Sx.Fn Try.prog fBut (atW w 0) [.c (.int 7), .c (.int 3), .c (.int 2)] [] 0 fun r _ => r = .c (.bool true) := but_at hS hK w 7 3 2 (by kernel_rfl)
theorem but_7_3_3 (S : List SC → Int) (K : List SC → Nat) (hS : S = scalS) (hK : K = keyK) (w : World) : Sx.Fn Try.prog fBut (atW w 0) [.c (.int 7), .c (.int 3), .c (.int 3)] [] 0 fun r _ => r = .c (.bool true) := but_at hS hK w 7 3 3 (by kernel_rfl)
theorem but_7_3_4 (S : List SC → Int) (K : List SC → Nat) (hS : S = scalS) (hK : K = keyK) (w : World) : Sx.Fn Try.prog fBut (atW w 0) [.c (.int 7), .c (.int 3), .c (.int 4)] [] 0 fun r _ => r = .c (.bool true) := but_at hS hK w 7 3 4 (by kernel_rfl)
theorem but_7_3_5 (S : List SC → Int) (K : List SC → Nat) (hS : S = scalS) (hK : K = keyK) (w : World) : Sx.Fn Try.prog fBut (atW w 0) [.c (.int 7), .c (.int 3), .c (.int 5)] [] 0 fun r _ => r = .c (.bool true) := but_at hS hK w 7 3 5 (by kernel_rfl)
theorem but_7_3_6 (S : List SC → Int) (K : List SC → Nat) (hS : S = scalS) (hK : K = keyK) (w : World) : Sx.Fn Try.prog fBut (atW w 0) [.c (.int 7), .c (.int 3), .c (.int 6)] [] 0 fun r _ => r = .c (.bool true) := but_at hS hK w 7 3 6 (by kernel_rfl)
theorem but_7_3_7 (S : List SC → Int) (K : List SC → Nat) (hS : S = scalS) (hK : K = keyK) (w : World) : Sx.Fn Try.prog fBut (atW w 0) [.c (.int 7), .c (.int 3), .c (.int 7)] [] 0 fun r _ => r = .c (.bool true) := but_at hS hK w 7 3 7 (by kernel_rfl)
theorem but_7_4_0 (S : List SC → Int) (K : List SC → Nat) (hS : S = scalS) (hK : K = keyK) (w : World) : Sx.Fn Try.prog fBut (atW w 0) [.c (.int 7), .c (.int 4), .c (.int 0)] [] 0 fun r _ => r = .c (.bool true) := but_at hS hK w 7 4 0 (by kernel_rfl)
theorem but_7_4_1 (S : List SC → Int) (K : List SC → Nat) (hS : S = scalS) (hK : K = keyK) (w : World) : Sx.Fn Try.prog fBut (atW w 0) [.c (.int 7), .c (.int 4), .c (.int 1)] [] 0 fun r _ => r = .c (.bool true) := but_at hS hK w 7 4 1 (by kernel_rfl)
theorem but_7_4_2 (S : List SC → Int) (K : List SC → Nat) (hS : S = scalS) (hK : K = keyK) (w : World) : Sx.Fn Try.prog fBut (atW w 0) [.c (.int 7), .c (.int 4), .c (.int 2)] [] 0 fun r _ => r = .c (.bool true) := but_at hS hK w 7 4 2 (by kernel_rfl)
theorem but_7_4_3 (S : List SC → Int) (K : List SC → Nat) (hS : S = scalS) (hK : K = keyK) (w : World) : Sx.Fn Try.prog fBut (atW w 0) [.c (.int 7), .c (.int 4), .c (.int 3)] [] 0 fun r _ => r = .c (.bool true) := but_at hS hK w 7 4 3 (by kernel_rfl)
theorem but_7_4_4 (S : List SC → Int) (K : List SC → Nat) (hS : S = scalS) (hK : K = keyK) (w : World) : Sx.Fn Try.prog fBut (atW w 0) [.c (.int 7), .c (.int 4), .c (.int 4)] [] 0 fun r _ => r = .c (.bool true) := but_at hS hK w 7 4 4 (by kernel_rfl)
theorem but_7_4_5 (S : List SC → Int) (K : List SC → Nat) (hS : S = scalS) (hK : K = keyK) (w : World) : Sx.Fn Try.prog fBut (atW w 0) [.c (.int 7), .c (.int 4), .c (.int 5)] [] 0 fun r _ => r = .c (.bool true) := but_at hS hK w 7 4 5 (by kernel_rfl)
theorem but_7_4_6 (S : List SC → Int) (K : List SC → Nat) (hS : S = scalS) (hK : K = keyK) (w : World) : Sx.Fn Try.prog fBut (atW w 0) [.c (.int 7), .c (.int 4), .c (.int 6)] [] 0 fun r _ => r = .c (.bool true) := but_at hS hK w 7 4 6 (by kernel_rfl)
theorem but_7_4_7 (S : List SC → Int) (K : List SC → Nat) (hS : S = scalS) (hK : K = keyK) (w : World) : Sx.Fn Try.prog fBut (atW w 0) [.c (.int 7), .c (.int 4), .c (.int 7)] [] 0 fun r _ => r = .c (.bool true) := but_at hS hK w 7 4 7 (by kernel_rfl)
theorem but_7_5_0 (S : List SC → Int) (K : List SC → Nat) (hS : S = scalS) (hK : K = keyK) (w : World) : Sx.Fn Try.prog fBut (atW w 0) [.c (.int 7), .c (.int 5), .c (.int 0)] [] 0 fun r _ => r = .c (.bool true) := but_at hS hK w 7 5 0 (by kernel_rfl)
theorem but_7_5_1 (S : List SC → Int) (K : List SC → Nat) (hS : S = scalS) (hK : K = keyK) (w : World) : Sx.Fn Try.prog fBut (atW w 0) [.c (.int 7), .c (.int 5), .c (.int 1)] [] 0 fun r _ => r = .c (.bool true) := but_at hS hK w 7 5 1 (by kernel_rfl)
theorem but_7_5_2 (S : List SC → Int) (K : List SC → Nat) (hS : S = scalS) (hK : K = keyK) (w : World) : Sx.Fn Try.prog fBut (atW w 0) [.c (.int 7), .c (.int 5), .c (.int 2)] [] 0 fun r _ => r = .c (.bool true) := but_at hS hK w 7 5 2 (by kernel_rfl)
theorem but_7_5_3 (S : List SC → Int) (K : List SC → Nat) (hS : S = scalS) (hK : K = keyK) (w : World) : Sx.Fn Try.prog fBut (atW w 0) [.c (.int 7), .c (.int 5), .c (.int 3)] [] 0 fun r _ => r = .c (.bool true) := but_at hS hK w 7 5 3 (by kernel_rfl)
theorem but_7_5_4 (S : List SC → Int) (K : List SC → Nat) (hS : S = scalS) (hK : K = keyK) (w : World) : Sx.Fn Try.prog fBut (atW w 0) [.c (.int 7), .c (.int 5), .c (.int 4)] [] 0 fun r _ => r = .c (.bool true) := but_at hS hK w 7 5 4 (by kernel_rfl)
theorem but_7_5_5 (S : List SC → Int) (K : List SC → Nat) (hS : S = scalS) (hK : K = keyK) (w : World) : Sx.Fn Try.prog fBut (atW w 0) [.c (.int 7), .c (.int 5), .c (.int 5)] [] 0 fun r _ => r = .c (.bool true) := but_at hS hK w 7 5 5 (by kernel_rfl)
theorem but_7_5_6 (S : List SC → Int) (K : List SC → Nat) (hS : S = scalS) (hK : K = keyK) (w : World) : Sx.Fn Try.prog fBut (atW w 0) [.c (.int 7), .c (.int 5), .c (.int 6)] [] 0 fun r _ => r = .c (.bool true) := but_at hS hK w 7 5 6 (by kernel_rfl)
theorem but_7_5_7 (S : List SC → Int) (K : List SC → Nat) (hS : S = scalS) (hK : K = keyK) (w : World) : Sx.Fn Try.prog fBut (atW w 0) [.c (.int 7), .c (.int 5), .c (.int 7)] [] 0 fun r _ => r = .c (.bool true) := but_at hS hK w 7 5 7 (by kernel_rfl)
theorem but_7_6_0 (S : List SC → Int) (K : List SC → Nat) (hS : S = scalS) (hK : K = keyK) (w : World) : Sx.Fn Try.prog fBut (atW w 0) [.c (.int 7), .c (.int 6), .c (.int 0)] [] 0 fun r _ => r = .c (.bool true) := but_at hS hK w 7 6 0 (by kernel_rfl)
theorem but_7_6_1 (S : List SC → Int) (K : List SC → Nat) (hS : S = scalS) (hK : K = keyK) (w : World) : Sx.Fn Try.prog fBut (atW w 0) [.c (.int 7), .c (.int 6), .c (.int 1)] [] 0 fun r _ => r = .c (.bool true) := but_at hS hK w 7 6 1 (by kernel_rfl)
theorem but_7_6_2 (S : List SC → Int) (K : List SC → Nat) (hS : S = scalS) (hK : K = keyK) (w : World) : Sx.Fn Try.prog fBut (atW w 0) [.c (.int 7), .c (.int 6), .c (.int 2)] [] 0 fun r _ => r = .c (.bool true) := but_at hS hK w 7 6 2 (by kernel_rfl)
theorem but_7_6_3 (S : List SC → Int) (K : List SC → Nat) (hS : S = scalS) (hK : K = keyK) (w : World) : Sx.Fn Try.prog fBut (atW w 0) [.c (.int 7), .c (.int 6), .c (.int 3)] [] 0 fun r _ => r = .c (.bool true) := but_at hS hK w 7 6 3 (by kernel_rfl)
theorem but_7_6_4 (S : List SC → Int) (K : List SC → Nat) (hS : S = scalS) (hK : K = keyK) (w : World) : Sx.Fn Try.prog fBut (atW w 0) [.c (.int 7), .c (.int 6), .c (.int 4)] [] 0 fun r _ => r = .c (.bool true) := but_at hS hK w 7 6 4 (by kernel_rfl)
theorem but_7_6_5 (S : List SC → Int) (K : List SC → Nat) (hS : S = scalS) (hK : K = keyK) (w : World) : Sx.Fn Try.prog fBut (atW w 0) [.c (.int 7), .c (.int 6), .c (.int 5)] [] 0 fun r _ => r = .c (.bool true) := but_at hS hK w 7 6 5 (by kernel_rfl)
theorem but_7_6_6 (S : List SC → Int) (K : List SC → Nat) (hS : S = scalS) (hK : K = keyK) (w : World) : Sx.Fn Try.prog fBut (atW w 0) [.c (.int 7), .c (.int 6), .c (.int 6)] [] 0 fun r _ => r = .c (.bool true) := but_at hS hK w 7 6 6 (by kernel_rfl)
theorem but_7_6_7 (S : List SC → Int) (K : List SC → Nat) (hS : S = scalS) (hK : K = keyK) (w : World) : Sx.Fn Try.prog fBut (atW w 0) [.c (.int 7), .c (.int 6), .c (.int 7)] [] 0 fun r _ => r = .c (.bool true) := but_at hS hK w 7 6 7 (by kernel_rfl)
theorem but_7 (w : World) (l b : Int) (h0 : 0 ≤ l) (h1 : l < 7) (h2 : 0 ≤ b) (h3 : b ≤ 7) : Sx.Fn Try.prog fBut (atW w 0) [.c (.int 7), .c (.int l), .c (.int b)] [] 0 fun r _ => r = .c (.bool true) := by
  have h : l = 0 ∨ l = 1 ∨ l = 2 ∨ l = 3 ∨ l = 4 ∨ l = 5 ∨ l = 6 := by omega
  have g : b = 0 ∨ b = 1 ∨ b = 2 ∨ b = 3 ∨ b = 4 ∨ b = 5 ∨ b = 6 ∨ b = 7 := by omega
  rcases h with rfl | rfl | rfl | rfl | rfl | rfl | rfl <;> rcases g with rfl | rfl | rfl | rfl | rfl | rfl | rfl | rfl
  · exact but_7_0_0 _ _ rfl rfl w
  · exact but_7_0_1 _ _ rfl rfl w
  · exact but_7_0_2 _ _ rfl rfl w
  · exact but_7_0_3 _ _ rfl rfl w
  · exact but_7_0_4 _ _ rfl rfl w
  · exact but_7_0_5 _ _ rfl rfl w
  · exact but_7_0_6 _ _ rfl rfl w
  · exact but_7_0_7 _ _ rfl rfl w
  · exact but_7_1_0 _ _ rfl rfl w
  · exact but_7_1_1 _ _ rfl rfl w
  · exact but_7_1_2 _ _ rfl rfl w
  · exact but_7_1_3 _ _ rfl rfl w
  · exact but_7_1_4 _ _ rfl rfl w
  · exact but_7_1_5 _ _ rfl rfl w
  · exact but_7_1_6 _ _ rfl rfl w
  · exact but_7_1_7 _ _ rfl rfl w
  · exact but_7_2_0 _ _ rfl rfl w
  · exact but_7_2_1 _ _ rfl rfl w
  · exact but_7_2_2 _ _ rfl rfl w
  · exact but_7_2_3 _ _ rfl rfl w
  · exact but_7_2_4 _ _ rfl rfl w
  · exact but_7_2_5 _ _ rfl rfl w
  · exact but_7_2_6 _ _ rfl rfl w
  · exact but_7_2_7 _ _ rfl rfl w
  · exact but_7_3_0 _ _ rfl rfl w
  · exact but_7_3_1 _ _ rfl rfl w
  · exact but_7_3_2 _ _ rfl rfl w
  · exact but_7_3_3 _ _ rfl rfl w
  · exact but_7_3_4 _ _ rfl rfl w
  · exact but_7_3_5 _ _ rfl rfl w
  · exact but_7_3_6 _ _ rfl rfl w
  · exact but_7_3_7 _ _ rfl rfl w
  · exact but_7_4_0 _ _ rfl rfl w
  · exact but_7_4_1 _ _ rfl rfl w
  · exact but_7_4_2 _ _ rfl rfl w
  · exact but_7_4_3 _ _ rfl rfl w
  · exact but_7_4_4 _ _ rfl rfl w
  · exact but_7_4_5 _ _ rfl rfl w
  · exact but_7_4_6 _ _ rfl rfl w
  · exact but_7_4_7 _ _ rfl rfl w
  · exact but_7_5_0 _ _ rfl rfl w
  · exact but_7_5_1 _ _ rfl rfl w
  · exact but_7_5_2 _ _ rfl rfl w
  · exact but_7_5_3 _ _ rfl rfl w
  · exact but_7_5_4 _ _ rfl rfl w
  · exact but_7_5_5 _ _ rfl rfl w
  · exact but_7_5_6 _ _ rfl rfl w
  · exact but_7_5_7 _ _ rfl rfl w
  · exact but_7_6_0 _ _ rfl rfl w
  · exact but_7_6_1 _ _ rfl rfl w
  · exact but_7_6_2 _ _ rfl rfl w
  · exact but_7_6_3 _ _ rfl rfl w
  · exact but_7_6_4 _ _ rfl rfl w
  · exact but_7_6_5 _ _ rfl rfl w
  · exact but_7_6_6 _ _ rfl rfl w
  · exact but_7_6_7 _ _ rfl rfl w

end Go.Proofs.Ytkpdkfeklecehaa.Ld
