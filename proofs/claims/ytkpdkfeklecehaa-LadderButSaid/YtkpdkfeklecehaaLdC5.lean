/-
  The law of who is left out, 5 members.
-/
import Derived.Test.YtkpdkfeklecehaaLdB
namespace Go.Proofs.Ytkpdkfeklecehaa.Ld
open Go.RowKit Go.Proofs.Ytkpdkfeklecehaa.Sx Go.Proofs.Ytkpdkfeklecehaa.Pw
set_option linter.unusedVariables false

theorem but_5_0_0 (S : List SC → Int) (K : List SC → Nat) (hS : S = scalS) (hK : K = keyK) (w : World) : Sx.Fn Try.prog fBut (atW w 0) [.c (.int 5), .c (.int 0), .c (.int 0)] [] 0 fun r _ => r = .c (.bool true) := but_at hS hK w 5 0 0 (by kernel_rfl)
theorem but_5_0_1 (S : List SC → Int) (K : List SC → Nat) (hS : S = scalS) (hK : K = keyK) (w : World) : Sx.Fn Try.prog fBut (atW w 0) [.c (.int 5), .c (.int 0), .c (.int 1)] [] 0 fun r _ => r = .c (.bool true) := but_at hS hK w 5 0 1 (by kernel_rfl)
theorem but_5_0_2 (S : List SC → Int) (K : List SC → Nat) (hS : S = scalS) (hK : K = keyK) (w : World) : Sx.Fn Try.prog fBut (atW w 0) [.c (.int 5), .c (.int 0), .c (.int 2)] [] 0 fun r _ => r = .c (.bool true) := but_at hS hK w 5 0 2 (by kernel_rfl)
theorem but_5_0_3 (S : List SC → Int) (K : List SC → Nat) (hS : S = scalS) (hK : K = keyK) (w : World) : Sx.Fn Try.prog fBut (atW w 0) [.c (.int 5), .c (.int 0), .c (.int 3)] [] 0 fun r _ => r = .c (.bool true) := but_at hS hK w 5 0 3 (by kernel_rfl)
theorem but_5_0_4 (S : List SC → Int) (K : List SC → Nat) (hS : S = scalS) (hK : K = keyK) (w : World) : Sx.Fn Try.prog fBut (atW w 0) [.c (.int 5), .c (.int 0), .c (.int 4)] [] 0 fun r _ => r = .c (.bool true) := but_at hS hK w 5 0 4 (by kernel_rfl)
theorem but_5_0_5 (S : List SC → Int) (K : List SC → Nat) (hS : S = scalS) (hK : K = keyK) (w : World) : Sx.Fn Try.prog fBut (atW w 0) [.c (.int 5), .c (.int 0), .c (.int 5)] [] 0 fun r _ => r = .c (.bool true) := but_at hS hK w 5 0 5 (by kernel_rfl)
theorem but_5_0_6 (S : List SC → Int) (K : List SC → Nat) (hS : S = scalS) (hK : K = keyK) (w : World) : Sx.Fn Try.prog fBut (atW w 0) [.c (.int 5), .c (.int 0), .c (.int 6)] [] 0 fun r _ => r = .c (.bool true) := but_at hS hK w 5 0 6 (by kernel_rfl)
theorem but_5_0_7 (S : List SC → Int) (K : List SC → Nat) (hS : S = scalS) (hK : K = keyK) (w : World) : Sx.Fn Try.prog fBut (atW w 0) [.c (.int 5), .c (.int 0), .c (.int 7)] [] 0 fun r _ => r = .c (.bool true) := but_at hS hK w 5 0 7 (by kernel_rfl)
theorem but_5_1_0 (S : List SC → Int) (K : List SC → Nat) (hS : S = scalS) (hK : K = keyK) (w : World) : Sx.Fn Try.prog fBut (atW w 0) [.c (.int 5), .c (.int 1), .c (.int 0)] [] 0 fun r _ => r = .c (.bool true) := but_at hS hK w 5 1 0 (by kernel_rfl)
theorem but_5_1_1 (S : List SC → Int) (K : List SC → Nat) (hS : S = scalS) (hK : K = keyK) (w : World) : Sx.Fn Try.prog fBut (atW w 0) [.c (.int 5), .c (.int 1), .c (.int 1)] [] 0 fun r _ => r = .c (.bool true) := but_at hS hK w 5 1 1 (by kernel_rfl)
theorem but_5_1_2 (S : List SC → Int) (K : List SC → Nat) (hS : S = scalS) (hK : K = keyK) (w : World) : Sx.Fn Try.prog fBut (atW w 0) [.c (.int 5), .c (.int 1), .c (.int 2)] [] 0 fun r _ => r = .c (.bool true) := but_at hS hK w 5 1 2 (by kernel_rfl)
theorem but_5_1_3 (S : List SC → Int) (K : List SC → Nat) (hS : S = scalS) (hK : K = keyK) (w : World) : Sx.Fn Try.prog fBut (atW w 0) [.c (.int 5), .c (.int 1), .c (.int 3)] [] 0 fun r _ => r = .c (.bool true) := but_at hS hK w 5 1 3 (by kernel_rfl)
theorem but_5_1_4 (S : List SC → Int) (K : List SC → Nat) (hS : S = scalS) (hK : K = keyK) (w : World) : Sx.Fn Try.prog fBut (atW w 0) [.c (.int 5), .c (.int 1), .c (.int 4)] [] 0 fun r _ => r = .c (.bool true) := but_at hS hK w 5 1 4 (by kernel_rfl)
theorem but_5_1_5 (S : List SC → Int) (K : List SC → Nat) (hS : S = scalS) (hK : K = keyK) (w : World) : Sx.Fn Try.prog fBut (atW w 0) [.c (.int 5), .c (.int 1), .c (.int 5)] [] 0 fun r _ => r = .c (.bool true) := but_at hS hK w 5 1 5 (by kernel_rfl)
theorem but_5_1_6 (S : List SC → Int) (K : List SC → Nat) (hS : S = scalS) (hK : K = keyK) (w : World) : Sx.Fn Try.prog fBut (atW w 0) [.c (.int 5), .c (.int 1), .c (.int 6)] [] 0 fun r _ => r = .c (.bool true) := but_at hS hK w 5 1 6 (by kernel_rfl)
theorem but_5_1_7 (S : List SC → Int) (K : List SC → Nat) (hS : S = scalS) (hK : K = keyK) (w : World) : Sx.Fn Try.prog fBut (atW w 0) [.c (.int 5), .c (.int 1), .c (.int 7)] [] 0 fun r _ => r = .c (.bool true) := but_at hS hK w 5 1 7 (by kernel_rfl)
theorem but_5_2_0 (S : List SC → Int) (K : List SC → Nat) (hS : S = scalS) (hK : K = keyK) (w : World) : Sx.Fn Try.prog fBut (atW w 0) [.c (.int 5), .c (.int 2), .c (.int 0)] [] 0 fun r _ => r = .c (.bool true) := but_at hS hK w 5 2 0 (by kernel_rfl)
theorem but_5_2_1 (S : List SC → Int) (K : List SC → Nat) (hS : S = scalS) (hK : K = keyK) (w : World) : Sx.Fn Try.prog fBut (atW w 0) [.c (.int 5), .c (.int 2), .c (.int 1)] [] 0 fun r _ => r = .c (.bool true) := but_at hS hK w 5 2 1 (by kernel_rfl)
theorem but_5_2_2 (S : List SC → Int) (K : List SC → Nat) (hS : S = scalS) (hK : K = keyK) (w : World) : Sx.Fn Try.prog fBut (atW w 0) [.c (.int 5), .c (.int 2), .c (.int 2)] [] 0 fun r _ => r = .c (.bool true) := but_at hS hK w 5 2 2 (by kernel_rfl)
theorem but_5_2_3 (S : List SC → Int) (K : List SC → Nat) (hS : S = scalS) (hK : K = keyK) (w : World) : Sx.Fn Try.prog fBut (atW w 0) [.c (.int 5), .c (.int 2), .c (.int 3)] [] 0 fun r _ => r = .c (.bool true) := but_at hS hK w 5 2 3 (by kernel_rfl)
theorem but_5_2_4 (S : List SC → Int) (K : List SC → Nat) (hS : S = scalS) (hK : K = keyK) (w : World) : Sx.Fn Try.prog fBut (atW w 0) [.c (.int 5), .c (.int 2), .c (.int 4)] [] 0 fun r _ => r = .c (.bool true) := but_at hS hK w 5 2 4 (by kernel_rfl)
theorem but_5_2_5 (S : List SC → Int) (K : List SC → Nat) (hS : S = scalS) (hK : K = keyK) (w : World) : Sx.Fn Try.prog fBut (atW w 0) [.c (.int 5), .c (.int 2), .c (.int 5)] [] 0 fun r _ => r = .c (.bool true) := but_at hS hK w 5 2 5 (by kernel_rfl)
theorem but_5_2_6 (S : List SC → Int) (K : List SC → Nat) (hS : S = scalS) (hK : K = keyK) (w : World) : Sx.Fn Try.prog fBut (atW w 0) [.c (.int 5), .c (.int 2), .c (.int 6)] [] 0 fun r _ => r = .c (.bool true) := but_at hS hK w 5 2 6 (by kernel_rfl)
theorem but_5_2_7 (S : List SC → Int) (K : List SC → Nat) (hS : S = scalS) (hK : K = keyK) (w : World) : Sx.Fn Try.prog fBut (atW w 0) [.c (.int 5), .c (.int 2), .c (.int 7)] [] 0 fun r _ => r = .c (.bool true) := but_at hS hK w 5 2 7 (by kernel_rfl)
theorem but_5_3_0 (S : List SC → Int) (K : List SC → Nat) (hS : S = scalS) (hK : K = keyK) (w : World) : Sx.Fn Try.prog fBut (atW w 0) [.c (.int 5), .c (.int 3), .c (.int 0)] [] 0 fun r _ => r = .c (.bool true) := but_at hS hK w 5 3 0 (by kernel_rfl)
theorem but_5_3_1 (S : List SC → Int) (K : List SC → Nat) (hS : S = scalS) (hK : K = keyK) (w : World) : Sx.Fn Try.prog fBut (atW w 0) [.c (.int 5), .c (.int 3), .c (.int 1)] [] 0 fun r _ => r = .c (.bool true) := but_at hS hK w 5 3 1 (by kernel_rfl)
theorem but_5_3_2 (S : List SC → Int) (K : List SC → Nat) (hS : S = scalS) (hK : K = keyK) (w : World) : Sx.Fn Try.prog fBut (atW w 0) [.c (.int 5), .c (.int 3), .c (.int 2)] [] 0 fun r _ => r = .c (.bool true) := but_at hS hK w 5 3 2 (by kernel_rfl)
theorem but_5_3_3 (S : List SC → Int) (K : List SC → Nat) (hS : S = scalS) (hK : K = keyK) (w : World) : Sx.Fn Try.prog fBut (atW w 0) [.c (.int 5), .c (.int 3), .c (.int 3)] [] 0 fun r _ => r = .c (.bool true) := but_at hS hK w 5 3 3 (by kernel_rfl)
theorem but_5_3_4 (S : List SC → Int) (K : List SC → Nat) (hS : S = scalS) (hK : K = keyK) (w : World) : Sx.Fn Try.prog fBut (atW w 0) [.c (.int 5), .c (.int 3), .c (.int 4)] [] 0 fun r _ => r = .c (.bool true) := but_at hS hK w 5 3 4 (by kernel_rfl)
theorem but_5_3_5 (S : List SC → Int) (K : List SC → Nat) (hS : S = scalS) (hK : K = keyK) (w : World) : Sx.Fn Try.prog fBut (atW w 0) [.c (.int 5), .c (.int 3), .c (.int 5)] [] 0 fun r _ => r = .c (.bool true) := but_at hS hK w 5 3 5 (by kernel_rfl)
theorem but_5_3_6 (S : List SC → Int) (K : List SC → Nat) (hS : S = scalS) (hK : K = keyK) (w : World) : Sx.Fn Try.prog fBut (atW w 0) [.c (.int 5), .c (.int 3), .c (.int 6)] [] 0 fun r _ => r = .c (.bool true) := but_at hS hK w 5 3 6 (by kernel_rfl)
theorem but_5_3_7 (S : List SC → Int) (K : List SC → Nat) (hS : S = scalS) (hK : K = keyK) (w : World) : Sx.Fn Try.prog fBut (atW w 0) [.c (.int 5), .c (.int 3), .c (.int 7)] [] 0 fun r _ => r = .c (.bool true) := but_at hS hK w 5 3 7 (by kernel_rfl)
theorem but_5_4_0 (S : List SC → Int) (K : List SC → Nat) (hS : S = scalS) (hK : K = keyK) (w : World) : Sx.Fn Try.prog fBut (atW w 0) [.c (.int 5), .c (.int 4), .c (.int 0)] [] 0 fun r _ => r = .c (.bool true) := but_at hS hK w 5 4 0 (by kernel_rfl)
theorem but_5_4_1 (S : List SC → Int) (K : List SC → Nat) (hS : S = scalS) (hK : K = keyK) (w : World) : Sx.Fn Try.prog fBut (atW w 0) [.c (.int 5), .c (.int 4), .c (.int 1)] [] 0 fun r _ => r = .c (.bool true) := but_at hS hK w 5 4 1 (by kernel_rfl)
theorem but_5_4_2 (S : List SC → Int) (K : List SC → Nat) (hS : S = scalS) (hK : K = keyK) (w : World) : Sx.Fn Try.prog fBut (atW w 0) [.c (.int 5), .c (.int 4), .c (.int 2)] [] 0 fun r _ => r = .c (.bool true) := but_at hS hK w 5 4 2 (by kernel_rfl)
theorem but_5_4_3 (S : List SC → Int) (K : List SC → Nat) (hS : S = scalS) (hK : K = keyK) (w : World) : Sx.Fn Try.prog fBut (atW w 0) [.c (.int 5), .c (.int 4), .c (.int 3)] [] 0 fun r _ => r = .c (.bool true) := but_at hS hK w 5 4 3 (by kernel_rfl)
theorem but_5_4_4 (S : List SC → Int) (K : List SC → Nat) (hS : S = scalS) (hK : K = keyK) (w : World) : Sx.Fn Try.prog fBut (atW w 0) [.c (.int 5), .c (.int 4), .c (.int 4)] [] 0 fun r _ => r = .c (.bool true) := but_at hS hK w 5 4 4 (by kernel_rfl)
theorem but_5_4_5 (S : List SC → Int) (K : List SC → Nat) (hS : S = scalS) (hK : K = keyK) (w : World) : Sx.Fn Try.prog fBut (atW w 0) [.c (.int 5), .c (.int 4), .c (.int 5)] [] 0 fun r _ => r = .c (.bool true) := but_at hS hK w 5 4 5 (by kernel_rfl)
theorem but_5_4_6 (S : List SC → Int) (K : List SC → Nat) (hS : S = scalS) (hK : K = keyK) (w : World) : Sx.Fn Try.prog fBut (atW w 0) [.c (.int 5), .c (.int 4), .c (.int 6)] [] 0 fun r _ => r = .c (.bool true) := but_at hS hK w 5 4 6 (by kernel_rfl)
theorem but_5_4_7 (S : List SC → Int) (K : List SC → Nat) (hS : S = scalS) (hK : K = keyK) (w : World) : Sx.Fn Try.prog fBut (atW w 0) [.c (.int 5), .c (.int 4), .c (.int 7)] [] 0 fun r _ => r = .c (.bool true) := but_at hS hK w 5 4 7 (by kernel_rfl)
theorem but_5 (w : World) (l b : Int) (h0 : 0 ≤ l) (h1 : l < 5) (h2 : 0 ≤ b) (h3 : b ≤ 7) : Sx.Fn Try.prog fBut (atW w 0) [.c (.int 5), .c (.int l), .c (.int b)] [] 0 fun r _ => r = .c (.bool true) := by
  have h : l = 0 ∨ l = 1 ∨ l = 2 ∨ l = 3 ∨ l = 4 := by omega
  have g : b = 0 ∨ b = 1 ∨ b = 2 ∨ b = 3 ∨ b = 4 ∨ b = 5 ∨ b = 6 ∨ b = 7 := by omega
  rcases h with rfl | rfl | rfl | rfl | rfl <;> rcases g with rfl | rfl | rfl | rfl | rfl | rfl | rfl | rfl
  · exact but_5_0_0 _ _ rfl rfl w
  · exact but_5_0_1 _ _ rfl rfl w
  · exact but_5_0_2 _ _ rfl rfl w
  · exact but_5_0_3 _ _ rfl rfl w
  · exact but_5_0_4 _ _ rfl rfl w
  · exact but_5_0_5 _ _ rfl rfl w
  · exact but_5_0_6 _ _ rfl rfl w
  · exact but_5_0_7 _ _ rfl rfl w
  · exact but_5_1_0 _ _ rfl rfl w
  · exact but_5_1_1 _ _ rfl rfl w
  · exact but_5_1_2 _ _ rfl rfl w
  · exact but_5_1_3 _ _ rfl rfl w
  · exact but_5_1_4 _ _ rfl rfl w
  · exact but_5_1_5 _ _ rfl rfl w
  · exact but_5_1_6 _ _ rfl rfl w
  · exact but_5_1_7 _ _ rfl rfl w
  · exact but_5_2_0 _ _ rfl rfl w
  · exact but_5_2_1 _ _ rfl rfl w
  · exact but_5_2_2 _ _ rfl rfl w
  · exact but_5_2_3 _ _ rfl rfl w
  · exact but_5_2_4 _ _ rfl rfl w
  · exact but_5_2_5 _ _ rfl rfl w
  · exact but_5_2_6 _ _ rfl rfl w
  · exact but_5_2_7 _ _ rfl rfl w
  · exact but_5_3_0 _ _ rfl rfl w
  · exact but_5_3_1 _ _ rfl rfl w
  · exact but_5_3_2 _ _ rfl rfl w
  · exact but_5_3_3 _ _ rfl rfl w
  · exact but_5_3_4 _ _ rfl rfl w
  · exact but_5_3_5 _ _ rfl rfl w
  · exact but_5_3_6 _ _ rfl rfl w
  · exact but_5_3_7 _ _ rfl rfl w
  · exact but_5_4_0 _ _ rfl rfl w
  · exact but_5_4_1 _ _ rfl rfl w
  · exact but_5_4_2 _ _ rfl rfl w
  · exact but_5_4_3 _ _ rfl rfl w
  · exact but_5_4_4 _ _ rfl rfl w
  · exact but_5_4_5 _ _ rfl rfl w
  · exact but_5_4_6 _ _ rfl rfl w
  · exact but_5_4_7 _ _ rfl rfl w

end Go.Proofs.Ytkpdkfeklecehaa.Ld
