/-
  The law of who is left out, 8 members.
-/
import Derived.Test.YtkpdkfeklecehaaLdB
namespace Go.Proofs.Ytkpdkfeklecehaa.Ld
open Go.RowKit Go.Proofs.Ytkpdkfeklecehaa.Sx Go.Proofs.Ytkpdkfeklecehaa.Pw
set_option linter.unusedVariables false

theorem but_8_0_0 (S : List SC → Int) (K : List SC → Nat) (hS : S = scalS) (hK : K = keyK) (w : World) : Sx.Fn Try.prog fBut (atW w 0) [.c (.int 8), .c (.int 0), .c (.int 0)] [] 0 fun r _ => r = .c (.bool true) := but_at hS hK w 8 0 0 (by kernel_rfl)
theorem but_8_0_1 (S : List SC → Int) (K : List SC → Nat) (hS : S = scalS) (hK : K = keyK) (w : World) : Sx.Fn Try.prog fBut (atW w 0) [.c (.int 8), .c (.int 0), .c (.int 1)] [] 0 fun r _ => r = .c (.bool true) := but_at hS hK w 8 0 1 (by kernel_rfl)
theorem but_8_0_2 (S : List SC → Int) (K : List SC → Nat) (hS : S = scalS) (hK : K = keyK) (w : World) : Sx.Fn Try.prog fBut (atW w 0) [.c (.int 8), .c (.int 0), .c (.int 2)] [] 0 fun r _ => r = .c (.bool true) := but_at hS hK w 8 0 2 (by kernel_rfl)
theorem but_8_0_3 (S : List SC → Int) (K : List SC → Nat) (hS : S = scalS) (hK : K = keyK) (w : World) : Sx.Fn Try.prog fBut (atW w 0) [.c (.int 8), .c (.int 0), .c (.int 3)] [] 0 fun r _ => r = .c (.bool true) := but_at hS hK w 8 0 3 (by kernel_rfl)
theorem but_8_0_4 (S : List SC → Int) (K : List SC → Nat) (hS : S = scalS) (hK : K = keyK) (w : World) : Sx.Fn Try.prog fBut (atW w 0) [.c (.int 8), .c (.int 0), .c (.int 4)] [] 0 fun r _ => r = .c (.bool true) := but_at hS hK w 8 0 4 (by kernel_rfl)
theorem but_8_0_5 (S : List SC → Int) (K : List SC → Nat) (hS : S = scalS) (hK : K = keyK) (w : World) : Sx.Fn Try.prog fBut (atW w 0) [.c (.int 8), .c (.int 0), .c (.int 5)] [] 0 fun r _ => r = .c (.bool true) := but_at hS hK w 8 0 5 (by kernel_rfl)
theorem but_8_0_6 (S : List SC → Int) (K : List SC → Nat) (hS : S = scalS) (hK : K = keyK) (w : World) : Sx.Fn Try.prog fBut (atW w 0) [.c (.int 8), .c (.int 0), .c (.int 6)] [] 0 fun r _ => r = .c (.bool true) := but_at hS hK w 8 0 6 (by kernel_rfl)
theorem but_8_0_7 (S : List SC → Int) (K : List SC → Nat) (hS : S = scalS) (hK : K = keyK) (w : World) : Sx.Fn Try.prog fBut (atW w 0) [.c (.int 8), .c (.int 0), .c (.int 7)] [] 0 fun r _ => r = .c (.bool true) := but_at hS hK w 8 0 7 (by kernel_rfl)
theorem but_8_1_0 (S : List SC → Int) (K : List SC → Nat) (hS : S = scalS) (hK : K = keyK) (w : World) : Sx.Fn Try.prog fBut (atW w 0) [.c (.int 8), .c (.int 1), .c (.int 0)] [] 0 fun r _ => r = .c (.bool true) := but_at hS hK w 8 1 0 (by kernel_rfl)
theorem but_8_1_1 (S : List SC → Int) (K : List SC → Nat) (hS : S = scalS) (hK : K = keyK) (w : World) : Sx.Fn Try.prog fBut (atW w 0) [.c (.int 8), .c (.int 1), .c (.int 1)] [] 0 fun r _ => r = .c (.bool true) := but_at hS hK w 8 1 1 (by kernel_rfl)
theorem but_8_1_2 (S : List SC → Int) (K : List SC → Nat) (hS : S = scalS) (hK : K = keyK) (w : World) : Sx.Fn Try.prog fBut (atW w 0) [.c (.int 8), .c (.int 1), .c (.int 2)] [] 0 fun r _ => r = .c (.bool true) := but_at hS hK w 8 1 2 (by kernel_rfl)
theorem but_8_1_3 (S : List SC → Int) (K : List SC → Nat) (hS : S = scalS) (hK : K = keyK) (w : World) : Sx.Fn Try.prog fBut (atW w 0) [.c (.int 8), .c (.int 1), .c (.int 3)] [] 0 fun r _ => r = .c (.bool true) := but_at hS hK w 8 1 3 (by kernel_rfl)
theorem but_8_1_4 (S : List SC → Int) (K : List SC → Nat) (hS : S = scalS) (hK : K = keyK) (w : World) : Sx.Fn Try.prog fBut (atW w 0) [.c (.int 8), .c (.int 1), .c (.int 4)] [] 0 fun r _ => r = .c (.bool true) := but_at hS hK w 8 1 4 (by kernel_rfl)
theorem but_8_1_5 (S : List SC → Int) (K : List SC → Nat) (hS : S = scalS) (hK : K = keyK) (w : World) : Sx.Fn Try.prog fBut (atW w 0) [.c (.int 8), .c (.int 1), .c (.int 5)] [] 0 fun r _ => r = .c (.bool true) := but_at hS hK w 8 1 5 (by kernel_rfl)
theorem but_8_1_6 (S : List SC → Int) (K : List SC → Nat) (hS : S = scalS) (hK : K = keyK) (w : World) : Sx.Fn Try.prog fBut (atW w 0) [.c (.int 8), .c (.int 1), .c (.int 6)] [] 0 fun r _ => r = .c (.bool true) := but_at hS hK w 8 1 6 (by kernel_rfl)
theorem but_8_1_7 (S : List SC → Int) (K : List SC → Nat) (hS : S = scalS) (hK : K = keyK) (w : World) : Sx.Fn Try.prog fBut (atW w 0) [.c (.int 8), .c (.int 1), .c (.int 7)] [] 0 fun r _ => r = .c (.bool true) := but_at hS hK w 8 1 7 (by kernel_rfl)
theorem but_8_2_0 (S : List SC → Int) (K : List SC → Nat) (hS : S = scalS) (hK : K = keyK) (w : World) : Sx.Fn Try.prog fBut (atW w 0) [.c (.int 8), .c (.int 2), .c (.int 0)] [] 0 fun r _ => r = .c (.bool true) := but_at hS hK w 8 2 0 (by kernel_rfl)
theorem but_8_2_1 (S : List SC → Int) (K : List SC → Nat) (hS : S = scalS) (hK : K = keyK) (w : World) : Sx.Fn Try.prog fBut (atW w 0) [.c (.int 8), .c (.int 2), .c (.int 1)] [] 0 fun r _ => r = .c (.bool true) := but_at hS hK w 8 2 1 (by kernel_rfl)
theorem but_8_2_2 (S : List SC → Int) (K : List SC → Nat) (hS : S = scalS) (hK : K = keyK) (w : World) : Sx.Fn Try.prog fBut (atW w 0) [.c (.int 8), .c (.int 2), .c (.int 2)] [] 0 fun r _ => r = .c (.bool true) := but_at hS hK w 8 2 2 (by kernel_rfl)
theorem but_8_2_3 (S : List SC → Int) (K : List SC → Nat) (hS : S = scalS) (hK : K = keyK) (w : World) : Sx.Fn Try.prog fBut (atW w 0) [.c (.int 8), .c (.int 2), .c (.int 3)] [] 0 fun r _ => r = .c (.bool true) := but_at hS hK w 8 2 3 (by kernel_rfl)
theorem but_8_2_4 (S : List SC → Int) (K : List SC → Nat) (hS : S = scalS) (hK : K = keyK) (w : World) : Sx.Fn Try.prog fBut (atW w 0) [.c (.int 8), .c (.int 2), .c (.int 4)] [] 0 fun r _ => r = .c (.bool true) := but_at hS hK w 8 2 4 (by kernel_rfl)
theorem but_8_2_5 (S : List SC → Int) (K : List SC → Nat) (hS : S = scalS) (hK : K = keyK) (w : World) : Sx.Fn Try.prog fBut (atW w 0) [.c (.int 8), .c (.int 2), .c (.int 5)] [] 0 fun r _ => r = .c (.bool true) := but_at hS hK w 8 2 5 (by kernel_rfl)
theorem but_8_2_6 (S : List SC → Int) (K : List SC → Nat) (hS : S = scalS) (hK : K = keyK) (w : World) : Sx.Fn Try.prog fBut (atW w 0) [.c (.int 8), .c (.int 2), .c (.int 6)] [] 0 fun r _ => r = .c (.bool true) := but_at hS hK w 8 2 6 (by kernel_rfl)
theorem but_8_2_7 (S : List SC → Int) (K : List SC → Nat) (hS : S = scalS) (hK : K = keyK) (w : World) : Sx.Fn Try.prog fBut (atW w 0) [.c (.int 8), .c (.int 2), .c (.int 7)] [] 0 fun r _ => r = .c (.bool true) := but_at hS hK w 8 2 7 (by kernel_rfl)
theorem but_8_3_0 (S : List SC → Int) (K : List SC → Nat) (hS : S = scalS) (hK : K = keyK) (w : World) : Sx.Fn Try.prog fBut (atW w 0) [.c (.int 8), .c (.int 3), .c (.int 0)] [] 0 fun r _ => r = .c (.bool true) := but_at hS hK w 8 3 0 (by kernel_rfl)
theorem but_8_3_1 (S : List SC → Int) (K : List SC → Nat) (hS : S = scalS) (hK : K = keyK) (w : World) : Sx.Fn Try.prog fBut (atW w 0) [.c (.int 8), .c (.int 3), .c (.int 1)] [] 0 fun r _ => r = .c (.bool true) := but_at hS hK w 8 3 1 (by kernel_rfl)
theorem but_8_3_2 (S : List SC → Int) (K : List SC → Nat) (hS : S = scalS) (hK : K = keyK) (w : World) : Sx.Fn Try.prog fBut (atW w 0) [.c (.int 8), .c (.int 3), .c (.int 2)] [] 0 fun r _ => r = .c (.bool true) := but_at hS hK w 8 3 2 (by kernel_rfl)
theorem but_8_3_3 (S : List SC → Int) (K : List SC → Nat) (hS : S = scalS) (hK : K = keyK) (w : World) : Sx.Fn Try.prog fBut (atW w 0) [.c (.int 8), .c (.int 3), .c (.int 3)] [] 0 fun r _ => r = .c (.bool true) := but_at hS hK w 8 3 3 (by kernel_rfl)
theorem but_8_3_4 (S : List SC → Int) (K : List SC → Nat) (hS : S = scalS) (hK : K = keyK) (w : World) : Sx.Fn Try.prog fBut (atW w 0) [.c (.int 8), .c (.int 3), .c (.int 4)] [] 0 fun r _ => r = .c (.bool true) := but_at hS hK w 8 3 4 (by kernel_rfl)
theorem but_8_3_5 (S : List SC → Int) (K : List SC → Nat) (hS : S = scalS) (hK : K = keyK) (w : World) : Sx.Fn Try.prog fBut (atW w 0) [.c (.int 8), .c (.int 3), .c (.int 5)] [] 0 fun r _ => r = .c (.bool true) := but_at hS hK w 8 3 5 (by kernel_rfl)
theorem but_8_3_6 (S : List SC → Int) (K : List SC → Nat) (hS : S = scalS) (hK : K = keyK) (w : World) : Sx.Fn Try.prog fBut (atW w 0) [.c (.int 8), .c (.int 3), .c (.int 6)] [] 0 fun r _ => r = .c (.bool true) := but_at hS hK w 8 3 6 (by kernel_rfl)
theorem but_8_3_7 (S : List SC → Int) (K : List SC → Nat) (hS : S = scalS) (hK : K = keyK) (w : World) : Sx.Fn Try.prog fBut (atW w 0) [.c (.int 8), .c (.int 3), .c (.int 7)] [] 0 fun r _ => r = .c (.bool true) := but_at hS hK w 8 3 7 (by kernel_rfl)
theorem but_8_4_0 (S : List SC → Int) (K : List SC → Nat) (hS : S = scalS) (hK : K = keyK) (w : World) : Sx.Fn Try.prog fBut (atW w 0) [.c (.int 8), .c (.int 4), .c (.int 0)] [] 0 fun r _ => r = .c (.bool true) := but_at hS hK w 8 4 0 (by kernel_rfl)
theorem but_8_4_1 (S : List SC → Int) (K : List SC → Nat) (hS : S = scalS) (hK : K = keyK) (w : World) : Sx.Fn Try.prog fBut (atW w 0) [.c (.int 8), .c (.int 4), .c (.int 1)] [] 0 fun r _ => r = .c (.bool true) := but_at hS hK w 8 4 1 (by kernel_rfl)
theorem but_8_4_2 (S : List SC → Int) (K : List SC → Nat) (hS : S = scalS) (hK : K = keyK) (w : World) : Sx.Fn Try.prog fBut (atW w 0) [.c (.int 8), .c (.int 4), .c (.int 2)] [] 0 fun r _ => r = .c (.bool true) := but_at hS hK w 8 4 2 (by kernel_rfl)
theorem but_8_4_3 (S : List SC → Int) (K : List SC → Nat) (hS : S = scalS) (hK : K = keyK) (w : World) : Sx.Fn Try.prog fBut (atW w 0) [.c (.int 8), .c (.int 4), .c (.int 3)] [] 0 fun r _ => r = .c (.bool true) := but_at hS hK w 8 4 3 (by kernel_rfl)
theorem but_8_4_4 (S : List SC → Int) (K : List SC → Nat) (hS : S = scalS) (hK : K = keyK) (w : World) : Sx.Fn Try.prog fBut (atW w 0) [.c (.int 8), .c (.int 4), .c (.int 4)] [] 0 fun r _ => r = .c (.bool true) := but_at hS hK w 8 4 4 (by kernel_rfl)
theorem but_8_4_5 (S : List SC → Int) (K : List SC → Nat) (hS : S = scalS) (hK : K = keyK) (w : World) : Sx.Fn Try.prog fBut (atW w 0) [.c (.int 8), .c (.int 4), .c (.int 5)] [] 0 fun r _ => r = .c (.bool true) := but_at hS hK w 8 4 5 (by kernel_rfl)
theorem but_8_4_6 (S : List SC → Int) (K : List SC → Nat) (hS : S = scalS) (hK : K = keyK) (w : World) : Sx.Fn Try.prog fBut (atW w 0) [.c (.int 8), .c (.int 4), .c (.int 6)] [] 0 fun r _ => r = .c (.bool true) := but_at hS hK w 8 4 6 (by kernel_rfl)
theorem but_8_4_7 (S : List SC → Int) (K : List SC → Nat) (hS : S = scalS) (hK : K = keyK) (w : World) : Sx.Fn Try.prog fBut (atW w 0) [.c (.int 8), .c (.int 4), .c (.int 7)] [] 0 fun r _ => r = .c (.bool true) := but_at hS hK w 8 4 7 (by kernel_rfl)
theorem but_8_5_0 (S : List SC → Int) (K : List SC → Nat) (hS : S = scalS) (hK : K = keyK) (w : World) : Sx.Fn Try.prog fBut (atW w 0) [.c (.int 8), .c (.int 5), .c (.int 0)] [] 0 fun r _ => r = .c (.bool true) := but_at hS hK w 8 5 0 (by kernel_rfl)
theorem but_8_5_1 (S : List SC → Int) (K : List SC → Nat) (hS : S = scalS) (hK : K = keyK) (w : World) : Sx.Fn Try.prog fBut (atW w 0) [.c (.int 8), .c (.int 5), .c (.int 1)] [] 0 fun r _ => r = .c (.bool true) := but_at hS hK w 8 5 1 (by kernel_rfl)
theorem but_8_5_2 (S : List SC → Int) (K : List SC → Nat) (hS : S = scalS) (hK : K = keyK) (w : World) : Sx.Fn Try.prog fBut (atW w 0) [.c (.int 8), .c (.int 5), .c (.int 2)] [] 0 fun r _ => r = .c (.bool true) := but_at hS hK w 8 5 2 (by kernel_rfl)
theorem but_8_5_3 (S : List SC → Int) (K : List SC → Nat) (hS : S = scalS) (hK : K = keyK) (w : World) : Sx.Fn Try.prog fBut (atW w 0) [.c (.int 8), .c (.int 5), .c (.int 3)] [] 0 fun r _ => r = .c (.bool true) := but_at hS hK w 8 5 3 (by kernel_rfl)
theorem but_8_5_4 (S : List SC → Int) (K : List SC → Nat) (hS : S = scalS) (hK : K = keyK) (w : World) : Sx.Fn Try.prog fBut (atW w 0) [.c (.int 8), .c (.int 5), .c (.int 4)] [] 0 fun r _ => r = .c (.bool true) := but_at hS hK w 8 5 4 (by kernel_rfl)
theorem but_8_5_5 (S : List SC → Int) (K : List SC → Nat) (hS : S = scalS) (hK : K = keyK) (w : World) : Sx.Fn Try.prog fBut (atW w 0) [.c (.int 8), .c (.int 5), .c (.int 5)] [] 0 fun r _ => r = .c (.bool true) := but_at hS hK w 8 5 5 (by kernel_rfl)
theorem but_8_5_6 (S : List SC → Int) (K : List SC → Nat) (hS : S = scalS) (hK : K = keyK) (w : World) : Sx.Fn Try.prog fBut (atW w 0) [.c (.int 8), .c (.int 5), .c (.int 6)] [] 0 fun r _ => r = .c (.bool true) := but_at hS hK w 8 5 6 (by kernel_rfl)
theorem but_8_5_7 (S : List SC → Int) (K : List SC → Nat) (hS : S = scalS) (hK : K = keyK) (w : World) : Sx.Fn Try.prog fBut (atW w 0) [.c (.int 8), .c (.int 5), .c (.int 7)] [] 0 fun r _ => r = .c (.bool true) := but_at hS hK w 8 5 7 (by kernel_rfl)
theorem but_8_6_0 (S : List SC → Int) (K : List SC → Nat) (hS : S = scalS) (hK : K = keyK) (w : World) : Sx.Fn Try.prog fBut (atW w 0) [.c (.int 8), .c (.int 6), .c (.int 0)] [] 0 fun r _ => r = .c (.bool true) := but_at hS hK w 8 6 0 (by kernel_rfl)
theorem but_8_6_1 (S : List SC → Int) (K : List SC → Nat) (hS : S = scalS) (hK : K = keyK) (w : World) : Sx.Fn Try.prog fBut (atW w 0) [.c (.int 8), .c (.int 6), .c (.int 1)] [] 0 fun r _ => r = .c (.bool true) := but_at hS hK w 8 6 1 (by kernel_rfl)
theorem but_8_6_2 (S : List SC → Int) (K : List SC → Nat) (hS : S = scalS) (hK : K = keyK) (w : World) : Sx.Fn Try.prog fBut (atW w 0) [.c (.int 8), .c (.int 6), .c (.int 2)] [] 0 fun r _ => r = .c (.bool true) := but_at hS hK w 8 6 2 (by kernel_rfl)
theorem but_8_6_3 (S : List SC → Int) (K : List SC → Nat) (hS : S = scalS) (hK : K = keyK) (w : World) : Sx.Fn Try.prog fBut (atW w 0) [.c (.int 8), .c (.int 6), .c (.int 3)] [] 0 fun r _ => r = .c (.bool true) := but_at hS hK w 8 6 3 (by kernel_rfl)
theorem but_8_6_4 (S : List SC → Int) (K : List SC → Nat) (hS : S = scalS) (hK : K = keyK) (w : World) : Sx.Fn Try.prog fBut (atW w 0) [.c (.int 8), .c (.int 6), .c (.int 4)] [] 0 fun r _ => r = .c (.bool true) := but_at hS hK w 8 6 4 (by kernel_rfl)
theorem but_8_6_5 (S : List SC → Int) (K : List SC → Nat) (hS : S = scalS) (hK : K = keyK) (w : World) : Sx.Fn Try.prog fBut (atW w 0) [.c (.int 8), .c (.int 6), .c (.int 5)] [] 0 fun r _ => r = .c (.bool true) := but_at hS hK w 8 6 5 (by kernel_rfl)
theorem but_8_6_6 (S : List SC → Int) (K : List SC → Nat) (hS : S = scalS) (hK : K = keyK) (w : World) : Sx.Fn Try.prog fBut (atW w 0) [.c (.int 8), .c (.int 6), .c (.int 6)] [] 0 fun r _ => r = .c (.bool true) := but_at hS hK w 8 6 6 (by kernel_rfl)
theorem but_8_6_7 (S : List SC → Int) (K : List SC → Nat) (hS : S = scalS) (hK : K = keyK) (w : World) : Sx.Fn Try.prog fBut (atW w 0) [.c (.int 8), .c (.int 6), .c (.int 7)] [] 0 fun r _ => r = .c (.bool true) := but_at hS hK w 8 6 7 (by kernel_rfl)
theorem but_8_7_0 (S : List SC → Int) (K : List SC → Nat) (hS : S = scalS) (hK : K = keyK) (w : World) : Sx.Fn Try.prog fBut (atW w 0) [.c (.int 8), .c (.int 7), .c (.int 0)] [] 0 fun r _ => r = .c (.bool true) := but_at hS hK w 8 7 0 (by kernel_rfl)
theorem but_8_7_1 (S : List SC → Int) (K : List SC → Nat) (hS : S = scalS) (hK : K = keyK) (w : World) : Sx.Fn Try.prog fBut (atW w 0) [.c (.int 8), .c (.int 7), .c (.int 1)] [] 0 fun r _ => r = .c (.bool true) := but_at hS hK w 8 7 1 (by kernel_rfl)
theorem but_8_7_2 (S : List SC → Int) (K : List SC → Nat) (hS : S = scalS) (hK : K = keyK) (w : World) : Sx.Fn Try.prog fBut (atW w 0) [.c (.int 8), .c (.int 7), .c (.int 2)] [] 0 fun r _ => r = .c (.bool true) := but_at hS hK w 8 7 2 (by kernel_rfl)
theorem but_8_7_3 (S : List SC → Int) (K : List SC → Nat) (hS : S = scalS) (hK : K = keyK) (w : World) : Sx.Fn Try.prog fBut (atW w 0) [.c (.int 8), .c (.int 7), .c (.int 3)] [] 0 fun r _ => r = .c (.bool true) := but_at hS hK w 8 7 3 (by kernel_rfl)
theorem but_8_7_4 (S : List SC → Int) (K : List SC → Nat) (hS : S = scalS) (hK : K = keyK) (w : World) : Sx.Fn Try.prog fBut (atW w 0) [.c (.int 8), .c (.int 7), .c (.int 4)] [] 0 fun r _ => r = .c (.bool true) := but_at hS hK w 8 7 4 (by kernel_rfl)
theorem but_8_7_5 (S : List SC → Int) (K : List SC → Nat) (hS : S = scalS) (hK : K = keyK) (w : World) : Sx.Fn Try.prog fBut (atW w 0) [.c (.int 8), .c (.int 7), .c (.int 5)] [] 0 fun r _ => r = .c (.bool true) := but_at hS hK w 8 7 5 (by kernel_rfl)
theorem but_8_7_6 (S : List SC → Int) (K : List SC → Nat) (hS : S = scalS) (hK : K = keyK) (w : World) : Sx.Fn Try.prog fBut (atW w 0) [.c (.int 8), .c (.int 7), .c (.int 6)] [] 0 fun r _ => r = .c (.bool true) := but_at hS hK w 8 7 6 (by kernel_rfl)
theorem but_8_7_7 (S : List SC → Int) (K : List SC → Nat) (hS : S = scalS) (hK : K = keyK) (w : World) : Sx.Fn Try.prog fBut (atW w 0) [.c (.int 8), .c (.int 7), .c (.int 7)] [] 0 fun r _ => r = .c (.bool true) := but_at hS hK w 8 7 7 (by kernel_rfl)
theorem but_8 (w : World) (l b : Int) (h0 : 0 ≤ l) (h1 : l < 8) (h2 : 0 ≤ b) (h3 : b ≤ 7) : Sx.Fn Try.prog fBut (atW w 0) [.c (.int 8), .c (.int l), .c (.int b)] [] 0 fun r _ => r = .c (.bool true) := by
  have h : l = 0 ∨ l = 1 ∨ l = 2 ∨ l = 3 ∨ l = 4 ∨ l = 5 ∨ l = 6 ∨ l = 7 := by omega
  have g : b = 0 ∨ b = 1 ∨ b = 2 ∨ b = 3 ∨ b = 4 ∨ b = 5 ∨ b = 6 ∨ b = 7 := by omega
  rcases h with rfl | rfl | rfl | rfl | rfl | rfl | rfl | rfl <;> rcases g with rfl | rfl | rfl | rfl | rfl | rfl | rfl | rfl
  · exact but_8_0_0 _ _ rfl rfl w
  · exact but_8_0_1 _ _ rfl rfl w
  · exact but_8_0_2 _ _ rfl rfl w
  · exact but_8_0_3 _ _ rfl rfl w
  · exact but_8_0_4 _ _ rfl rfl w
  · exact but_8_0_5 _ _ rfl rfl w
  · exact but_8_0_6 _ _ rfl rfl w
  · exact but_8_0_7 _ _ rfl rfl w
  · exact but_8_1_0 _ _ rfl rfl w
  · exact but_8_1_1 _ _ rfl rfl w
  · exact but_8_1_2 _ _ rfl rfl w
  · exact but_8_1_3 _ _ rfl rfl w
  · exact but_8_1_4 _ _ rfl rfl w
  · exact but_8_1_5 _ _ rfl rfl w
  · exact but_8_1_6 _ _ rfl rfl w
  · exact but_8_1_7 _ _ rfl rfl w
  · exact but_8_2_0 _ _ rfl rfl w
  · exact but_8_2_1 _ _ rfl rfl w
  · exact but_8_2_2 _ _ rfl rfl w
  · exact but_8_2_3 _ _ rfl rfl w
  · exact but_8_2_4 _ _ rfl rfl w
  · exact but_8_2_5 _ _ rfl rfl w
  · exact but_8_2_6 _ _ rfl rfl w
  · exact but_8_2_7 _ _ rfl rfl w
  · exact but_8_3_0 _ _ rfl rfl w
  · exact but_8_3_1 _ _ rfl rfl w
  · exact but_8_3_2 _ _ rfl rfl w
  · exact but_8_3_3 _ _ rfl rfl w
  · exact but_8_3_4 _ _ rfl rfl w
  · exact but_8_3_5 _ _ rfl rfl w
  · exact but_8_3_6 _ _ rfl rfl w
  · exact but_8_3_7 _ _ rfl rfl w
  · exact but_8_4_0 _ _ rfl rfl w
  · exact but_8_4_1 _ _ rfl rfl w
  · exact but_8_4_2 _ _ rfl rfl w
  · exact but_8_4_3 _ _ rfl rfl w
  · exact but_8_4_4 _ _ rfl rfl w
  · exact but_8_4_5 _ _ rfl rfl w
  · exact but_8_4_6 _ _ rfl rfl w
  · exact but_8_4_7 _ _ rfl rfl w
  · exact but_8_5_0 _ _ rfl rfl w
  · exact but_8_5_1 _ _ rfl rfl w
  · exact but_8_5_2 _ _ rfl rfl w
  · exact but_8_5_3 _ _ rfl rfl w
  · exact but_8_5_4 _ _ rfl rfl w
  · exact but_8_5_5 _ _ rfl rfl w
  · exact but_8_5_6 _ _ rfl rfl w
  · exact but_8_5_7 _ _ rfl rfl w
  · exact but_8_6_0 _ _ rfl rfl w
  · exact but_8_6_1 _ _ rfl rfl w
  · exact but_8_6_2 _ _ rfl rfl w
  · exact but_8_6_3 _ _ rfl rfl w
  · exact but_8_6_4 _ _ rfl rfl w
  · exact but_8_6_5 _ _ rfl rfl w
  · exact but_8_6_6 _ _ rfl rfl w
  · exact but_8_6_7 _ _ rfl rfl w
  · exact but_8_7_0 _ _ rfl rfl w
  · exact but_8_7_1 _ _ rfl rfl w
  · exact but_8_7_2 _ _ rfl rfl w
  · exact but_8_7_3 _ _ rfl rfl w
  · exact but_8_7_4 _ _ rfl rfl w
  · exact but_8_7_5 _ _ rfl rfl w
  · exact but_8_7_6 _ _ rfl rfl w
  · exact but_8_7_7 _ _ rfl rfl w

end Go.Proofs.Ytkpdkfeklecehaa.Ld
