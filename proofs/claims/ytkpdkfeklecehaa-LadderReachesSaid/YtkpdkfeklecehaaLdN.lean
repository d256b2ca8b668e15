/-
  The document's places: whether a leaf is under a node, where two paths meet.
-/
import Derived.Test.YtkpdkfeklecehaaLdM
namespace Go.Proofs.Ytkpdkfeklecehaa.Ld
open Go.RowKit Go.Proofs.Ytkpdkfeklecehaa.Sx Go.Proofs.Ytkpdkfeklecehaa.Pw Go.Proofs.Ytkpdkfeklecehaa.Vw
set_option linter.unusedVariables false
set_option linter.unusedSimpArgs false
set_option maxRecDepth 10000

abbrev fUnder : Nat := 11
abbrev fCommon : Nat := 12
noncomputable abbrev unL : List (Nat × Con) := deep Try.prog 1000 [27, 10] [] 3
theorem unL_ok : LibOK Try.prog unL := deep_ok (LibOK.nil _) Sp.mixed (by kernel_rfl) 3
def underB (n i : Nat) : Bool := Nat.beq n (2 * i) || (Nat.beq n (i / 2 * 4 + 1) || (Nat.beq n (i / 4 * 8 + 3) || Nat.beq n 7))
def UnAt (n i : Nat) : Prop := (xfunL Try.prog unL 1000 fUnder [.c (.int (Int.ofNat n)), .c (.int (Int.ofNat i))] [] 0 []).map (fun q => (q.1, q.2.1, q.2.2.1)) = some (true, [], .c (.bool (underB n i)))
theorem un_0_0 : (xfunL Try.prog unL 1000 fUnder [.c (.int (Int.ofNat 0)), .c (.int (Int.ofNat 0))] [] 0 []).map (fun q => (q.1, q.2.1, q.2.2.1)) = some (true, [], .c (.bool (underB 0 0))) := by kernel_rfl
theorem un_1_0 : (xfunL Try.prog unL 1000 fUnder [.c (.int (Int.ofNat 1)), .c (.int (Int.ofNat 0))] [] 0 []).map (fun q => (q.1, q.2.1, q.2.2.1)) = some (true, [], .c (.bool (underB 1 0))) := by kernel_rfl
theorem un_2_0 : (xfunL Try.prog unL 1000 fUnder [.c (.int (Int.ofNat 2)), .c (.int (Int.ofNat 0))] [] 0 []).map (fun q => (q.1, q.2.1, q.2.2.1)) = some (true, [], .c (.bool (underB 2 0))) := by kernel_rfl
theorem un_3_0 : (xfunL Try.prog unL 1000 fUnder [.c (.int (Int.ofNat 3)), .c (.int (Int.ofNat 0))] [] 0 []).map (fun q => (q.1, q.2.1, q.2.2.1)) = some (true, [], .c (.bool (underB 3 0))) := by kernel_rfl
theorem un_4_0 : (xfunL Try.prog unL 1000 fUnder [.c (.int (Int.ofNat 4)), .c (.int (Int.ofNat 0))] [] 0 []).map (fun q => (q.1, q.2.1, q.2.2.1)) = some (true, [], .c (.bool (underB 4 0))) := by kernel_rfl
theorem un_5_0 : (xfunL Try.prog unL 1000 fUnder [.c (.int (Int.ofNat 5)), .c (.int (Int.ofNat 0))] [] 0 []).map (fun q => (q.1, q.2.1, q.2.2.1)) = some (true, [], .c (.bool (underB 5 0))) := by kernel_rfl
theorem un_6_0 : (xfunL Try.prog unL 1000 fUnder [.c (.int (Int.ofNat 6)), .c (.int (Int.ofNat 0))] [] 0 []).map (fun q => (q.1, q.2.1, q.2.2.1)) = some (true, [], .c (.bool (underB 6 0))) := by kernel_rfl
theorem un_7_0 : (xfunL Try.prog unL 1000 fUnder [.c (.int (Int.ofNat 7)), .c (.int (Int.ofNat 0))] [] 0 []).map (fun q => (q.1, q.2.1, q.2.2.1)) = some (true, [], .c (.bool (underB 7 0))) := by kernel_rfl
theorem un_8_0 : (xfunL Try.prog unL 1000 fUnder [.c (.int (Int.ofNat 8)), .c (.int (Int.ofNat 0))] [] 0 []).map (fun q => (q.1, q.2.1, q.2.2.1)) = some (true, [], .c (.bool (underB 8 0))) := by kernel_rfl
theorem un_9_0 : (xfunL Try.prog unL 1000 fUnder [.c (.int (Int.ofNat 9)), .c (.int (Int.ofNat 0))] [] 0 []).map (fun q => (q.1, q.2.1, q.2.2.1)) = some (true, [], .c (.bool (underB 9 0))) := by kernel_rfl
theorem un_10_0 : (xfunL Try.prog unL 1000 fUnder [.c (.int (Int.ofNat 10)), .c (.int (Int.ofNat 0))] [] 0 []).map (fun q => (q.1, q.2.1, q.2.2.1)) = some (true, [], .c (.bool (underB 10 0))) := by kernel_rfl
theorem un_11_0 : (xfunL Try.prog unL 1000 fUnder [.c (.int (Int.ofNat 11)), .c (.int (Int.ofNat 0))] [] 0 []).map (fun q => (q.1, q.2.1, q.2.2.1)) = some (true, [], .c (.bool (underB 11 0))) := by kernel_rfl
theorem un_12_0 : (xfunL Try.prog unL 1000 fUnder [.c (.int (Int.ofNat 12)), .c (.int (Int.ofNat 0))] [] 0 []).map (fun q => (q.1, q.2.1, q.2.2.1)) = some (true, [], .c (.bool (underB 12 0))) := by kernel_rfl
theorem un_13_0 : (xfunL Try.prog unL 1000 fUnder [.c (.int (Int.ofNat 13)), .c (.int (Int.ofNat 0))] [] 0 []).map (fun q => (q.1, q.2.1, q.2.2.1)) = some (true, [], .c (.bool (underB 13 0))) := by kernel_rfl
theorem un_14_0 : (xfunL Try.prog unL 1000 fUnder [.c (.int (Int.ofNat 14)), .c (.int (Int.ofNat 0))] [] 0 []).map (fun q => (q.1, q.2.1, q.2.2.1)) = some (true, [], .c (.bool (underB 14 0))) := by kernel_rfl
theorem un_0_1 : (xfunL Try.prog unL 1000 fUnder [.c (.int (Int.ofNat 0)), .c (.int (Int.ofNat 1))] [] 0 []).map (fun q => (q.1, q.2.1, q.2.2.1)) = some (true, [], .c (.bool (underB 0 1))) := by kernel_rfl
theorem un_1_1 : (xfunL Try.prog unL 1000 fUnder [.c (.int (Int.ofNat 1)), .c (.int (Int.ofNat 1))] [] 0 []).map (fun q => (q.1, q.2.1, q.2.2.1)) = some (true, [], .c (.bool (underB 1 1))) := by kernel_rfl
theorem un_2_1 : (xfunL Try.prog unL 1000 fUnder [.c (.int (Int.ofNat 2)), .c (.int (Int.ofNat 1))] [] 0 []).map (fun q => (q.1, q.2.1, q.2.2.1)) = some (true, [], .c (.bool (underB 2 1))) := by kernel_rfl
theorem un_3_1 : (xfunL Try.prog unL 1000 fUnder [.c (.int (Int.ofNat 3)), .c (.int (Int.ofNat 1))] [] 0 []).map (fun q => (q.1, q.2.1, q.2.2.1)) = some (true, [], .c (.bool (underB 3 1))) := by kernel_rfl
theorem un_4_1 : (xfunL Try.prog unL 1000 fUnder [.c (.int (Int.ofNat 4)), .c (.int (Int.ofNat 1))] [] 0 []).map (fun q => (q.1, q.2.1, q.2.2.1)) = some (true, [], .c (.bool (underB 4 1))) := by kernel_rfl
theorem un_5_1 : (xfunL Try.prog unL 1000 fUnder [.c (.int (Int.ofNat 5)), .c (.int (Int.ofNat 1))] [] 0 []).map (fun q => (q.1, q.2.1, q.2.2.1)) = some (true, [], .c (.bool (underB 5 1))) := by kernel_rfl
theorem un_6_1 : (xfunL Try.prog unL 1000 fUnder [.c (.int (Int.ofNat 6)), .c (.int (Int.ofNat 1))] [] 0 []).map (fun q => (q.1, q.2.1, q.2.2.1)) = some (true, [], .c (.bool (underB 6 1))) := by kernel_rfl
theorem un_7_1 : (xfunL Try.prog unL 1000 fUnder [.c (.int (Int.ofNat 7)), .c (.int (Int.ofNat 1))] [] 0 []).map (fun q => (q.1, q.2.1, q.2.2.1)) = some (true, [], .c (.bool (underB 7 1))) := by kernel_rfl
theorem un_8_1 : (xfunL Try.prog unL 1000 fUnder [.c (.int (Int.ofNat 8)), .c (.int (Int.ofNat 1))] [] 0 []).map (fun q => (q.1, q.2.1, q.2.2.1)) = some (true, [], .c (.bool (underB 8 1))) := by kernel_rfl
theorem un_9_1 : (xfunL Try.prog unL 1000 fUnder [.c (.int (Int.ofNat 9)), .c (.int (Int.ofNat 1))] [] 0 []).map (fun q => (q.1, q.2.1, q.2.2.1)) = some (true, [], .c (.bool (underB 9 1))) := by kernel_rfl
theorem un_10_1 : (xfunL Try.prog unL 1000 fUnder [.c (.int (Int.ofNat 10)), .c (.int (Int.ofNat 1))] [] 0 []).map (fun q => (q.1, q.2.1, q.2.2.1)) = some (true, [], .c (.bool (underB 10 1))) := by kernel_rfl
theorem un_11_1 : (xfunL Try.prog unL 1000 fUnder [.c (.int (Int.ofNat 11)), .c (.int (Int.ofNat 1))] [] 0 []).map (fun q => (q.1, q.2.1, q.2.2.1)) = some (true, [], .c (.bool (underB 11 1))) := by kernel_rfl
theorem un_12_1 : (xfunL Try.prog unL 1000 fUnder [.c (.int (Int.ofNat 12)), .c (.int (Int.ofNat 1))] [] 0 []).map (fun q => (q.1, q.2.1, q.2.2.1)) = some (true, [], .c (.bool (underB 12 1))) := by kernel_rfl
theorem un_13_1 : (xfunL Try.prog unL 1000 fUnder [.c (.int (Int.ofNat 13)), .c (.int (Int.ofNat 1))] [] 0 []).map (fun q => (q.1, q.2.1, q.2.2.1)) = some (true, [], .c (.bool (underB 13 1))) := by kernel_rfl
theorem un_14_1 : (xfunL Try.prog unL 1000 fUnder [.c (.int (Int.ofNat 14)), .c (.int (Int.ofNat 1))] [] 0 []).map (fun q => (q.1, q.2.1, q.2.2.1)) = some (true, [], .c (.bool (underB 14 1))) := by kernel_rfl
theorem un_0_2 : (xfunL Try.prog unL 1000 fUnder [.c (.int (Int.ofNat 0)), .c (.int (Int.ofNat 2))] [] 0 []).map (fun q => (q.1, q.2.1, q.2.2.1)) = some (true, [], .c (.bool (underB 0 2))) := by kernel_rfl
theorem un_1_2 : (xfunL Try.prog unL 1000 fUnder [.c (.int (Int.ofNat 1)), .c (.int (Int.ofNat 2))] [] 0 []).map (fun q => (q.1, q.2.1, q.2.2.1)) = some (true, [], .c (.bool (underB 1 2))) := by kernel_rfl
theorem un_2_2 : (xfunL Try.prog unL 1000 fUnder [.c (.int (Int.ofNat 2)), .c (.int (Int.ofNat 2))] [] 0 []).map (fun q => (q.1, q.2.1, q.2.2.1)) = some (true, [], .c (.bool (underB 2 2))) := by kernel_rfl
theorem un_3_2 : (xfunL Try.prog unL 1000 fUnder [.c (.int (Int.ofNat 3)), .c (.int (Int.ofNat 2))] [] 0 []).map (fun q => (q.1, q.2.1, q.2.2.1)) = some (true, [], .c (.bool (underB 3 2))) := by kernel_rfl
theorem un_4_2 : (xfunL Try.prog unL 1000 fUnder [.c (.int (Int.ofNat 4)), .c (.int (Int.ofNat 2))] [] 0 []).map (fun q => (q.1, q.2.1, q.2.2.1)) = some (true, [], .c (.bool (underB 4 2))) := by kernel_rfl
theorem un_5_2 : (xfunL Try.prog unL 1000 fUnder [.c (.int (Int.ofNat 5)), .c (.int (Int.ofNat 2))] [] 0 []).map (fun q => (q.1, q.2.1, q.2.2.1)) = some (true, [], .c (.bool (underB 5 2))) := by kernel_rfl
theorem un_6_2 : (xfunL Try.prog unL 1000 fUnder [.c (.int (Int.ofNat 6)), .c (.int (Int.ofNat 2))] [] 0 []).map (fun q => (q.1, q.2.1, q.2.2.1)) = some (true, [], .c (.bool (underB 6 2))) := by kernel_rfl
theorem un_7_2 : (xfunL Try.prog unL 1000 fUnder [.c (.int (Int.ofNat 7)), .c (.int (Int.ofNat 2))] [] 0 []).map (fun q => (q.1, q.2.1, q.2.2.1)) = some (true, [], .c (.bool (underB 7 2))) := by kernel_rfl
theorem un_8_2 : (xfunL Try.prog unL 1000 fUnder [.c (.int (Int.ofNat 8)), .c (.int (Int.ofNat 2))] [] 0 []).map (fun q => (q.1, q.2.1, q.2.2.1)) = some (true, [], .c (.bool (underB 8 2))) := by kernel_rfl
theorem un_9_2 : (xfunL Try.prog unL 1000 fUnder [.c (.int (Int.ofNat 9)), .c (.int (Int.ofNat 2))] [] 0 []).map (fun q => (q.1, q.2.1, q.2.2.1)) = some (true, [], .c (.bool (underB 9 2))) := by kernel_rfl
theorem un_10_2 : (xfunL Try.prog unL 1000 fUnder [.c (.int (Int.ofNat 10)), .c (.int (Int.ofNat 2))] [] 0 []).map (fun q => (q.1, q.2.1, q.2.2.1)) = some (true, [], .c (.bool (underB 10 2))) := by kernel_rfl
theorem un_11_2 : (xfunL Try.prog unL 1000 fUnder [.c (.int (Int.ofNat 11)), .c (.int (Int.ofNat 2))] [] 0 []).map (fun q => (q.1, q.2.1, q.2.2.1)) = some (true, [], .c (.bool (underB 11 2))) := by kernel_rfl
theorem un_12_2 : (xfunL Try.prog unL 1000 fUnder [.c (.int (Int.ofNat 12)), .c (.int (Int.ofNat 2))] [] 0 []).map (fun q => (q.1, q.2.1, q.2.2.1)) = some (true, [], .c (.bool (underB 12 2))) := by kernel_rfl
theorem un_13_2 : (xfunL Try.prog unL 1000 fUnder [.c (.int (Int.ofNat 13)), .c (.int (Int.ofNat 2))] [] 0 []).map (fun q => (q.1, q.2.1, q.2.2.1)) = some (true, [], .c (.bool (underB 13 2))) := by kernel_rfl
theorem un_14_2 : (xfunL Try.prog unL 1000 fUnder [.c (.int (Int.ofNat 14)), .c (.int (Int.ofNat 2))] [] 0 []).map (fun q => (q.1, q.2.1, q.2.2.1)) = some (true, [], .c (.bool (underB 14 2))) := by kernel_rfl
theorem un_0_3 : (xfunL Try.prog unL 1000 fUnder [.c (.int (Int.ofNat 0)), .c (.int (Int.ofNat 3))] [] 0 []).map (fun q => (q.1, q.2.1, q.2.2.1)) = some (true, [], .c (.bool (underB 0 3))) := by kernel_rfl
theorem un_1_3 : (xfunL Try.prog unL 1000 fUnder [.c (.int (Int.ofNat 1)), .c (.int (Int.ofNat 3))] [] 0 []).map (fun q => (q.1, q.2.1, q.2.2.1)) = some (true, [], .c (.bool (underB 1 3))) := by kernel_rfl
theorem un_2_3 : (xfunL Try.prog unL 1000 fUnder [.c (.int (Int.ofNat 2)), .c (.int (Int.ofNat 3))] [] 0 []).map (fun q => (q.1, q.2.1, q.2.2.1)) = some (true, [], .c (.bool (underB 2 3))) := by kernel_rfl
theorem un_3_3 : (xfunL Try.prog unL 1000 fUnder [.c (.int (Int.ofNat 3)), .c (.int (Int.ofNat 3))] [] 0 []).map (fun q => (q.1, q.2.1, q.2.2.1)) = some (true, [], .c (.bool (underB 3 3))) := by kernel_rfl
theorem un_4_3 : (xfunL Try.prog unL 1000 fUnder [.c (.int (Int.ofNat 4)), .c (.int (Int.ofNat 3))] [] 0 []).map (fun q => (q.1, q.2.1, q.2.2.1)) = some (true, [], .c (.bool (underB 4 3))) := by kernel_rfl
theorem un_5_3 : (xfunL Try.prog unL 1000 fUnder [.c (.int (Int.ofNat 5)), .c (.int (Int.ofNat 3))] [] 0 []).map (fun q => (q.1, q.2.1, q.2.2.1)) = some (true, [], .c (.bool (underB 5 3))) := by kernel_rfl
theorem un_6_3 : (xfunL Try.prog unL 1000 fUnder [.c (.int (Int.ofNat 6)), .c (.int (Int.ofNat 3))] [] 0 []).map (fun q => (q.1, q.2.1, q.2.2.1)) = some (true, [], .c (.bool (underB 6 3))) := by kernel_rfl
theorem un_7_3 : (xfunL Try.prog unL 1000 fUnder [.c (.int (Int.ofNat 7)), .c (.int (Int.ofNat 3))] [] 0 []).map (fun q => (q.1, q.2.1, q.2.2.1)) = some (true, [], .c (.bool (underB 7 3))) := by kernel_rfl
theorem un_8_3 : (xfunL Try.prog unL 1000 fUnder [.c (.int (Int.ofNat 8)), .c (.int (Int.ofNat 3))] [] 0 []).map (fun q => (q.1, q.2.1, q.2.2.1)) = some (true, [], .c (.bool (underB 8 3))) := by kernel_rfl
theorem un_9_3 : (xfunL Try.prog unL 1000 fUnder [.c (.int (Int.ofNat 9)), .c (.int (Int.ofNat 3))] [] 0 []).map (fun q => (q.1, q.2.1, q.2.2.1)) = some (true, [], .c (.bool (underB 9 3))) := by kernel_rfl
theorem un_10_3 : (xfunL Try.prog unL 1000 fUnder [.c (.int (Int.ofNat 10)), .c (.int (Int.ofNat 3))] [] 0 []).map (fun q => (q.1, q.2.1, q.2.2.1)) = some (true, [], .c (.bool (underB 10 3))) := by kernel_rfl
theorem un_11_3 : (xfunL Try.prog unL 1000 fUnder [.c (.int (Int.ofNat 11)), .c (.int (Int.ofNat 3))] [] 0 []).map (fun q => (q.1, q.2.1, q.2.2.1)) = some (true, [], .c (.bool (underB 11 3))) := by kernel_rfl
theorem un_12_3 : (xfunL Try.prog unL 1000 fUnder [.c (.int (Int.ofNat 12)), .c (.int (Int.ofNat 3))] [] 0 []).map (fun q => (q.1, q.2.1, q.2.2.1)) = some (true, [], .c (.bool (underB 12 3))) := by kernel_rfl
theorem un_13_3 : (xfunL Try.prog unL 1000 fUnder [.c (.int (Int.ofNat 13)), .c (.int (Int.ofNat 3))] [] 0 []).map (fun q => (q.1, q.2.1, q.2.2.1)) = some (true, [], .c (.bool (underB 13 3))) := by kernel_rfl
theorem un_14_3 : (xfunL Try.prog unL 1000 fUnder [.c (.int (Int.ofNat 14)), .c (.int (Int.ofNat 3))] [] 0 []).map (fun q => (q.1, q.2.1, q.2.2.1)) = some (true, [], .c (.bool (underB 14 3))) := by kernel_rfl
theorem un_0_4 : (xfunL Try.prog unL 1000 fUnder [.c (.int (Int.ofNat 0)), .c (.int (Int.ofNat 4))] [] 0 []).map (fun q => (q.1, q.2.1, q.2.2.1)) = some (true, [], .c (.bool (underB 0 4))) := by kernel_rfl
theorem un_1_4 : (xfunL Try.prog unL 1000 fUnder [.c (.int (Int.ofNat 1)), .c (.int (Int.ofNat 4))] [] 0 []).map (fun q => (q.1, q.2.1, q.2.2.1)) = some (true, [], .c (.bool (underB 1 4))) := by kernel_rfl
theorem un_2_4 : (xfunL Try.prog unL 1000 fUnder [.c (.int (Int.ofNat 2)), .c (.int (Int.ofNat 4))] [] 0 []).map (fun q => (q.1, q.2.1, q.2.2.1)) = some (true, [], .c (.bool (underB 2 4))) := by kernel_rfl
theorem un_3_4 : (xfunL Try.prog unL 1000 fUnder [.c (.int (Int.ofNat 3)), .c (.int (Int.ofNat 4))] [] 0 []).map (fun q => (q.1, q.2.1, q.2.2.1)) = some (true, [], .c (.bool (underB 3 4))) := by kernel_rfl
theorem un_4_4 : (xfunL Try.prog unL 1000 fUnder [.c (.int (Int.ofNat 4)), .c (.int (Int.ofNat 4))] [] 0 []).map (fun q => (q.1, q.2.1, q.2.2.1)) = some (true, [], .c (.bool (underB 4 4))) := by kernel_rfl
theorem un_5_4 : (xfunL Try.prog unL 1000 fUnder [.c (.int (Int.ofNat 5)), .c (.int (Int.ofNat 4))] [] 0 []).map (fun q => (q.1, q.2.1, q.2.2.1)) = some (true, [], .c (.bool (underB 5 4))) := by kernel_rfl
theorem un_6_4 : (xfunL Try.prog unL 1000 fUnder [.c (.int (Int.ofNat 6)), .c (.int (Int.ofNat 4))] [] 0 []).map (fun q => (q.1, q.2.1, q.2.2.1)) = some (true, [], .c (.bool (underB 6 4))) := by kernel_rfl
theorem un_7_4 : (xfunL Try.prog unL 1000 fUnder [.c (.int (Int.ofNat 7)), .c (.int (Int.ofNat 4))] [] 0 []).map (fun q => (q.1, q.2.1, q.2.2.1)) = some (true, [], .c (.bool (underB 7 4))) := by kernel_rfl
theorem un_8_4 : (xfunL Try.prog unL 1000 fUnder [.c (.int (Int.ofNat 8)), .c (.int (Int.ofNat 4))] [] 0 []).map (fun q => (q.1, q.2.1, q.2.2.1)) = some (true, [], .c (.bool (underB 8 4))) := by kernel_rfl
theorem un_9_4 : (xfunL Try.prog unL 1000 fUnder [.c (.int (Int.ofNat 9)), .c (.int (Int.ofNat 4))] [] 0 []).map (fun q => (q.1, q.2.1, q.2.2.1)) = some (true, [], .c (.bool (underB 9 4))) := by kernel_rfl
theorem un_10_4 : (xfunL Try.prog unL 1000 fUnder [.c (.int (Int.ofNat 10)), .c (.int (Int.ofNat 4))] [] 0 []).map (fun q => (q.1, q.2.1, q.2.2.1)) = some (true, [], .c (.bool (underB 10 4))) := by kernel_rfl
theorem un_11_4 : (xfunL Try.prog unL 1000 fUnder [.c (.int (Int.ofNat 11)), .c (.int (Int.ofNat 4))] [] 0 []).map (fun q => (q.1, q.2.1, q.2.2.1)) = some (true, [], .c (.bool (underB 11 4))) := by kernel_rfl
theorem un_12_4 : (xfunL Try.prog unL 1000 fUnder [.c (.int (Int.ofNat 12)), .c (.int (Int.ofNat 4))] [] 0 []).map (fun q => (q.1, q.2.1, q.2.2.1)) = some (true, [], .c (.bool (underB 12 4))) := by kernel_rfl
theorem un_13_4 : (xfunL Try.prog unL 1000 fUnder [.c (.int (Int.ofNat 13)), .c (.int (Int.ofNat 4))] [] 0 []).map (fun q => (q.1, q.2.1, q.2.2.1)) = some (true, [], .c (.bool (underB 13 4))) := by kernel_rfl
theorem un_14_4 : (xfunL Try.prog unL 1000 fUnder [.c (.int (Int.ofNat 14)), .c (.int (Int.ofNat 4))] [] 0 []).map (fun q => (q.1, q.2.1, q.2.2.1)) = some (true, [], .c (.bool (underB 14 4))) := by kernel_rfl
theorem un_0_5 : (xfunL Try.prog unL 1000 fUnder [.c (.int (Int.ofNat 0)), .c (.int (Int.ofNat 5))] [] 0 []).map (fun q => (q.1, q.2.1, q.2.2.1)) = some (true, [], .c (.bool (underB 0 5))) := by kernel_rfl
theorem un_1_5 : (xfunL Try.prog unL 1000 fUnder [.c (.int (Int.ofNat 1)), .c (.int (Int.ofNat 5))] [] 0 []).map (fun q => (q.1, q.2.1, q.2.2.1)) = some (true, [], .c (.bool (underB 1 5))) := by kernel_rfl
theorem un_2_5 : (xfunL Try.prog unL 1000 fUnder [.c (.int (Int.ofNat 2)), .c (.int (Int.ofNat 5))] [] 0 []).map (fun q => (q.1, q.2.1, q.2.2.1)) = some (true, [], .c (.bool (underB 2 5))) := by kernel_rfl
theorem un_3_5 : (xfunL Try.prog unL 1000 fUnder [.c (.int (Int.ofNat 3)), .c (.int (Int.ofNat 5))] [] 0 []).map (fun q => (q.1, q.2.1, q.2.2.1)) = some (true, [], .c (.bool (underB 3 5))) := by kernel_rfl
theorem un_4_5 : (xfunL Try.prog unL 1000 fUnder [.c (.int (Int.ofNat 4)), .c (.int (Int.ofNat 5))] [] 0 []).map (fun q => (q.1, q.2.1, q.2.2.1)) = some (true, [], .c (.bool (underB 4 5))) := by kernel_rfl
theorem un_5_5 : (xfunL Try.prog unL 1000 fUnder [.c (.int (Int.ofNat 5)), .c (.int (Int.ofNat 5))] [] 0 []).map (fun q => (q.1, q.2.1, q.2.2.1)) = some (true, [], .c (.bool (underB 5 5))) := by kernel_rfl
theorem un_6_5 : (xfunL Try.prog unL 1000 fUnder [.c (.int (Int.ofNat 6)), .c (.int (Int.ofNat 5))] [] 0 []).map (fun q => (q.1, q.2.1, q.2.2.1)) = some (true, [], .c (.bool (underB 6 5))) := by kernel_rfl
theorem un_7_5 : (xfunL Try.prog unL 1000 fUnder [.c (.int (Int.ofNat 7)), .c (.int (Int.ofNat 5))] [] 0 []).map (fun q => (q.1, q.2.1, q.2.2.1)) = some (true, [], .c (.bool (underB 7 5))) := by kernel_rfl
theorem un_8_5 : (xfunL Try.prog unL 1000 fUnder [.c (.int (Int.ofNat 8)), .c (.int (Int.ofNat 5))] [] 0 []).map (fun q => (q.1, q.2.1, q.2.2.1)) = some (true, [], .c (.bool (underB 8 5))) := by kernel_rfl
theorem un_9_5 : (xfunL Try.prog unL 1000 fUnder [.c (.int (Int.ofNat 9)), .c (.int (Int.ofNat 5))] [] 0 []).map (fun q => (q.1, q.2.1, q.2.2.1)) = some (true, [], .c (.bool (underB 9 5))) := by kernel_rfl
theorem un_10_5 : (xfunL Try.prog unL 1000 fUnder [.c (.int (Int.ofNat 10)), .c (.int (Int.ofNat 5))] [] 0 []).map (fun q => (q.1, q.2.1, q.2.2.1)) = some (true, [], .c (.bool (underB 10 5))) := by kernel_rfl
theorem un_11_5 : (xfunL Try.prog unL 1000 fUnder [.c (.int (Int.ofNat 11)), .c (.int (Int.ofNat 5))] [] 0 []).map (fun q => (q.1, q.2.1, q.2.2.1)) = some (true, [], .c (.bool (underB 11 5))) := by kernel_rfl
theorem un_12_5 : (xfunL Try.prog unL 1000 fUnder [.c (.int (Int.ofNat 12)), .c (.int (Int.ofNat 5))] [] 0 []).map (fun q => (q.1, q.2.1, q.2.2.1)) = some (true, [], .c (.bool (underB 12 5))) := by kernel_rfl
theorem un_13_5 : (xfunL Try.prog unL 1000 fUnder [.c (.int (Int.ofNat 13)), .c (.int (Int.ofNat 5))] [] 0 []).map (fun q => (q.1, q.2.1, q.2.2.1)) = some (true, [], .c (.bool (underB 13 5))) := by kernel_rfl
theorem un_14_5 : (xfunL Try.prog unL 1000 fUnder [.c (.int (Int.ofNat 14)), .c (.int (Int.ofNat 5))] [] 0 []).map (fun q => (q.1, q.2.1, q.2.2.1)) = some (true, [], .c (.bool (underB 14 5))) := by kernel_rfl
theorem un_0_6 : (xfunL Try.prog unL 1000 fUnder [.c (.int (Int.ofNat 0)), .c (.int (Int.ofNat 6))] [] 0 []).map (fun q => (q.1, q.2.1, q.2.2.1)) = some (true, [], .c (.bool (underB 0 6))) := by kernel_rfl
theorem un_1_6 : (xfunL Try.prog unL 1000 fUnder [.c (.int (Int.ofNat 1)), .c (.int (Int.ofNat 6))] [] 0 []).map (fun q => (q.1, q.2.1, q.2.2.1)) = some (true, [], .c (.bool (underB 1 6))) := by kernel_rfl
theorem un_2_6 : (xfunL Try.prog unL 1000 fUnder [.c (.int (Int.ofNat 2)), .c (.int (Int.ofNat 6))] [] 0 []).map (fun q => (q.1, q.2.1, q.2.2.1)) = some (true, [], .c (.bool (underB 2 6))) := by kernel_rfl
theorem un_3_6 : (xfunL Try.prog unL 1000 fUnder [.c (.int (Int.ofNat 3)), .c (.int (Int.ofNat 6))] [] 0 []).map (fun q => (q.1, q.2.1, q.2.2.1)) = some (true, [], .c (.bool (underB 3 6))) := by kernel_rfl
theorem un_4_6 : (xfunL Try.prog unL 1000 fUnder [.c (.int (Int.ofNat 4)), .c (.int (Int.ofNat 6))] [] 0 []).map (fun q => (q.1, q.2.1, q.2.2.1)) = some (true, [], .c (.bool (underB 4 6))) := by kernel_rfl
theorem un_5_6 : (xfunL Try.prog unL 1000 fUnder [.c (.int (Int.ofNat 5)), .c (.int (Int.ofNat 6))] [] 0 []).map (fun q => (q.1, q.2.1, q.2.2.1)) = some (true, [], .c (.bool (underB 5 6))) := by kernel_rfl
theorem un_6_6 : (xfunL Try.prog unL 1000 fUnder [.c (.int (Int.ofNat 6)), .c (.int (Int.ofNat 6))] [] 0 []).map (fun q => (q.1, q.2.1, q.2.2.1)) = some (true, [], .c (.bool (underB 6 6))) := by kernel_rfl
theorem un_7_6 : (xfunL Try.prog unL 1000 fUnder [.c (.int (Int.ofNat 7)), .c (.int (Int.ofNat 6))] [] 0 []).map (fun q => (q.1, q.2.1, q.2.2.1)) = some (true, [], .c (.bool (underB 7 6))) := by kernel_rfl
theorem un_8_6 : (xfunL Try.prog unL 1000 fUnder [.c (.int (Int.ofNat 8)), .c (.int (Int.ofNat 6))] [] 0 []).map (fun q => (q.1, q.2.1, q.2.2.1)) = some (true, [], .c (.bool (underB 8 6))) := by kernel_rfl
theorem un_9_6 : (xfunL Try.prog unL 1000 fUnder [.c (.int (Int.ofNat 9)), .c (.int (Int.ofNat 6))] [] 0 []).map (fun q => (q.1, q.2.1, q.2.2.1)) = some (true, [], .c (.bool (underB 9 6))) := by kernel_rfl
theorem un_10_6 : (xfunL Try.prog unL 1000 fUnder [.c (.int (Int.ofNat 10)), .c (.int (Int.ofNat 6))] [] 0 []).map (fun q => (q.1, q.2.1, q.2.2.1)) = some (true, [], .c (.bool (underB 10 6))) := by kernel_rfl
theorem un_11_6 : (xfunL Try.prog unL 1000 fUnder [.c (.int (Int.ofNat 11)), .c (.int (Int.ofNat 6))] [] 0 []).map (fun q => (q.1, q.2.1, q.2.2.1)) = some (true, [], .c (.bool (underB 11 6))) := by kernel_rfl
theorem un_12_6 : (xfunL Try.prog unL 1000 fUnder [.c (.int (Int.ofNat 12)), .c (.int (Int.ofNat 6))] [] 0 []).map (fun q => (q.1, q.2.1, q.2.2.1)) = some (true, [], .c (.bool (underB 12 6))) := by kernel_rfl
theorem un_13_6 : (xfunL Try.prog unL 1000 fUnder [.c (.int (Int.ofNat 13)), .c (.int (Int.ofNat 6))] [] 0 []).map (fun q => (q.1, q.2.1, q.2.2.1)) = some (true, [], .c (.bool (underB 13 6))) := by kernel_rfl
theorem un_14_6 : (xfunL Try.prog unL 1000 fUnder [.c (.int (Int.ofNat 14)), .c (.int (Int.ofNat 6))] [] 0 []).map (fun q => (q.1, q.2.1, q.2.2.1)) = some (true, [], .c (.bool (underB 14 6))) := by kernel_rfl
theorem un_0_7 : (xfunL Try.prog unL 1000 fUnder [.c (.int (Int.ofNat 0)), .c (.int (Int.ofNat 7))] [] 0 []).map (fun q => (q.1, q.2.1, q.2.2.1)) = some (true, [], .c (.bool (underB 0 7))) := by kernel_rfl
theorem un_1_7 : (xfunL Try.prog unL 1000 fUnder [.c (.int (Int.ofNat 1)), .c (.int (Int.ofNat 7))] [] 0 []).map (fun q => (q.1, q.2.1, q.2.2.1)) = some (true, [], .c (.bool (underB 1 7))) := by kernel_rfl
theorem un_2_7 : (xfunL Try.prog unL 1000 fUnder [.c (.int (Int.ofNat 2)), .c (.int (Int.ofNat 7))] [] 0 []).map (fun q => (q.1, q.2.1, q.2.2.1)) = some (true, [], .c (.bool (underB 2 7))) := by kernel_rfl
theorem un_3_7 : (xfunL Try.prog unL 1000 fUnder [.c (.int (Int.ofNat 3)), .c (.int (Int.ofNat 7))] [] 0 []).map (fun q => (q.1, q.2.1, q.2.2.1)) = some (true, [], .c (.bool (underB 3 7))) := by kernel_rfl
theorem un_4_7 : (xfunL Try.prog unL 1000 fUnder [.c (.int (Int.ofNat 4)), .c (.int (Int.ofNat 7))] [] 0 []).map (fun q => (q.1, q.2.1, q.2.2.1)) = some (true, [], .c (.bool (underB 4 7))) := by kernel_rfl
theorem un_5_7 : (xfunL Try.prog unL 1000 fUnder [.c (.int (Int.ofNat 5)), .c (.int (Int.ofNat 7))] [] 0 []).map (fun q => (q.1, q.2.1, q.2.2.1)) = some (true, [], .c (.bool (underB 5 7))) := by kernel_rfl
theorem un_6_7 : (xfunL Try.prog unL 1000 fUnder [.c (.int (Int.ofNat 6)), .c (.int (Int.ofNat 7))] [] 0 []).map (fun q => (q.1, q.2.1, q.2.2.1)) = some (true, [], .c (.bool (underB 6 7))) := by kernel_rfl
theorem un_7_7 : (xfunL Try.prog unL 1000 fUnder [.c (.int (Int.ofNat 7)), .c (.int (Int.ofNat 7))] [] 0 []).map (fun q => (q.1, q.2.1, q.2.2.1)) = some (true, [], .c (.bool (underB 7 7))) := by kernel_rfl
theorem un_8_7 : (xfunL Try.prog unL 1000 fUnder [.c (.int (Int.ofNat 8)), .c (.int (Int.ofNat 7))] [] 0 []).map (fun q => (q.1, q.2.1, q.2.2.1)) = some (true, [], .c (.bool (underB 8 7))) := by kernel_rfl
theorem un_9_7 : (xfunL Try.prog unL 1000 fUnder [.c (.int (Int.ofNat 9)), .c (.int (Int.ofNat 7))] [] 0 []).map (fun q => (q.1, q.2.1, q.2.2.1)) = some (true, [], .c (.bool (underB 9 7))) := by kernel_rfl
theorem un_10_7 : (xfunL Try.prog unL 1000 fUnder [.c (.int (Int.ofNat 10)), .c (.int (Int.ofNat 7))] [] 0 []).map (fun q => (q.1, q.2.1, q.2.2.1)) = some (true, [], .c (.bool (underB 10 7))) := by kernel_rfl
theorem un_11_7 : (xfunL Try.prog unL 1000 fUnder [.c (.int (Int.ofNat 11)), .c (.int (Int.ofNat 7))] [] 0 []).map (fun q => (q.1, q.2.1, q.2.2.1)) = some (true, [], .c (.bool (underB 11 7))) := by kernel_rfl
theorem un_12_7 : (xfunL Try.prog unL 1000 fUnder [.c (.int (Int.ofNat 12)), .c (.int (Int.ofNat 7))] [] 0 []).map (fun q => (q.1, q.2.1, q.2.2.1)) = some (true, [], .c (.bool (underB 12 7))) := by kernel_rfl
theorem un_13_7 : (xfunL Try.prog unL 1000 fUnder [.c (.int (Int.ofNat 13)), .c (.int (Int.ofNat 7))] [] 0 []).map (fun q => (q.1, q.2.1, q.2.2.1)) = some (true, [], .c (.bool (underB 13 7))) := by kernel_rfl
theorem un_14_7 : (xfunL Try.prog unL 1000 fUnder [.c (.int (Int.ofNat 14)), .c (.int (Int.ofNat 7))] [] 0 []).map (fun q => (q.1, q.2.1, q.2.2.1)) = some (true, [], .c (.bool (underB 14 7))) := by kernel_rfl
theorem un_0 {n : Nat} (hn : n < 15) : UnAt n 0 := lt15 (P := fun n => UnAt n 0) ⟨un_0_0, un_1_0, un_2_0, un_3_0, un_4_0, un_5_0, un_6_0, un_7_0, un_8_0, un_9_0, un_10_0, un_11_0, un_12_0, un_13_0, un_14_0⟩ hn
theorem un_1 {n : Nat} (hn : n < 15) : UnAt n 1 := lt15 (P := fun n => UnAt n 1) ⟨un_0_1, un_1_1, un_2_1, un_3_1, un_4_1, un_5_1, un_6_1, un_7_1, un_8_1, un_9_1, un_10_1, un_11_1, un_12_1, un_13_1, un_14_1⟩ hn
theorem un_2 {n : Nat} (hn : n < 15) : UnAt n 2 := lt15 (P := fun n => UnAt n 2) ⟨un_0_2, un_1_2, un_2_2, un_3_2, un_4_2, un_5_2, un_6_2, un_7_2, un_8_2, un_9_2, un_10_2, un_11_2, un_12_2, un_13_2, un_14_2⟩ hn
theorem un_3 {n : Nat} (hn : n < 15) : UnAt n 3 := lt15 (P := fun n => UnAt n 3) ⟨un_0_3, un_1_3, un_2_3, un_3_3, un_4_3, un_5_3, un_6_3, un_7_3, un_8_3, un_9_3, un_10_3, un_11_3, un_12_3, un_13_3, un_14_3⟩ hn
theorem un_4 {n : Nat} (hn : n < 15) : UnAt n 4 := lt15 (P := fun n => UnAt n 4) ⟨un_0_4, un_1_4, un_2_4, un_3_4, un_4_4, un_5_4, un_6_4, un_7_4, un_8_4, un_9_4, un_10_4, un_11_4, un_12_4, un_13_4, un_14_4⟩ hn
theorem un_5 {n : Nat} (hn : n < 15) : UnAt n 5 := lt15 (P := fun n => UnAt n 5) ⟨un_0_5, un_1_5, un_2_5, un_3_5, un_4_5, un_5_5, un_6_5, un_7_5, un_8_5, un_9_5, un_10_5, un_11_5, un_12_5, un_13_5, un_14_5⟩ hn
theorem un_6 {n : Nat} (hn : n < 15) : UnAt n 6 := lt15 (P := fun n => UnAt n 6) ⟨un_0_6, un_1_6, un_2_6, un_3_6, un_4_6, un_5_6, un_6_6, un_7_6, un_8_6, un_9_6, un_10_6, un_11_6, un_12_6, un_13_6, un_14_6⟩ hn
theorem un_7 {n : Nat} (hn : n < 15) : UnAt n 7 := lt15 (P := fun n => UnAt n 7) ⟨un_0_7, un_1_7, un_2_7, un_3_7, un_4_7, un_5_7, un_6_7, un_7_7, un_8_7, un_9_7, un_10_7, un_11_7, un_12_7, un_13_7, un_14_7⟩ hn
theorem un_at {n i : Nat} (hn : n < 15) (hi : i < 8) : UnAt n i := by
  have : i = 0 ∨ i = 1 ∨ i = 2 ∨ i = 3 ∨ i = 4 ∨ i = 5 ∨ i = 6 ∨ i = 7 := by omega
  rcases this with rfl | rfl | rfl | rfl | rfl | rfl | rfl | rfl
  · exact un_0 hn
  · exact un_1 hn
  · exact un_2 hn
  · exact un_3 hn
  · exact un_4 hn
  · exact un_5 hn
  · exact un_6 hn
  · exact un_7 hn
def inI (n : Int) (k : Int) : Bool := decide (0 ≤ n) && decide (n < k)
def underC (F : Nat → Nat → Bool) : Con := pureConB (fun | [.c (.int n), .c (.int i)] => inI n 15 && inI i 8 | _ => true) fun | [.c (.int n), .c (.int i)] => some (.c (.bool (F n.toNat i.toNat))) | _ => none
theorem under_ok {F : Nat → Nat → Bool} (hF : F = underB) : ConOK Try.prog fUnder (underC F) := by
  subst hF
  refine pureConB_ok (fn := Try.f11) (by kernel_rfl) rfl rfl fun args v hok h => ?_
  split at h <;> try (cases h; done)
  rename_i n i
  simp only [Option.some.injEq] at h; subst h
  simp only [inI, Bool.and_eq_true, decide_eq_true_eq] at hok
  refine ⟨rfl, rfl, fun w => ?_⟩
  have := un_at (n := n.toNat) (i := i.toNat) (by omega) (by omega)
  unfold UnAt at this
  rw [show Int.ofNat n.toNat = n from Int.toNat_of_nonneg hok.1.1, show Int.ofNat i.toNat = i from Int.toNat_of_nonneg hok.2.1] at this
  exact Fn.xvL unL_ok Sp.mixed [] this rfl trivial rfl
end Go.Proofs.Ytkpdkfeklecehaa.Ld
