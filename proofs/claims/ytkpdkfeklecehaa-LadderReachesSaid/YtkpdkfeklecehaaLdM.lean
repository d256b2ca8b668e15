/-
  For whom boxes are made: as a contract.
-/
import Derived.Test.YtkpdkfeklecehaaLdL
namespace Go.Proofs.Ytkpdkfeklecehaa.Ld
open Go.RowKit Go.Proofs.Ytkpdkfeklecehaa.Sx Go.Proofs.Ytkpdkfeklecehaa.Pw Go.Proofs.Ytkpdkfeklecehaa.Vw
set_option linter.unusedVariables false
set_option linter.unusedSimpArgs false
set_option maxRecDepth 10000

abbrev PlT : Type := Tr → (Nat → Bool) → Nat → List (Nat × Nat)
def bF (b0 b1 b2 b3 b4 b5 b6 b7 : Bool) : Nat → Bool := fun i => [b0, b1, b2, b3, b4, b5, b6, b7].getD i false
def planC (F : PlT) : Con := pureRow 2 34 (fun | [.agg cs, .c (.int (.ofNat l)), .agg _] => isTr cs && Nat.blt l 8 | _ => false) fun
  | [.agg cs, .c (.int (.ofNat l)), .agg [.bool b0, .bool b1, .bool b2, .bool b3, .bool b4, .bool b5, .bool b6, .bool b7]] => some ((F (Tr.of cs 0) (bF b0 b1 b2 b3 b4 b5 b6 b7) l).length, pairC (F (Tr.of cs 0) (bF b0 b1 b2 b3 b4 b5 b6 b7) l))
  | _ => none
theorem plan_all (t : Tr) (b : Nat → Bool) (l : Nat) (hl : l < 8) (w : World) : Sx.Fn Try.prog fPlan (atW w 0) [.agg t.cs, .c (.int (.ofNat l)), .agg (whC b)] [] 0 fun v T => rowIs 2 (planS t b l).length 34 (pairC (planS t b l)) v T := by
  have : l = 0 ∨ l = 1 ∨ l = 2 ∨ l = 3 ∨ l = 4 ∨ l = 5 ∨ l = 6 ∨ l = 7 := by omega
  rcases this with rfl | rfl | rfl | rfl | rfl | rfl | rfl | rfl
  · exact plan_0 t b w
  · exact plan_1 t b w
  · exact plan_2 t b w
  · exact plan_3 t b w
  · exact plan_4 t b w
  · exact plan_5 t b w
  · exact plan_6 t b w
  · exact plan_7 t b w
theorem planC_ok {F : PlT} (hF : F = planS) : ConOK Try.prog fPlan (planC F) := by
  subst hF
  refine pureRow_ok (fn := Try.f9) (by kernel_rfl) rfl rfl fun args n cs hok hv => ?_
  split at hv <;> try (cases hv; done)
  rename_i c l b0 b1 b2 b3 b4 b5 b6 b7
  simp only [Option.some.injEq, Prod.mk.injEq] at hv
  obtain ⟨rfl, rfl⟩ := hv
  simp only [Bool.and_eq_true, Nat.blt_eq] at hok
  obtain ⟨h1, h2⟩ := hok
  have e := Tr.of_cs h1
  generalize Tr.of c 0 = t at e
  subst e
  exact fun w => plan_all t (bF b0 b1 b2 b3 b4 b5 b6 b7) l h2 w
end Go.Proofs.Ytkpdkfeklecehaa.Ld
