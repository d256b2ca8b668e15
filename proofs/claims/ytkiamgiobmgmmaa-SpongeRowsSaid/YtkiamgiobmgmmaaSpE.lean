/-
  What all laws of the sponge ask last; the law of turning.
-/
import Derived.Test.YtkiamgiobmgmmaaSpD
namespace Go.Proofs.Ytkiamgiobmgmmaa.Sp
open Go.RowKit Go.Proofs.Ytkiamgiobmgmmaa.Sx
set_option linter.unusedVariables false

theorem sums_lib : LibOK Try.prog [(fSum, sumC), (fRSum, rsumC)] := LibOK.cons sum_ok (LibOK.cons rsum_ok (LibOK.nil _))
abbrev fKnown : Nat := 14
def knownC : Con := pureCon fun | [] => some (.c (.bool true)) | _ => none
theorem known_ok : ConOK Try.prog fKnown knownC := by
  refine pureCon_ok (fn := Try.f14) (by kernel_rfl) rfl rfl fun args v h => ?_
  split at h <;> try (cases h; done)
  simp only [Option.some.injEq] at h; subst h
  exact ⟨rfl, rfl, fun w => Fn.xv (fuel := 1000) (told := []) sums_lib mixed (r := .c (.bool true)) (ob := true) (obs := []) (by kernel_rfl) rfl trivial rfl⟩

theorem law_lib : LibOK Try.prog [(fKnown, knownC), (fSum, sumC), (fRSum, rsumC), (12, turnC), (fRT, turnC)] := LibOK.cons known_ok (LibOK.cons sum_ok (LibOK.cons rsum_ok (LibOK.cons turn_ok (LibOK.cons rturn_ok' (LibOK.nil _)))))

/-- Five words alike. -/
def eq5 (x y : W5) : Bool := (x.a == y.a) && ((x.b == y.b) && ((x.c == y.c) && ((x.d == y.d) && ((x.e == y.e) && true))))
theorem eq5_self (x : W5) : eq5 x x = true := by simp [eq5]

theorem spongeTurns_fn (a b c d e : UInt64) (w : World) : Sx.Fn Try.prog 3 (atW w 0) [.c (.u64 a), .c (.u64 b), .c (.u64 c), .c (.u64 d), .c (.u64 e)] [] 0 fun r _ => r = .c (.bool true) := by
  have h := eq5_self (turn ⟨a, b, c, d, e⟩)
  refine Fn.xv (fuel := 1000) (told := [true]) law_lib mixed (r := .c (.bool (bif eq5 (turn ⟨a, b, c, d, e⟩) (turn ⟨a, b, c, d, e⟩) then true else false))) (ob := bnd true (eq5 (turn ⟨a, b, c, d, e⟩) (turn ⟨a, b, c, d, e⟩) == true && true)) (obs := []) (by kernel_rfl) (by rw [h]; rfl) trivial (by rw [h]; rfl)

end Go.Proofs.Ytkiamgiobmgmmaa.Sp
