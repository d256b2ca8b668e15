/-
  Who is under the plan's nodes: the law's arguments.
-/
import Derived.Test.YtkpdkfeklecehaaLdR
import Derived.Test.YtkpdkfeklecehaaSxW
namespace Go.Proofs.Ytkpdkfeklecehaa.Ld
open Go.RowKit Go.Proofs.Ytkpdkfeklecehaa.Sx Go.Proofs.Ytkpdkfeklecehaa.Pw Go.Proofs.Ytkpdkfeklecehaa.Vw
set_option linter.unusedVariables false
set_option linter.unusedSimpArgs false

theorem code_int {x : SC} (h : codeOk x 0) : x.isInt = true := by
  rcases h with ⟨_, h⟩ | ⟨h, _⟩ | ⟨h, _⟩
  · exact h
  · cases h
  · cases h
theorem codes_int : ∀ {n : Nat} {sc : List SC}, All2 codeOk sc (List.replicate n 0) → sc.length = n ∧ sc.all SC.isInt = true
  | 0, [], _ => ⟨rfl, rfl⟩
  | n + 1, x :: sc, h => by
    rw [List.replicate_succ] at h
    cases h with
    | cons h1 h2 =>
      obtain ⟨g1, g2⟩ := codes_int h2
      exact ⟨by simp [g1], by simp only [List.all_cons, code_int h1, g2, Bool.and_self]⟩
set_option maxRecDepth 100000 in
theorem arg_tree {W : World} {base : Nat} {v : Value} (h : Value.okWide Try.prog W .any base tTree v) : ∃ (x : Tr) (vs : List Value), v = .agg vs.toArray ∧ ∀ ρ, All2 (SC.R ρ) x.cs vs := by
  obtain ⟨sc, vs, rfl, h3, h4⟩ := arg_cells (ts := List.replicate 31 3) (ks := List.replicate 31 0) (by kernel_rfl) (by kernel_rfl) (by kernel_rfl) (by kernel_rfl) h
  obtain ⟨g1, g2⟩ := codes_int h4
  have hv : isTr sc = true := by unfold isTr; rw [g1, g2]; rfl
  exact ⟨Tr.of sc 0, vs, rfl, fun ρ => by rw [← Tr.of_cs hv]; exact h3 ρ⟩
set_option maxRecDepth 100000 in
theorem arg_b8 {W : World} {base : Nat} {v : Value} (h : Value.okWide Try.prog W .any base 28 v) : ∃ (wh : Nat → Bool) (vs : List Value), v = .agg vs.toArray ∧ ∀ ρ, All2 (SC.R ρ) (whC wh) vs := by
  obtain ⟨sc, vs, rfl, h3, h4⟩ := arg_cells (ts := List.replicate 8 4) (ks := [1, 1, 1, 1, 1, 1, 1, 1]) (by kernel_rfl) (by kernel_rfl) (by kernel_rfl) (by kernel_rfl) h
  have bool : ∀ {x : SC}, codeOk x 1 → ∃ n, x = .bool n := fun {x} h => by
    rcases h with ⟨h, _⟩ | ⟨_, h⟩ | ⟨h, _⟩
    · cases h
    · cases x <;> first | exact ⟨_, rfl⟩ | (simp [SC.isBool] at h; done)
    · cases h
  match sc, h3, h4 with
  | [x0, x1, x2, x3, x4, x5, x6, x7], h3, .cons a0 (.cons a1 (.cons a2 (.cons a3 (.cons a4 (.cons a5 (.cons a6 (.cons a7 .nil))))))) =>
    obtain ⟨b0, rfl⟩ := bool a0
    obtain ⟨b1, rfl⟩ := bool a1
    obtain ⟨b2, rfl⟩ := bool a2
    obtain ⟨b3, rfl⟩ := bool a3
    obtain ⟨b4, rfl⟩ := bool a4
    obtain ⟨b5, rfl⟩ := bool a5
    obtain ⟨b6, rfl⟩ := bool a6
    obtain ⟨b7, rfl⟩ := bool a7
    exact ⟨fun i => [b0, b1, b2, b3, b4, b5, b6, b7].getD i false, vs, rfl, h3⟩
end Go.Proofs.Ytkpdkfeklecehaa.Ld
