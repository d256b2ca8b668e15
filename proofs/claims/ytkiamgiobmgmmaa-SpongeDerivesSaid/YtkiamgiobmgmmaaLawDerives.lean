/-
  The law SpongeDerives.
-/
import Derived.Test.YtkiamgiobmgmmaaRows
import Derived.Test.YtkiamgiobmgmmaaSpM
import Derived.Test.YtkiamgiobmgmmaaSxL
namespace Go.Proofs.Ytkiamgiobmgmmaa.LawDerives
open Go.ChangeShapes Go.WideShapes Go.ChangeAt Go.RowKit Go.Proofs.Ytkiamgiobmgmmaa.Sx
set_option linter.unusedVariables false

theorem own : ownKnob Try.prog.godebug = none := by kernel_rfl
theorem laidOut : laidOutB Try.prog = true := by kernel_rfl

theorem contract (H : Type) (enc : TypeId × Value → H) (W : World) (base : Nat) (args : Array Value) (ds gs : List (DataW H)) (before : List MemPlace)
    (hval : ∀ (j : Nat) t v, Try.f9.params[j]? = some t → args[j]? = some v → Value.okWide Try.prog W .any base t v)
    (hW : DataW.Whole enc Try.prog Try.f9.params.toList Rows.spongeDerivesSpec.vars false W args.toList ds gs before) (hz : (DataW.weightsEach Try.prog (Try.f9.params.toList ++ Rows.spongeDerivesSpec.plain.varTypes Try.prog) (ds ++ gs)).all (· ≤ reachBytes) = true) :
    Calls Try.prog 9 args W fun e W' => ∃ v, e = .returned v ∧ Rows.spongeDerivesSpec.post enc Try.prog Try.f9 false true false false W args v W' := by
  have hW' := hW
  obtain ⟨p, q, hA0, hV, rfl, hfz, hnd⟩ := hW
  have hA : DataW.TrodAll enc Try.prog W 0 (fun _ => true) true Try.f9.params.toList args.toList ds p := hA0
  rw [Try.params9] at hA hval hz
  obtain ⟨v0, vs0, d0, ds0, p0, q0, hargs, rfl, rfl, h0, r0⟩ := trodAll_cons hA
  obtain ⟨v1, vs1, d1, ds1, p1, q1, rfl, rfl, rfl, h1, r1⟩ := trodAll_cons r0
  obtain ⟨v2, vs2, d2, ds2, p2, q2, rfl, rfl, rfl, h2, r2⟩ := trodAll_cons r1
  obtain ⟨v3, vs3, d3, ds3, p3, q3, rfl, rfl, rfl, h3, r3⟩ := trodAll_cons r2
  obtain ⟨rfl, rfl, rfl⟩ := trodAll_nil r3
  obtain rfl : args = #[v0, v1, v2, v3] := by cases args; simp_all
  obtain ⟨h, h_h, rfl⟩ := arg_u8s Try.underlying29 Try.underlying5 (ts := List.replicate 32 5) (by kernel_rfl) (by kernel_rfl) (by decide) (hval 0 _ v0 rfl rfl)
  obtain ⟨label, rfl⟩ := arg_string Try.underlying9 (hval 1 _ v1 rfl rfl)
  obtain ⟨bs_a, hb_a, off_a, b_a, x_a, hrow_a, hR_a, hs_a, hl_a⟩ := arg_bytesL hz (j := 2) rfl rfl (by kernel_rfl) Try.underlying27 Try.underlying5 (by kernel_rfl) (hval 2 _ v2 rfl rfl) h2
  obtain ⟨bs_b, hb_b, off_b, b_b, x_b, hrow_b, hR_b, hs_b, hl_b⟩ := arg_bytesL hz (j := 3) rfl rfl (by kernel_rfl) Try.underlying27 Try.underlying5 (by kernel_rfl) (hval 3 _ v3 rfl rfl) h3
  exact law_calls laidOut (by kernel_rfl) (tb := 4) (by kernel_rfl) Try.underlying4 rfl hW' rfl (Sp.spongeDerives_fn h label W h_h hrow_a hrow_b hb_a hb_b) (relN (rs := []) (.cons ⟨hrow_a.own, hR_a _, hl_a⟩ (.cons ⟨hrow_b.own, hR_b _, hl_b⟩ .nil)) (fun _ h => absurd h List.not_mem_nil))
    (.cons ⟨_, rfl, All2.map (R := SC.R _) (f := SC.u8) (g := fun b => .int .u8 b.toNat) (fun b => rfl) _⟩ (.cons rfl (.cons (hs_a _ 0 rfl) (.cons (hs_b _ 1 rfl) .nil)))) (renL_fresh [x_a, x_b] (Nat.le_refl _))

set_option maxRecDepth 100000 in
theorem lifted (os : Os) (started : os.Started) (H : Type) (enc : TypeId × Value → H) :
    ReturnsInHanded {} Try.checked os 9 .any (Rows.spongeDerivesSpec.pre6 enc Try.prog Try.f9 Rows.spongeDerivesRow.domain false) (Rows.spongeDerivesSpec.post enc Try.prog Try.f9 false true false false) := by
  refine returnsInHanded_of_change_sized (C := Try.checked) own started (by kernel_rfl) Try.func9
    (ChangeSpec.witness6 (enc := enc) (C := Try.checked) false ⟨#[], #[.agg (Array.replicate 32 (.int .u8 0)), .string ⟨#[]⟩, .slice none 0 0, .slice none 0 0], []⟩ 8 (by kernel_rfl) (by kernel_rfl) (by kernel_rfl) (by kernel_rfl)) ?_
  intro W base args ds gs before hval0 hW hcnd hz _
  exact contract H enc W base args ds gs before hval0 hW hz

theorem over : Rows.spongeDerivesRow.holds Try.pinned (OpenSpec.ofChange Rows.spongeDerivesSpec) :=
  OpenClaim.holds_of_wide 9 Try.f9 rfl rfl rfl rfl rfl rfl rfl ⟨rfl, rfl, rfl, rfl, rfl⟩ rfl rfl rfl rfl rfl (by kernel_rfl) Try.func9 (by kernel_rfl)
    (of_decide_eq_true (by kernel_rfl)) (by unfold Func.isWrapper; first | (rw [if_pos (by decide +kernel)]; kernel_rfl) | (rw [if_neg (by decide +kernel)]; exact ⟨rfl, rfl⟩))
    (fun os started H enc _ => lifted os started H enc)

theorem proved : Rows.SpongeDerivesSaid := over
end Go.Proofs.Ytkiamgiobmgmmaa.LawDerives
