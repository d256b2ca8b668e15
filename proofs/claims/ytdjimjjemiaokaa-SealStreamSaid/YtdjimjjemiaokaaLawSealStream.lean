/-
  The law SealStream.
-/
import Derived.Test.YtdjimjjemiaokaaRows
import Derived.Test.YtdjimjjemiaokaaSlN
import Derived.Test.YtdjimjjemiaokaaSxL
namespace Go.Proofs.Ytdjimjjemiaokaa.LawSealStream
open Go.ChangeShapes Go.WideShapes Go.ChangeAt Go.RowKit Go.Proofs.Ytdjimjjemiaokaa.Sx
set_option linter.unusedVariables false

theorem own : ownKnob Try.prog.godebug = none := by kernel_rfl
theorem laidOut : laidOutB Try.prog = true := by kernel_rfl

set_option maxRecDepth 100000 in
theorem contract (H : Type) (enc : TypeId × Value → H) (W : World) (base : Nat) (args : Array Value) (ds gs : List (DataW H)) (before : List MemPlace)
    (hval : ∀ (j : Nat) t v, Try.f11.params[j]? = some t → args[j]? = some v → Value.okWide Try.prog W .any base t v)
    (hW : DataW.Whole enc Try.prog Try.f11.params.toList Rows.sealStreamSpec.vars false W args.toList ds gs before) :
    Calls Try.prog 11 args W fun e W' => ∃ v, e = .returned v ∧ Rows.sealStreamSpec.post enc Try.prog Try.f11 false true false false W args v W' := by
  have hW' := hW
  obtain ⟨p, q, hA0, hV, rfl, hfz, hnd⟩ := hW
  have hA : DataW.TrodAll enc Try.prog W 0 (fun _ => true) true Try.f11.params.toList args.toList ds p := hA0
  rw [Try.params11] at hA hval
  obtain ⟨v0, vs0, d0, ds0, p0, q0, hargs, rfl, rfl, h0, r0⟩ := trodAll_cons hA
  obtain ⟨v1, vs1, d1, ds1, p1, q1, rfl, rfl, rfl, h1, r1⟩ := trodAll_cons r0
  obtain ⟨v2, vs2, d2, ds2, p2, q2, rfl, rfl, rfl, h2, r2⟩ := trodAll_cons r1
  obtain ⟨v3, vs3, d3, ds3, p3, q3, rfl, rfl, rfl, h3, r3⟩ := trodAll_cons r2
  obtain ⟨rfl, rfl, rfl⟩ := trodAll_nil r3
  obtain rfl : args = #[v0, v1, v2, v3] := by cases args; simp_all
  obtain ⟨h, h_h, rfl⟩ := arg_u8s Try.underlying23 Try.underlying5 (ts := List.replicate 32 5) (by kernel_rfl) (by kernel_rfl) (by decide) (hval 0 _ v0 rfl rfl)
  obtain ⟨draw, h_draw, rfl⟩ := arg_u8s Try.underlying23 Try.underlying5 (ts := List.replicate 32 5) (by kernel_rfl) (by kernel_rfl) (by decide) (hval 1 _ v1 rfl rfl)
  obtain ⟨bs_p, off_p, b_p, x_p, hrow_p, hR_p, hs_p, hl_p⟩ := arg_bytes Try.underlying24 Try.underlying5 (by kernel_rfl) (hval 2 _ v2 rfl rfl) h2
  obtain ⟨bs_q, off_q, b_q, x_q, hrow_q, hR_q, hs_q, hl_q⟩ := arg_bytes Try.underlying24 Try.underlying5 (by kernel_rfl) (hval 3 _ v3 rfl rfl) h3
  exact law_calls laidOut (by kernel_rfl) (tb := 4) (by kernel_rfl) Try.underlying4 rfl hW' rfl (Sl.sealStream_fn h draw W h_h h_draw hrow_p hrow_q) (relN (rs := []) (.cons ⟨hrow_p.own, hR_p _, hl_p⟩ (.cons ⟨hrow_q.own, hR_q _, hl_q⟩ .nil)) (fun _ h => absurd h List.not_mem_nil))
    (.cons ⟨_, rfl, All2.map (R := SC.R _) (f := SC.u8) (g := fun b => .int .u8 b.toNat) (fun b => rfl) _⟩ (.cons ⟨_, rfl, All2.map (R := SC.R _) (f := SC.u8) (g := fun b => .int .u8 b.toNat) (fun b => rfl) _⟩ (.cons (hs_p _ 0 rfl) (.cons (hs_q _ 1 rfl) .nil)))) (renL_fresh [x_p, x_q] (Nat.le_refl _))

set_option maxRecDepth 100000 in
theorem lifted (os : Os) (started : os.Started) (H : Type) (enc : TypeId × Value → H) :
    ReturnsInHanded {} Try.checked os 11 .any (Rows.sealStreamSpec.pre6 enc Try.prog Try.f11 Rows.sealStreamRow.domain false) (Rows.sealStreamSpec.post enc Try.prog Try.f11 false true false false) := by
  refine returnsInHanded_of_change (C := Try.checked) own started (by kernel_rfl) Try.func11
    (ChangeSpec.witness6 (enc := enc) (C := Try.checked) false ⟨#[], #[.agg (Array.replicate 32 (.int .u8 0)), .agg (Array.replicate 32 (.int .u8 0)), .slice none 0 0, .slice none 0 0], []⟩ 8 (by kernel_rfl) (by kernel_rfl) (by kernel_rfl) (by kernel_rfl)) ?_
  intro W base args ds gs before hval0 hW hcnd _
  exact contract H enc W base args ds gs before hval0 hW

theorem over : Rows.sealStreamRow.holds Try.pinned (OpenSpec.ofChange Rows.sealStreamSpec) :=
  OpenClaim.holds_of_wide 11 Try.f11 rfl rfl rfl rfl rfl rfl rfl ⟨rfl, rfl, rfl, rfl, rfl⟩ rfl rfl rfl rfl rfl (by kernel_rfl) Try.func11 (by kernel_rfl)
    (of_decide_eq_true (by kernel_rfl)) (by unfold Func.isWrapper; first | (rw [if_pos (by decide +kernel)]; kernel_rfl) | (rw [if_neg (by decide +kernel)]; exact ⟨rfl, rfl⟩))
    (fun os started H enc _ => lifted os started H enc)

theorem proved : Rows.SealStreamSaid := over
end Go.Proofs.Ytdjimjjemiaokaa.LawSealStream
