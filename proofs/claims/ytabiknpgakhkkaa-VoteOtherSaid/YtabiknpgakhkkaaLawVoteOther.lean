/-
  The law VoteOther.
-/
import Derived.Test.YtabiknpgakhkkaaRows
import Derived.Test.YtabiknpgakhkkaaVtH
import Derived.Test.YtabiknpgakhkkaaSxW
namespace Go.Proofs.Ytabiknpgakhkkaa.LawVoteOther
open Go.ChangeShapes Go.WideShapes Go.ChangeAt Go.RowKit Go.Proofs.Ytabiknpgakhkkaa.Sx
set_option linter.unusedVariables false

theorem own : ownKnob Try.prog.godebug = none := by kernel_rfl
theorem laidOut : laidOutB Try.prog = true := by kernel_rfl

set_option maxRecDepth 100000 in
theorem contract (H : Type) (enc : TypeId × Value → H) (W : World) (base : Nat) (args : Array Value) (ds gs : List (DataW H)) (before : List MemPlace)
    (hval : ∀ (j : Nat) t v, Try.f3.params[j]? = some t → args[j]? = some v → Value.okWide Try.prog W .any base t v)
    (hW : DataW.Whole enc Try.prog Try.f3.params.toList Rows.voteOtherSpec.vars false W args.toList ds gs before) :
    Calls Try.prog 3 args W fun e W' => ∃ v, e = .returned v ∧ Rows.voteOtherSpec.post enc Try.prog Try.f3 false true false false W args v W' := by
  have hW' := hW
  obtain ⟨p, q, hA0, hV, rfl, hfz, hnd⟩ := hW
  have hA : DataW.TrodAll enc Try.prog W 0 (fun _ => true) true Try.f3.params.toList args.toList ds p := hA0
  rw [Try.params3] at hA hval
  obtain ⟨v0, vs0, d0, ds0, p0, q0, hargs, rfl, rfl, h0, r0⟩ := trodAll_cons hA
  obtain ⟨v1, vs1, d1, ds1, p1, q1, rfl, rfl, rfl, h1, r1⟩ := trodAll_cons r0
  obtain ⟨v2, vs2, d2, ds2, p2, q2, rfl, rfl, rfl, h2, r2⟩ := trodAll_cons r1
  obtain ⟨v3, vs3, d3, ds3, p3, q3, rfl, rfl, rfl, h3, r3⟩ := trodAll_cons r2
  obtain ⟨rfl, rfl, rfl⟩ := trodAll_nil r3
  obtain rfl : args = #[v0, v1, v2, v3] := by cases args; simp_all
  obtain ⟨n_a, cs_a, hn_a, hi_a, ty_a, x_a, hR_a, hs_a, hl_a⟩ := arg_structs (m := 5) (L := [0, 1, 2, 3, 4]) (by decide) Try.underlying22 (by kernel_rfl) (by kernel_rfl) (by decide) (hval 0 _ v0 rfl rfl) h0
  obtain ⟨n_b, cs_b, hn_b, hi_b, ty_b, x_b, hR_b, hs_b, hl_b⟩ := arg_structs (m := 5) (L := [0, 1, 2, 3, 4]) (by decide) Try.underlying22 (by kernel_rfl) (by kernel_rfl) (by decide) (hval 1 _ v1 rfl rfl) h1
  obtain ⟨f, rfl, h_f⟩ := arg_int Try.underlying3 (hval 2 _ v2 rfl rfl)
  obtain ⟨e, rfl, h_e⟩ := arg_int Try.underlying3 (hval 3 _ v3 rfl rfl)
  exact law_calls laidOut (by kernel_rfl) (tb := 4) (by kernel_rfl) Try.underlying4 rfl hW' rfl (Vt.voteOther_fn (Vw.rbO 0 n_a cs_a ty_a) (Vw.rbO 0 n_b cs_b ty_b) (Vw.rb_ok hi_a) (Vw.rb_ops hn_a hi_a) (Vw.rb_ok hi_b) (Vw.rb_ops hn_b hi_b) f e W) (relN (rs := []) (.cons ⟨rfl, hR_a _, hl_a⟩ (.cons ⟨rfl, hR_b _, hl_b⟩ .nil)) (fun _ h => absurd h List.not_mem_nil))
    (.cons (hs_a _ 0 rfl) (.cons (hs_b _ 1 rfl) (.cons rfl (.cons rfl .nil)))) (renL_fresh [x_a, x_b] (Nat.le_refl _))

set_option maxRecDepth 100000 in
theorem lifted (os : Os) (started : os.Started) (H : Type) (enc : TypeId × Value → H) :
    ReturnsInHanded {} Try.checked os 3 .any (Rows.voteOtherSpec.pre6 enc Try.prog Try.f3 Rows.voteOtherRow.domain false) (Rows.voteOtherSpec.post enc Try.prog Try.f3 false true false false) := by
  refine returnsInHanded_of_change (C := Try.checked) own started (by kernel_rfl) Try.func3
    (ChangeSpec.witness6 (enc := enc) (C := Try.checked) false ⟨#[], #[.slice none 0 0, .slice none 0 0, .int .i64 0, .int .i64 0], []⟩ 8 (by kernel_rfl) (by kernel_rfl) (by kernel_rfl) (by kernel_rfl)) ?_
  intro W base args ds gs before hval0 hW hcnd _
  exact contract H enc W base args ds gs before hval0 hW

theorem over : Rows.voteOtherRow.holds Try.pinned (OpenSpec.ofChange Rows.voteOtherSpec) :=
  OpenClaim.holds_of_wide 3 Try.f3 rfl rfl rfl rfl rfl rfl rfl ⟨rfl, rfl, rfl, rfl, rfl⟩ rfl rfl rfl rfl rfl (by kernel_rfl) Try.func3 (by kernel_rfl)
    (of_decide_eq_true (by kernel_rfl)) (by unfold Func.isWrapper; first | (rw [if_pos (by decide +kernel)]; kernel_rfl) | (rw [if_neg (by decide +kernel)]; exact ⟨rfl, rfl⟩))
    (fun os started H enc _ => lifted os started H enc)

theorem proved : Rows.VoteOtherSaid := over
end Go.Proofs.Ytabiknpgakhkkaa.LawVoteOther
