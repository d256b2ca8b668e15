/-
  The law VoteEnough.
-/
import Derived.Test.YtabiknpgakhkkaaGreatRows
import Derived.Test.YtabiknpgakhkkaaGreatVtS
import Derived.Test.YtabiknpgakhkkaaGreatSxW
set_option maxRecDepth 20000
namespace Go.Proofs.YtabiknpgakhkkaaGreat.LawVoteEnough
open Go.ChangeShapes Go.WideShapes Go.ChangeAt Go.RowKit Go.Proofs.YtabiknpgakhkkaaGreat.Sx
set_option linter.unusedVariables false

theorem own : ownKnob Tryz.prog.godebug = none := by kernel_rfl
theorem laidOut : laidOutB Tryz.prog = true := by kernel_rfl

set_option maxRecDepth 100000 in
theorem contract (H : Type) (enc : TypeId × Value → H) (W : World) (base : Nat) (args : Array Value) (ds gs : List (DataW H)) (before : List MemPlace)
    (hval : ∀ (j : Nat) t v, Tryz.f4.params[j]? = some t → args[j]? = some v → Value.okWide Tryz.prog W .any base t v)
    (hW : DataW.Whole enc Tryz.prog Tryz.f4.params.toList Rows.voteEnoughSpec.vars false W args.toList ds gs before) :
    Calls Tryz.prog 4 args W fun e W' => ∃ v, e = .returned v ∧ Rows.voteEnoughSpec.post enc Tryz.prog Tryz.f4 false true false false W args v W' := by
  have hW' := hW
  obtain ⟨p, q, hA0, hV, rfl, hfz, hnd⟩ := hW
  have hA : DataW.TrodAll enc Tryz.prog W 0 (fun _ => true) true Tryz.f4.params.toList args.toList ds p := hA0
  rw [Tryz.params4] at hA hval
  obtain ⟨v0, vs0, d0, ds0, p0, q0, hargs, rfl, rfl, h0, r0⟩ := trodAll_cons hA
  obtain ⟨v1, vs1, d1, ds1, p1, q1, rfl, rfl, rfl, h1, r1⟩ := trodAll_cons r0
  obtain ⟨v2, vs2, d2, ds2, p2, q2, rfl, rfl, rfl, h2, r2⟩ := trodAll_cons r1
  obtain ⟨v3, vs3, d3, ds3, p3, q3, rfl, rfl, rfl, h3, r3⟩ := trodAll_cons r2
  obtain ⟨v4, vs4, d4, ds4, p4, q4, rfl, rfl, rfl, h4, r4⟩ := trodAll_cons r3
  obtain ⟨v5, vs5, d5, ds5, p5, q5, rfl, rfl, rfl, h5, r5⟩ := trodAll_cons r4
  obtain ⟨rfl, rfl, rfl⟩ := trodAll_nil r5
  obtain rfl : args = #[v0, v1, v2, v3, v4, v5] := by cases args; simp_all
  obtain ⟨m, rfl, h_m⟩ := arg_int Tryz.underlying3 (hval 0 _ v0 rfl rfl)
  obtain ⟨a, rfl, h_a⟩ := arg_int Tryz.underlying3 (hval 1 _ v1 rfl rfl)
  obtain ⟨k, rfl, h_k⟩ := arg_int Tryz.underlying3 (hval 2 _ v2 rfl rfl)
  obtain ⟨who, vs_who, rfl, hv_who⟩ := Vt.arg_b8 (hval 3 _ v3 rfl rfl)
  obtain ⟨n_l, cs_l, hn_l, hi_l, ty_l, x_l, hR_l, hs_l, hl_l⟩ := arg_structs (m := 5) (L := [0, 1, 2, 3, 4]) (by decide) Tryz.underlying33 (by kernel_rfl) (by kernel_rfl) (by decide) (hval 4 _ v4 rfl rfl) h4
  obtain ⟨tu, rfl⟩ := arg_bool Tryz.underlying4 (hval 5 _ v5 rfl rfl)
  exact law_calls laidOut (by kernel_rfl) (tb := 4) (by kernel_rfl) Tryz.underlying4 rfl hW' rfl (Vt.voteEnough_fn m a k who (Vw.rbO 0 n_l cs_l ty_l) (Vw.rb_ok hi_l) (Vw.rb_ops hn_l hi_l) tu W) (relN (rs := []) (.cons ⟨rfl, hR_l _, hl_l⟩ .nil) (fun _ h => absurd h List.not_mem_nil))
    (.cons rfl (.cons rfl (.cons rfl (.cons ⟨_, rfl, hv_who _⟩ (.cons (hs_l _ 0 rfl) (.cons rfl .nil)))))) (renL_fresh [x_l] (Nat.le_refl _))

set_option maxRecDepth 100000 in
theorem lifted (os : Os) (started : os.Started) (H : Type) (enc : TypeId × Value → H) :
    ReturnsInHanded {} Tryz.checked os 4 .any (Rows.voteEnoughSpec.pre6 enc Tryz.prog Tryz.f4 Rows.voteEnoughRow.domain false) (Rows.voteEnoughSpec.post enc Tryz.prog Tryz.f4 false true false false) := by
  refine returnsInHanded_of_change (C := Tryz.checked) own started (by kernel_rfl) Tryz.func4
    (ChangeSpec.witness6 (enc := enc) (C := Tryz.checked) false ⟨#[], #[.int .i64 0, .int .i64 0, .int .i64 0, .agg (Array.replicate 8 (.bool false)), .slice none 0 0, .bool false], []⟩ 8 (by kernel_rfl) (by kernel_rfl) (by kernel_rfl) (by kernel_rfl)) ?_
  intro W base args ds gs before hval0 hW hcnd _
  exact contract H enc W base args ds gs before hval0 hW

theorem over : Rows.voteEnoughRow.holds Tryz.pinned (OpenSpec.ofChange Rows.voteEnoughSpec) :=
  OpenClaim.holds_of_wide 4 Tryz.f4 rfl rfl rfl rfl rfl rfl rfl ⟨rfl, rfl, rfl, rfl, rfl⟩ rfl rfl rfl rfl rfl (by kernel_rfl) Tryz.func4 (by kernel_rfl)
    (of_decide_eq_true (by kernel_rfl)) (by unfold Func.isWrapper; first | (rw [if_pos (by decide +kernel)]; kernel_rfl) | (rw [if_neg (by decide +kernel)]; exact ⟨rfl, rfl⟩))
    (fun os started H enc _ => lifted os started H enc)

theorem proved : Rows.VoteEnoughSaid := over
end Go.Proofs.YtabiknpgakhkkaaGreat.LawVoteEnough
