/-
  The law VoteTells.
-/
import Derived.Test.YtabiknpgakhkkaaGreatRows
import Derived.Test.YtabiknpgakhkkaaGreatVtL
import Derived.Test.YtabiknpgakhkkaaGreatSxW
set_option maxRecDepth 20000
namespace Go.Proofs.YtabiknpgakhkkaaGreat.LawVoteTells
open Go.ChangeShapes Go.WideShapes Go.ChangeAt Go.RowKit Go.Proofs.YtabiknpgakhkkaaGreat.Sx
set_option linter.unusedVariables false

theorem own : ownKnob Tryz.prog.godebug = none := by kernel_rfl
theorem laidOut : laidOutB Tryz.prog = true := by kernel_rfl

set_option maxRecDepth 100000 in
theorem contract (H : Type) (enc : TypeId × Value → H) (W : World) (base : Nat) (args : Array Value) (ds gs : List (DataW H)) (before : List MemPlace)
    (hval : ∀ (j : Nat) t v, Tryz.f3.params[j]? = some t → args[j]? = some v → Value.okWide Tryz.prog W .any base t v)
    (hW : DataW.Whole enc Tryz.prog Tryz.f3.params.toList Rows.voteTellsSpec.vars false W args.toList ds gs before) :
    Calls Tryz.prog 3 args W fun e W' => ∃ v, e = .returned v ∧ Rows.voteTellsSpec.post enc Tryz.prog Tryz.f3 false true false false W args v W' := by
  have hW' := hW
  obtain ⟨p, q, hA0, hV, rfl, hfz, hnd⟩ := hW
  have hA : DataW.TrodAll enc Tryz.prog W 0 (fun _ => true) true Tryz.f3.params.toList args.toList ds p := hA0
  rw [Tryz.params3] at hA hval
  obtain ⟨v0, vs0, d0, ds0, p0, q0, hargs, rfl, rfl, h0, r0⟩ := trodAll_cons hA
  obtain ⟨v1, vs1, d1, ds1, p1, q1, rfl, rfl, rfl, h1, r1⟩ := trodAll_cons r0
  obtain ⟨v2, vs2, d2, ds2, p2, q2, rfl, rfl, rfl, h2, r2⟩ := trodAll_cons r1
  obtain ⟨v3, vs3, d3, ds3, p3, q3, rfl, rfl, rfl, h3, r3⟩ := trodAll_cons r2
  obtain ⟨v4, vs4, d4, ds4, p4, q4, rfl, rfl, rfl, h4, r4⟩ := trodAll_cons r3
  obtain ⟨v5, vs5, d5, ds5, p5, q5, rfl, rfl, rfl, h5, r5⟩ := trodAll_cons r4
  obtain ⟨rfl, rfl, rfl⟩ := trodAll_nil r5
  obtain rfl : args = #[v0, v1, v2, v3, v4, v5] := by cases args; simp_all
  obtain ⟨v, vs_v, rfl, hv_v⟩ := Vw.arg_view (hval 0 _ v0 rfl rfl)
  obtain ⟨ad, rfl, h_ad⟩ := arg_int Tryz.underlying3 (hval 1 _ v1 rfl rfl)
  obtain ⟨h, h_h, rfl⟩ := arg_u8s Tryz.underlying30 Tryz.underlying5 (ts := List.replicate 32 5) (by kernel_rfl) (by kernel_rfl) (by decide) (hval 2 _ v2 rfl rfl)
  obtain ⟨f, rfl, h_f⟩ := arg_int Tryz.underlying3 (hval 3 _ v3 rfl rfl)
  obtain ⟨n_l, cs_l, hn_l, hi_l, ty_l, x_l, hR_l, hs_l, hl_l⟩ := arg_structs (m := 5) (L := [0, 1, 2, 3, 4]) (by decide) Tryz.underlying33 (by kernel_rfl) (by kernel_rfl) (by decide) (hval 4 _ v4 rfl rfl) h4
  obtain ⟨n_m, cs_m, hn_m, hi_m, ty_m, x_m, hR_m, hs_m, hl_m⟩ := arg_structs (m := 3) (L := [0, 1, 2]) (by decide) Tryz.underlying34 (by kernel_rfl) (by kernel_rfl) (by decide) (hval 5 _ v5 rfl rfl) h5
  exact law_calls laidOut (by kernel_rfl) (tb := 4) (by kernel_rfl) Tryz.underlying4 rfl hW' rfl (Vt.voteTells_fn v ad h f (Vw.rbO 0 n_l cs_l ty_l) (Vw.rbO 0 n_m cs_m ty_m) (Vw.rb_ok hi_l) (Vw.rb_ops hn_l hi_l) (Vw.rb_ok hi_m) (Vt.vt_ok hn_m hi_m) W h_h) (relN (rs := []) (.cons ⟨rfl, hR_l _, hl_l⟩ (.cons ⟨rfl, hR_m _, hl_m⟩ .nil)) (fun _ h => absurd h List.not_mem_nil))
    (.cons ⟨_, rfl, hv_v _⟩ (.cons rfl (.cons ⟨_, rfl, All2.map (R := SC.R _) (f := SC.u8) (g := fun b => .int .u8 b.toNat) (fun b => rfl) _⟩ (.cons rfl (.cons (hs_l _ 0 rfl) (.cons (hs_m _ 1 rfl) .nil)))))) (renL_fresh [x_l, x_m] (Nat.le_refl _))

set_option maxRecDepth 100000 in
theorem lifted (os : Os) (started : os.Started) (H : Type) (enc : TypeId × Value → H) :
    ReturnsInHanded {} Tryz.checked os 3 .any (Rows.voteTellsSpec.pre6 enc Tryz.prog Tryz.f3 Rows.voteTellsRow.domain false) (Rows.voteTellsSpec.post enc Tryz.prog Tryz.f3 false true false false) := by
  refine returnsInHanded_of_change (C := Tryz.checked) own started (by kernel_rfl) Tryz.func3
    (ChangeSpec.witness6 (enc := enc) (C := Tryz.checked) false ⟨#[], #[.agg (Array.replicate 32 (.int .i64 0) ++ Array.replicate 8 (.bool false) ++ #[.int .i64 0] ++ Array.replicate 32 (.int .u8 0)), .int .i64 0, .agg (Array.replicate 32 (.int .u8 0)), .int .i64 0, .slice none 0 0, .slice none 0 0], []⟩ 8 (by kernel_rfl) (by kernel_rfl) (by kernel_rfl) (by kernel_rfl)) ?_
  intro W base args ds gs before hval0 hW hcnd _
  exact contract H enc W base args ds gs before hval0 hW

theorem over : Rows.voteTellsRow.holds Tryz.pinned (OpenSpec.ofChange Rows.voteTellsSpec) :=
  OpenClaim.holds_of_wide 3 Tryz.f3 rfl rfl rfl rfl rfl rfl rfl ⟨rfl, rfl, rfl, rfl, rfl⟩ rfl rfl rfl rfl rfl (by kernel_rfl) Tryz.func3 (by kernel_rfl)
    (of_decide_eq_true (by kernel_rfl)) (by unfold Func.isWrapper; first | (rw [if_pos (by decide +kernel)]; kernel_rfl) | (rw [if_neg (by decide +kernel)]; exact ⟨rfl, rfl⟩))
    (fun os started H enc _ => lifted os started H enc)

theorem proved : Rows.VoteTellsSaid := over
end Go.Proofs.YtabiknpgakhkkaaGreat.LawVoteTells
