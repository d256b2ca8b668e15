/-
  The law ViewRows.
-/
import Derived.Test.YtjjnmafoakoenaaRows
import Derived.Test.YtjjnmafoakoenaaVwY
import Derived.Test.YtjjnmafoakoenaaSxW
namespace Go.Proofs.Ytjjnmafoakoenaa.LawViewRows
open Go.ChangeShapes Go.WideShapes Go.ChangeAt Go.RowKit Go.Proofs.Ytjjnmafoakoenaa.Sx
set_option linter.unusedVariables false

theorem own : ownKnob Try.prog.godebug = none := by kernel_rfl
theorem laidOut : laidOutB Try.prog = true := by kernel_rfl

set_option maxRecDepth 100000 in
theorem contract (H : Type) (enc : TypeId × Value → H) (W : World) (base : Nat) (args : Array Value) (ds gs : List (DataW H)) (before : List MemPlace)
    (hval : ∀ (j : Nat) t v, Try.f12.params[j]? = some t → args[j]? = some v → Value.okWide Try.prog W .any base t v)
    (hW : DataW.Whole enc Try.prog Try.f12.params.toList Rows.viewRowsSpec.vars false W args.toList ds gs before) :
    Calls Try.prog 12 args W fun e W' => ∃ v, e = .returned v ∧ Rows.viewRowsSpec.post enc Try.prog Try.f12 false true false false W args v W' := by
  have hW' := hW
  obtain ⟨p, q, hA0, hV, rfl, hfz, hnd⟩ := hW
  have hA : DataW.TrodAll enc Try.prog W 0 (fun _ => true) true Try.f12.params.toList args.toList ds p := hA0
  rw [Try.params12] at hA hval
  obtain ⟨v0, vs0, d0, ds0, p0, q0, hargs, rfl, rfl, h0, r0⟩ := trodAll_cons hA
  obtain ⟨v1, vs1, d1, ds1, p1, q1, rfl, rfl, rfl, h1, r1⟩ := trodAll_cons r0
  obtain ⟨rfl, rfl, rfl⟩ := trodAll_nil r1
  obtain rfl : args = #[v0, v1] := by cases args; simp_all
  obtain ⟨n_a, cs_a, hn_a, hi_a, ty_a, x_a, hR_a, hs_a, hl_a⟩ := arg_structs (m := 5) (L := [0, 1, 2, 3, 4]) (by decide) Try.underlying33 (by kernel_rfl) (by kernel_rfl) (by decide) (hval 0 _ v0 rfl rfl) h0
  obtain ⟨n_b, cs_b, hn_b, hi_b, ty_b, x_b, hR_b, hs_b, hl_b⟩ := arg_structs (m := 5) (L := [0, 1, 2, 3, 4]) (by decide) Try.underlying33 (by kernel_rfl) (by kernel_rfl) (by decide) (hval 1 _ v1 rfl rfl) h1
  exact law_calls laidOut (by kernel_rfl) (tb := 4) (by kernel_rfl) Try.underlying4 rfl hW' rfl (Vw.viewRows_fn (Vw.rbO 0 n_a cs_a ty_a) (Vw.rbO 0 n_b cs_b ty_b) (Vw.rb_ok hi_a) (Vw.rb_ops hn_a hi_a) (Vw.rb_ok hi_b) (Vw.rb_ops hn_b hi_b) W) (relN (rs := []) (.cons ⟨rfl, hR_a _, hl_a⟩ (.cons ⟨rfl, hR_b _, hl_b⟩ .nil)) (fun _ h => absurd h List.not_mem_nil))
    (.cons (hs_a _ 0 rfl) (.cons (hs_b _ 1 rfl) .nil)) (renL_fresh [x_a, x_b] (Nat.le_refl _))

set_option maxRecDepth 100000 in
theorem lifted (os : Os) (started : os.Started) (H : Type) (enc : TypeId × Value → H) :
    ReturnsInHanded {} Try.checked os 12 .any (Rows.viewRowsSpec.pre6 enc Try.prog Try.f12 Rows.viewRowsRow.domain false) (Rows.viewRowsSpec.post enc Try.prog Try.f12 false true false false) := by
  refine returnsInHanded_of_change (C := Try.checked) own started (by kernel_rfl) Try.func12
    (ChangeSpec.witness6 (enc := enc) (C := Try.checked) false ⟨#[], #[.slice none 0 0, .slice none 0 0], []⟩ 8 (by kernel_rfl) (by kernel_rfl) (by kernel_rfl) (by kernel_rfl)) ?_
  intro W base args ds gs before hval0 hW hcnd _
  exact contract H enc W base args ds gs before hval0 hW

theorem over : Rows.viewRowsRow.holds Try.pinned (OpenSpec.ofChange Rows.viewRowsSpec) :=
  OpenClaim.holds_of_wide 12 Try.f12 rfl rfl rfl rfl rfl rfl rfl ⟨rfl, rfl, rfl, rfl, rfl⟩ rfl rfl rfl rfl rfl (by kernel_rfl) Try.func12 (by kernel_rfl)
    (of_decide_eq_true (by kernel_rfl)) (by unfold Func.isWrapper; first | (rw [if_pos (by decide +kernel)]; kernel_rfl) | (rw [if_neg (by decide +kernel)]; exact ⟨rfl, rfl⟩))
    (fun os started H enc _ => lifted os started H enc)

theorem proved : Rows.ViewRowsSaid := over
end Go.Proofs.Ytjjnmafoakoenaa.LawViewRows
