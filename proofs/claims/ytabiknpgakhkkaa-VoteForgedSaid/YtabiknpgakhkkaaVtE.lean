/-
  Votes with signatures of one's choice.
-/
import Derived.Test.YtabiknpgakhkkaaVtD
namespace Go.Proofs.Ytabiknpgakhkkaa.Vt
open Go.RowKit Go.Proofs.Ytabiknpgakhkkaa.Sx Go.Proofs.Ytabiknpgakhkkaa.Pw Go.Proofs.Ytabiknpgakhkkaa.Vw
set_option linter.unusedVariables false
set_option linter.unusedSimpArgs false
set_option maxRecDepth 10000

abbrev fForged : Nat := 4
abbrev fgL (S : Int → Int → Int → Vi) (K : Vi → Int → List Ope → List Vot → Int) : List (Nat × Con) := [(fSome, someC S), (fChk, chkC K), (frChk, chkC K), (fKnownT, knownC)]
theorem fgL_ok {K : Vi → Int → List Ope → List Vot → Int} (hK : K = chkR applyQ paperS) : LibOK Try.prog (fgL someV K) := LibOK.cons (some_ok rfl) (LibOK.cons (chk_ok hK) (LibOK.cons (rchk_ok hK) (LibOK.cons known_ok (LibOK.nil _))))
def fgK (S : Int → Int → Int → Vi) (K : Vi → Int → List Ope → List Vot → Int) (E Sg a : Int) : Int := K (Vi.of (S 3 3 1).cs) 0 [⟨5, 0, 2, 0, 0⟩] [⟨a, E, Sg⟩]
section
variable (S : Int → Int → Int → Vi) (K : Vi → Int → List Ope → List Vot → Int) (E Sg a : Int)
def g1 : Bool := decide (E < 0)
def g2 : Bool := decide (E ≥ 1073741789)
def g3 : Bool := decide (Sg < 0)
def g4 : Bool := decide (Sg ≥ 1073741789)
noncomputable abbrev fgX (told : List Bool) := (xfunL Try.prog (fgL S K) 1000 fForged [.agg [.int E, .int Sg], .c (.int a)] [] 0 told).map (fun q => (q.1, q.2.1, q.2.2.1))
theorem fg_1 : fgX S K E Sg a [true, true, true, true, true] = some (tg (tg true (g1 E) true) (fgK S K E Sg a != 0) true, [], .c (.bool true)) := by kernel_rfl
theorem fg_2 : fgX S K E Sg a [false, true, true, true, true] = some (tg (tg (tg true (g1 E) false) (g2 E) true) (fgK S K E Sg a != 0) true, [], .c (.bool true)) := by kernel_rfl
theorem fg_3 : fgX S K E Sg a [false, false, true, true, true] = some (tg (tg (tg (tg true (g1 E) false) (g2 E) false) (g3 Sg) true) (fgK S K E Sg a != 0) true, [], .c (.bool true)) := by kernel_rfl
theorem fg_4 : fgX S K E Sg a [false, false, false, true, true] = some (tg (ty_ (tg (tg (tg true (g1 E) false) (g2 E) false) (g3 Sg) false) (g4 Sg)) (fgK S K E Sg a != 0) true, [], .c (.bool true)) := by kernel_rfl
theorem fg_5 : fgX S K E Sg a [false, false, false, false, true] = some (tg (tn (tg (tg (tg true (g1 E) false) (g2 E) false) (g3 Sg) false) (g4 Sg)) (fgK S K E Sg a == fgK S K E Sg a) true, [], .c (.bool true)) := by kernel_rfl
end
theorem forged_no {E S : Int} (h : Sg.inQ E = false ∨ Sg.inQ S = false) (y : Int) (bs : List UInt8) : Sg.verS y bs E S = false := by
  have : Sg.vC y E S = true := by
    unfold Sg.vC Sg.vB
    cases Sg.vA y with
    | true => rfl
    | false =>
      simp only [cond_false]
      rcases h with h | h
      · rw [h]; rfl
      · rw [h]; cases Sg.inQ E <;> rfl
  unfold Sg.verS
  rw [this]; rfl
theorem forged_ne {E S : Int} (h : Sg.inQ E = false ∨ Sg.inQ S = false) (v : Vi) (o : Ope) (a : Int) : chkR applyQ paperS v 0 [o] [⟨a, E, S⟩] ≠ 0 := by
  unfold chkR
  simp only [List.isEmpty_cons, cond_false]
  cases he : (applyQ v 0 [o]).e != 0 with
  | true => simp only [cond_true]; simpa using he
  | false =>
    simp only [cond_false]
    have hc : chkL v (hashL (paperS v 0 [o])) [⟨a, E, S⟩] (-1) ≠ 0 := by
      unfold chkL
      rw [forged_no h]
      cases adI v a with
      | false => simp
      | true =>
        cases decide (a ≤ -1) <;> simp
    rw [show (chkL v (hashL (paperS v 0 [o])) [⟨a, E, S⟩] (-1) != 0) = true by simpa using hc]
    simpa using hc
theorem inQ_no {a : Int} (h : a < 0 ∨ 1073741789 ≤ a) : Sg.inQ a = false := by
  cases hq : Sg.inQ a with
  | false => rfl
  | true => have := Sg.inQ_iff.1 hq; omega
theorem forged_gen {K : Vi → Int → List Ope → List Vot → Int} (hK : K = chkR applyQ paperS) (E S a : Int) (w : World) : Sx.Fn Try.prog fForged (atW w 0) [.agg [.int E, .int S], .c (.int a)] [] 0 fun x _ => x = .c (.bool true) := by
  have hne : (Sg.inQ E = false ∨ Sg.inQ S = false) → (fgK someV K E S a != 0) = true := fun h => by
    unfold fgK
    rw [hK]
    simpa using forged_ne h _ _ a
  cases h1 : g1 E with
  | true => exact Fn.xvL (fgL_ok hK) Sp.mixed _ (fg_1 someV K E S a) (tg_eq (tg_eq rfl h1) (hne (.inl (inQ_no (.inl (by unfold g1 at h1; simpa using h1)))))) trivial rfl
  | false =>
  cases h2 : g2 E with
  | true => exact Fn.xvL (fgL_ok hK) Sp.mixed _ (fg_2 someV K E S a) (tg_eq (tg_eq (tg_eq rfl h1) h2) (hne (.inl (inQ_no (.inr (by unfold g2 at h2; simpa using h2)))))) trivial rfl
  | false =>
  cases h3 : g3 S with
  | true => exact Fn.xvL (fgL_ok hK) Sp.mixed _ (fg_3 someV K E S a) (tg_eq (tg_eq (tg_eq (tg_eq rfl h1) h2) h3) (hne (.inr (inQ_no (.inl (by unfold g3 at h3; simpa using h3)))))) trivial rfl
  | false =>
  cases h4 : g4 S with
  | true => exact Fn.xvL (fgL_ok hK) Sp.mixed _ (fg_4 someV K E S a) (tg_eq (ty_eq (tg_eq (tg_eq (tg_eq rfl h1) h2) h3) h4) (hne (.inr (inQ_no (.inr (by unfold g4 at h4; simpa using h4)))))) trivial rfl
  | false => exact Fn.xvL (fgL_ok hK) Sp.mixed _ (fg_5 someV K E S a) (tg_eq (tn_eq (tg_eq (tg_eq (tg_eq rfl h1) h2) h3) h4) (by simp)) trivial rfl
theorem voteForged_fn (E S a : Int) (w : World) : Sx.Fn Try.prog fForged (atW w 0) [.agg [.int E, .int S], .c (.int a)] [] 0 fun x _ => x = .c (.bool true) := forged_gen rfl E S a w

end Go.Proofs.Ytabiknpgakhkkaa.Vt
