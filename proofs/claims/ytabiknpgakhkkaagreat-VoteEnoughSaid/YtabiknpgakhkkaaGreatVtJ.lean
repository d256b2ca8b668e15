/-
  The law of all that votes answer.
-/
import Derived.Test.YtabiknpgakhkkaaGreatVtI
set_option maxRecDepth 20000
namespace Go.Proofs.YtabiknpgakhkkaaGreat.Vt
open Go.RowKit Go.Proofs.YtabiknpgakhkkaaGreat.Sx Go.Proofs.YtabiknpgakhkkaaGreat.Pw Go.Proofs.YtabiknpgakhkkaaGreat.Vw
open Go.Proofs.YtabiknpgakhkkaaGreat.Pr (fromG fromG_ok rfromG rfromG_ok tKey keyC)
set_option linter.unusedVariables false
set_option linter.unusedSimpArgs false
set_option maxRecDepth 10000

abbrev fVotesB : Nat := 8
abbrev fTells : Nat := 3
abbrev KT : Type := Vi → Int → List Ope → List Vot → Int
abbrev UT : Type := Vi → Int → Int → List Ope → Bool
abbrev PT : Type := Vi → Int → List Ope → Sp.H4
def votesC : Con := sVal [some 5, some 3] fun ps rs => match ps, rs with | [], [r, q] => some (true, .c (.bool (bif decide ((r.n : Int) > 20) then true else decide ((q.n : Int) > 20)))) | _, _ => none
theorem votes_ok : ConOK Tryz.prog fVotesB votesC := by
  refine sVal_ok (fn := Tryz.f8) (by kernel_rfl) rfl rfl fun ps rs v h hps hrs => ?_
  split at h <;> try (cases h; done)
  rename_i r q
  simp only [Option.some.injEq, Prod.mk.injEq, true_and] at h; subst h
  refine ⟨rfl, fun w => ?_⟩
  cases h1 : decide ((r.n : Int) > 20) with
  | true => exact Fn.xvL (fuel := 1000) (LibOK.nil _) Sp.mixed [true] (r := .c (.bool true)) (ob := tg true (decide ((r.n : Int) > 20)) true) (obs := []) (by kernel_rfl) (tg_eq rfl h1) trivial rfl
  | false => exact Fn.xvL (fuel := 1000) (LibOK.nil _) Sp.mixed [false] (r := .c (.bool (decide ((q.n : Int) > 20)))) (ob := tg true (decide ((r.n : Int) > 20)) false) (obs := []) (by kernel_rfl) (tg_eq rfl h1) trivial rfl
abbrev teL (A : AT) (U : UT) (S : List SC → Int) (W : Int → Int → Int) (K : KT) (P : PT) : List (Nat × Con) := [(fVotesB, votesC), (fApr, apprC A U W), (frApr, aprC A), (Pr.fFrom, fromG S), (Pr.frFrom, rfromG S W), (fChk, chkC K), (frChk, chkC K), (fPaper, paC P), (frPaper, paC P), (fKnownT, knownC)]
end Go.Proofs.YtabiknpgakhkkaaGreat.Vt
