/-
  Operations that have their own fields alone; leaves that are put into trees.
-/
import Derived.Test.YtabiknpgakhkkaaVwD
namespace Go.Proofs.Ytabiknpgakhkkaa.Vw
open Go.RowKit Go.Proofs.Ytabiknpgakhkkaa.Sx Go.Proofs.Ytabiknpgakhkkaa.Pw
set_option linter.unusedVariables false
set_option linter.unusedSimpArgs false

/-- An operation. -/
structure Ope where
  kind : Int
  who : Int
  k : Int
  sg : Int
  sl : Int
def Ope.cs (o : Ope) : List SC := [.int o.kind, .int o.who, .int o.k, .int o.sg, .int o.sl]
def ez3 (s p : Int) : Bool := (s == 0) && ((p == 0) && true)
def opOk (o : Ope) : Bool :=
  bif o.kind == 1 then (o.who == 0) && ((o.k == 0) && true)
  else bif (o.kind == 2 || (o.kind == 3 || o.kind == 4)) then (o.k == 0) && (ez3 o.sg o.sl && true)
  else bif o.kind == 5 then (o.who == 0) && (ez3 o.sg o.sl && true)
  else false
abbrev fIsOp : Nat := 46
abbrev frOwn : Nat := 35
def isOpC : Con := pureCon fun | [.agg [.int a, .int b, .int c, .int d, .int e]] => some (.c (.bool (opOk ⟨a, b, c, d, e⟩))) | _ => none
def kn (k : Int) : Bool := tn (tn (tn (tn (tn true (k == 1)) (k == 2)) (k == 3)) (k == 4)) (k == 5)
theorem kn_eq {k : Int} (h1 : (k == 1) = false) (h2 : (k == 2) = false) (h3 : (k == 3) = false) (h4 : (k == 4) = false) (h5 : (k == 5) = false) : kn k = true := tn_eq (tn_eq (tn_eq (tn_eq (tn_eq rfl h1) h2) h3) h4) h5
theorem isOp_fn (o : Ope) (w : World) : Sx.Fn Try.prog fIsOp (atW w 0) [.agg o.cs] [] 0 fun r _ => r = .c (.bool (opOk o)) := by
  obtain ⟨kind, who, k, sg, sl⟩ := o
  cases h1 : kind == 1 with
  | true => rw [beq_iff_eq] at h1; subst h1; exact Fn.xvL (fuel := 1000) (LibOK.nil _) Sp.mixed [] (r := .c (.bool ((who == 0) && ((k == 0) && true)))) (ob := true) (obs := []) (by kernel_rfl) rfl trivial rfl
  | false =>
  cases h2 : kind == 2 with
  | true => rw [beq_iff_eq] at h2; subst h2; exact Fn.xvL (fuel := 1000) (LibOK.nil _) Sp.mixed [] (r := .c (.bool ((k == 0) && (ez3 sg sl && true)))) (ob := true) (obs := []) (by kernel_rfl) rfl trivial rfl
  | false =>
  cases h3 : kind == 3 with
  | true => rw [beq_iff_eq] at h3; subst h3; exact Fn.xvL (fuel := 1000) (LibOK.nil _) Sp.mixed [] (r := .c (.bool ((k == 0) && (ez3 sg sl && true)))) (ob := true) (obs := []) (by kernel_rfl) rfl trivial rfl
  | false =>
  cases h4 : kind == 4 with
  | true => rw [beq_iff_eq] at h4; subst h4; exact Fn.xvL (fuel := 1000) (LibOK.nil _) Sp.mixed [] (r := .c (.bool ((k == 0) && (ez3 sg sl && true)))) (ob := true) (obs := []) (by kernel_rfl) rfl trivial rfl
  | false =>
  cases h5 : kind == 5 with
  | true => rw [beq_iff_eq] at h5; subst h5; exact Fn.xvL (fuel := 1000) (LibOK.nil _) Sp.mixed [] (r := .c (.bool ((who == 0) && (ez3 sg sl && true)))) (ob := true) (obs := []) (by kernel_rfl) rfl trivial rfl
  | false => exact Fn.xvL (fuel := 1000) (LibOK.nil _) Sp.mixed [false, false, false, false, false, false] (r := .c (.bool false)) (ob := kn kind) (obs := []) (by kernel_rfl) (kn_eq h1 h2 h3 h4 h5) trivial (by unfold opOk; rw [h1, h2, h3, h4, h5]; rfl)
theorem isOp_ok : ConOK Try.prog fIsOp isOpC := by
  refine pureCon_ok (fn := Try.f46) (by kernel_rfl) rfl rfl fun args v h => ?_
  split at h <;> try (cases h; done)
  rename_i a b c d e
  simp only [Option.some.injEq] at h; subst h
  exact ⟨rfl, rfl, fun w => isOp_fn ⟨a, b, c, d, e⟩ w⟩

theorem own2 (x : Bool) (s p : Int) (h : x = true) : (x && (ez3 s p && true)) = ((s == 0) && ((p == 0) && true)) := by subst h; unfold ez3; simp
theorem own_fn (o : Ope) (w : World) : Sx.Fn Try.prog frOwn (atW w 0) [.agg o.cs] [] 0 fun r _ => r = .c (.bool (opOk o)) := by
  obtain ⟨kind, who, k, sg, sl⟩ := o
  have two : ∀ x : Int, kind = x → (x = 2 ∨ x = 3 ∨ x = 4) → opOk ⟨kind, who, k, sg, sl⟩ = ((k == 0) && (ez3 sg sl && true)) := fun x hx h => by
    subst hx
    rcases h with rfl | rfl | rfl <;> rfl
  cases h1 : kind == 1 with
  | true =>
    rw [beq_iff_eq] at h1; subst h1
    cases hw : who == 0 with
    | true => exact Fn.xvL (fuel := 1000) (LibOK.nil _) Sp.mixed [true, true] (r := .c (.bool (k == 0))) (ob := tg true (who == 0) true) (obs := []) (by kernel_rfl) (tg_eq rfl hw) trivial (by show _ = SV.c (.bool ((who == 0) && ((k == 0) && true))); rw [hw]; simp)
    | false => exact Fn.xvL (fuel := 1000) (LibOK.nil _) Sp.mixed [true, false] (r := .c (.bool false)) (ob := tg true (who == 0) false) (obs := []) (by kernel_rfl) (tg_eq rfl hw) trivial (by show _ = SV.c (.bool ((who == 0) && ((k == 0) && true))); rw [hw]; rfl)
  | false =>
  cases h2 : kind == 2 with
  | true =>
    rw [beq_iff_eq] at h2; subst h2
    cases hw : k == 0 with
    | true => exact Fn.xvL (fuel := 1000) (LibOK.nil _) Sp.mixed [false, true, true, true] (r := .c (.bool (ez3 sg sl))) (ob := tg true (k == 0) true) (obs := []) (by kernel_rfl) (tg_eq rfl hw) trivial (by rw [two 2 rfl (by omega), hw]; simp)
    | false => exact Fn.xvL (fuel := 1000) (LibOK.nil _) Sp.mixed [false, true, true, false] (r := .c (.bool false)) (ob := tg true (k == 0) false) (obs := []) (by kernel_rfl) (tg_eq rfl hw) trivial (by rw [two 2 rfl (by omega), hw]; rfl)
  | false =>
  cases h3 : kind == 3 with
  | true =>
    rw [beq_iff_eq] at h3; subst h3
    cases hw : k == 0 with
    | true => exact Fn.xvL (fuel := 1000) (LibOK.nil _) Sp.mixed [false, false, true, true, true] (r := .c (.bool (ez3 sg sl))) (ob := tg true (k == 0) true) (obs := []) (by kernel_rfl) (tg_eq rfl hw) trivial (by rw [two 3 rfl (by omega), hw]; simp)
    | false => exact Fn.xvL (fuel := 1000) (LibOK.nil _) Sp.mixed [false, false, true, true, false] (r := .c (.bool false)) (ob := tg true (k == 0) false) (obs := []) (by kernel_rfl) (tg_eq rfl hw) trivial (by rw [two 3 rfl (by omega), hw]; rfl)
  | false =>
  cases h4 : kind == 4 with
  | true =>
    rw [beq_iff_eq] at h4; subst h4
    cases hw : k == 0 with
    | true => exact Fn.xvL (fuel := 1000) (LibOK.nil _) Sp.mixed [false, false, false, true, true] (r := .c (.bool (ez3 sg sl))) (ob := tg true (k == 0) true) (obs := []) (by kernel_rfl) (tg_eq rfl hw) trivial (by rw [two 4 rfl (by omega), hw]; simp)
    | false => exact Fn.xvL (fuel := 1000) (LibOK.nil _) Sp.mixed [false, false, false, true, false] (r := .c (.bool false)) (ob := tg true (k == 0) false) (obs := []) (by kernel_rfl) (tg_eq rfl hw) trivial (by rw [two 4 rfl (by omega), hw]; rfl)
  | false =>
  cases h5 : kind == 5 with
  | true =>
    rw [beq_iff_eq] at h5; subst h5
    cases hw : who == 0 with
    | true => exact Fn.xvL (fuel := 1000) (LibOK.nil _) Sp.mixed [false, false, false, false, true, true] (r := .c (.bool (ez3 sg sl))) (ob := tg true (who == 0) true) (obs := []) (by kernel_rfl) (tg_eq rfl hw) trivial (by show _ = SV.c (.bool ((who == 0) && (ez3 sg sl && true))); rw [hw]; simp)
    | false => exact Fn.xvL (fuel := 1000) (LibOK.nil _) Sp.mixed [false, false, false, false, true, false] (r := .c (.bool false)) (ob := tg true (who == 0) false) (obs := []) (by kernel_rfl) (tg_eq rfl hw) trivial (by show _ = SV.c (.bool ((who == 0) && (ez3 sg sl && true))); rw [hw]; rfl)
  | false => exact Fn.xvL (fuel := 1000) (LibOK.nil _) Sp.mixed [false, false, false, false, false, false] (r := .c (.bool false)) (ob := kn kind) (obs := []) (by kernel_rfl) (kn_eq h1 h2 h3 h4 h5) trivial (by unfold opOk; rw [h1, h2, h3, h4, h5]; rfl)
theorem own_ok : ConOK Try.prog frOwn isOpC := by
  refine pureCon_ok (fn := Try.f35) (by kernel_rfl) rfl rfl fun args v h => ?_
  split at h <;> try (cases h; done)
  rename_i a b c d e
  simp only [Option.some.injEq] at h; subst h
  exact ⟨rfl, rfl, fun w => own_fn ⟨a, b, c, d, e⟩ w⟩

/-! Leaves put into trees. -/
abbrev fPut : Nat := 85
abbrev frPut : Nat := 65
def putT (t : Tr) (i : Nat) (s p : Int) : Tr := ⟨fun j => bif Nat.beq j i then s else t.sg j, fun j => bif Nat.beq j i then p else t.sl j,
  fun j => bif Nat.beq j (i / 2 * 4 + 1) || (Nat.beq j (i / 4 * 8 + 3) || Nat.beq j 7) then 0 else t.nd j⟩
def putC : Con := pureConB (fun | [.agg cs, .c (.int n), _] => isTr cs && (decide (n ≥ 0) && decide (n < 8)) | _ => true) fun | [.agg cs, .c (.int n), .agg [.int s, .int p]] => some (.agg (putT (Tr.of cs 0) n.toNat s p).cs) | _ => none
def putFs : List Nat := [90, 91, 93]
noncomputable abbrev putL : List (Nat × Con) := deep Try.prog 1000 putFs [] 4
theorem putFs_ok : putFs.all (inlOk Try.prog) = true := by kernel_rfl
theorem put_lib : LibOK Try.prog putL := deep_ok (LibOK.nil _) Sp.mixed putFs_ok 4
theorem put_at (t : Tr) (s p : Int) (i : Nat) (hi : i < 8) : (xfunL Try.prog putL 1000 fPut [.agg t.cs, .c (.int i), .agg [.int s, .int p]] [] 0 []).map (fun q => (q.1, q.2.1, q.2.2.1)) = some (true, [], .agg (putT t i s p).cs) := by
  revert i
  refine all8 ?_ ?_ ?_ ?_ ?_ ?_ ?_ ?_ <;> kernel_rfl
def rputFs : List Nat := [79, 80]
noncomputable abbrev rputL : List (Nat × Con) := deep Try.prog 1000 rputFs [] 4
theorem rputFs_ok : rputFs.all (inlOk Try.prog) = true := by kernel_rfl
theorem rput_lib : LibOK Try.prog rputL := deep_ok (LibOK.nil _) Sp.mixed rputFs_ok 4
theorem rput_at (t : Tr) (s p : Int) (i : Nat) (hi : i < 8) : (xfunL Try.prog rputL 1000 frPut [.agg t.cs, .c (.int i), .agg [.int s, .int p]] [] 0 []).map (fun q => (q.1, q.2.1, q.2.2.1)) = some (true, [SV.c (.int ((i / 4 * 8 + 3 : Nat) : Int)) = SV.c (.int ((i / 4 * 8 + 3 : Nat) : Int)), SV.c (.int 7) = SV.c (.int 7), SV.c (.int 7) = SV.c (.int 7)], .agg (putT t i s p).cs) := by
  revert i
  refine all8 ?_ ?_ ?_ ?_ ?_ ?_ ?_ ?_ <;> kernel_rfl
theorem put_ok : ConOK Try.prog fPut putC := by
  refine pureConB_ok (fn := Try.f85) (by kernel_rfl) rfl rfl fun args v hok h => ?_
  split at h <;> try (cases h; done)
  rename_i cs n s p
  simp only [Option.some.injEq] at h; subst h
  simp only [Bool.and_eq_true, decide_eq_true_eq] at hok
  obtain ⟨hok, h0, h8⟩ := hok
  have e := Tr.of_cs hok
  refine ⟨rfl, by rw [e]; rfl, fun w => ?_⟩
  generalize Tr.of cs 0 = t at e
  subst e
  obtain ⟨i, rfl⟩ : ∃ i : Nat, n = i := ⟨n.toNat, by omega⟩
  exact Fn.xvL put_lib Sp.mixed [] (put_at t s p i (by omega)) rfl trivial rfl
theorem rput_ok : ConOK Try.prog frPut putC := by
  refine pureConB_ok (fn := Try.f65) (by kernel_rfl) rfl rfl fun args v hok h => ?_
  split at h <;> try (cases h; done)
  rename_i cs n s p
  simp only [Option.some.injEq] at h; subst h
  simp only [Bool.and_eq_true, decide_eq_true_eq] at hok
  obtain ⟨hok, h0, h8⟩ := hok
  have e := Tr.of_cs hok
  refine ⟨rfl, by rw [e]; rfl, fun w => ?_⟩
  generalize Tr.of cs 0 = t at e
  subst e
  obtain ⟨i, rfl⟩ : ∃ i : Nat, n = i := ⟨n.toNat, by omega⟩
  exact Fn.xvL rput_lib Sp.mixed [] (rput_at t s p i (by omega)) rfl ⟨rfl, rfl, rfl, trivial⟩ rfl

end Go.Proofs.Ytabiknpgakhkkaa.Vw
