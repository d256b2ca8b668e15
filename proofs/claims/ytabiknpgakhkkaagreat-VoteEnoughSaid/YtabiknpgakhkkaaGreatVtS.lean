/-
  As many approvals as are asked: the loop.
-/
import Derived.Test.YtabiknpgakhkkaaGreatVtR
set_option maxRecDepth 20000
namespace Go.Proofs.YtabiknpgakhkkaaGreat.Vt
open Go.RowKit Go.Proofs.YtabiknpgakhkkaaGreat.Sx Go.Proofs.YtabiknpgakhkkaaGreat.Pw Go.Proofs.YtabiknpgakhkkaaGreat.Vw
open Go.Proofs.YtabiknpgakhkkaaGreat.Pr (fromG fromG_ok rfromG rfromG_ok tKey keyC)
set_option linter.unusedVariables false
set_option linter.unusedSimpArgs false
set_option maxRecDepth 10000

theorem enough_gen {A : AT} {U : UT} {S : List SC → Int} {W : Int → Int → Int} {K : KT} {Q : Vi → Int → List Ope → AQ} (hA : A = aprR applyQ paperS) (hU : U = usedB applyQ) (hS : S = scalS) (hW : W = powS) (hK : K = chkR applyQ paperS) (hQ : Q = applyQ)
    (m a k : Int) (wh : Nat → Bool) (r : RB) (hr : RBok r) (ho : okOps r = true) (tu : Bool) (w : World) :
    Sx.Fn Tryz.prog fEn (atW w 0) (enA m a k wh r.off r.n tu) [(0, some r.b)] 1 fun x _ => x = .c (.bool true) := by
  obtain ⟨o1, n1, c1, t1, tail, own⟩ := r
  obtain ⟨e1, e2, hs⟩ := hr
  simp only at e1 e2
  subst e1 e2
  have hr : RBok (rbO o1 n1 c1 t1) := ⟨rfl, rfl, hs⟩
  have ho : okOps (rbO o1 n1 c1 t1) = true := ho
  have L := enL_ok hA hU hS hW hK hQ
  show Sx.Fn Tryz.prog fEn (atW w 0) (enA m a k wh o1 n1 tu) [(0, some ⟨c1, t1, true, false⟩)] 1 fun x _ => x = .c (.bool true)
  cases h1 : decide (m < 2) with
  | true => exact Fn.xvL L Sp.mixed _ (en_1 someV A U S W K Q m a k wh o1 n1 c1 t1 tu) (tg_eq rfl h1) trivial rfl
  | false =>
  have g1 : en1 m false = true := tg_eq rfl h1
  cases h2 : decide (m > 8) with
  | true => exact Fn.xvL L Sp.mixed _ (en_2 someV A U S W K Q m a k wh o1 n1 c1 t1 tu) (tg_eq g1 h2) trivial rfl
  | false =>
  have g2 : en2 m false = true := tg_eq g1 h2
  cases h3 : decide (a < 1) with
  | true => exact Fn.xvL L Sp.mixed _ (en_3 someV A U S W K Q m a k wh o1 n1 c1 t1 tu) (tg_eq g2 h3) trivial rfl
  | false =>
  have g3 : en3 m a false = true := tg_eq g2 h3
  cases h4 : decide (a > m) with
  | true => exact Fn.xvL L Sp.mixed _ (en_4 someV A U S W K Q m a k wh o1 n1 c1 t1 tu) (tg_eq g3 h4) trivial rfl
  | false =>
  have g4 : en4 m a false = true := tg_eq g3 h4
  cases h5 : decide (k < 1) with
  | true => exact Fn.xvL L Sp.mixed _ (en_5 someV A U S W K Q m a k wh o1 n1 c1 t1 tu) (tg_eq g4 h5) trivial rfl
  | false =>
  have g5 : en5 m a k false = true := tg_eq g4 h5
  cases h6 : decide (k > a) with
  | true => exact Fn.xvL L Sp.mixed _ (en_6 someV A U S W K Q m a k wh o1 n1 c1 t1 tu) (tg_eq g5 h6) trivial rfl
  | false =>
  have g6 : en6 m a k false = true := tg_eq g5 h6
  cases h7 : n0 n1 with
  | true => exact Fn.xvL L Sp.mixed _ (en_7 someV A U S W K Q m a k wh o1 n1 c1 t1 tu) (tg_eq g6 h7) trivial rfl
  | false =>
  have g7 : en7 m a k n1 false = true := tg_eq g6 h7
  cases h8 : decide ((n1 : Int) > 4) with
  | true => exact Fn.xvL L Sp.mixed _ (en_8 someV A U S W K Q m a k wh o1 n1 c1 t1 tu) (ty_eq g7 h8) trivial rfl
  | false =>
  rw [decide_eq_false_iff_not] at h1 h2 h3 h4 h5 h6
  have hn4 : n1 ≤ 4 := by rw [decide_eq_false_iff_not] at h8; omega
  have hn0 : n1 ≠ 0 := fun e => by subst e; cases h7
  have hm : memIn m = true := by unfold memIn; rw [decide_eq_true (by omega), decide_eq_true (by omega)]; rfl
  have g9 : en9 m a k o1 n1 c1 t1 = true := bnds (bnds (tn_eq g7 h8) hm) (paOk_eq hr ho (by show n1 ≤ 1000000; omega))
  cases hE : enE someV Q m a k o1 n1 c1 t1 != 0 with
  | true => exact Fn.xvL L Sp.mixed _ (en_9 someV A U S W K Q m a k wh o1 n1 c1 t1 tu) (ty_eq g9 hE) trivial rfl
  | false =>
  have he : (applyQ (Vi.of (someV m a k).cs) 0 (opsL (rbO o1 n1 c1 t1))).e = 0 := by unfold enE at hE; rw [hQ] at hE; simpa using hE
  have hpN : plN c1 = true := by unfold plN; rw [sole_plain hs]; rfl
  have hpR : ∀ ms : List Vot, plR c1 (flat ms) = true := fun ms => by unfold plR; rw [sole_plain hs, sole_plain (flat_sole ms)]; rfl
  have hap : apOk (rbO o1 n1 c1 t1) = true := by
    show ((okOps (rbO o1 n1 c1 t1) && (Nat.ble n1 1000000 && true)) && ((c1.all SC.sole && true) && true)) = true
    rw [ho, show Nat.ble n1 1000000 = true by rw [Nat.ble_eq]; omega, show c1.all SC.sole = true from hs]; rfl
  have hmN : mnN c1 = true := by unfold mnN; rw [norow_of hs]; rfl
  have hmR : ∀ ms : List Vot, mnR c1 (flat ms) = true := fun ms => by unfold mnR nB; rw [norow_of hs, norow_of (flat_sole ms)]; rfl
  refine Sx.Fn.of (nt := 155) (by kernel_rfl) rfl ?_
  refine SWs.stepL L Sp.mixed [false, false, false, false, false, false, false, false, false] (en_start someV A U S W K Q m a k wh o1 n1 c1 t1 tu) (bnds (tn_eq g9 hE) hpN) trivial ?_
  refine SWs.loop (by kernel_rfl) (fun i : Nat => enSt (someV m a k) a k wh o1 n1 c1 t1 tu i (gvs (Vi.of (someV m a k).cs) 0 (opsL (rbO o1 n1 c1 t1)) (sel wh i))) (fun i => a.toNat - i) (fun i => (i : Int) ≤ a) 0 (by show ((0 : Nat) : Int) ≤ a; omega) ?_
  intro i hi
  by_cases hlt : (i : Int) < a
  · have hi8 : i < 8 := by omega
    have hI := enI_eq wh hi8 hlt
    have hw : IntKind.i64.wrap ((i : Int) + 1) = ((i + 1 : Nat) : Int) := by rw [wrapN (by omega) (by omega)]; rfl
    have hP := enP_eq hA hS hW (show a ≤ m by omega) (show m ≤ 8 by omega) hn0 he hlt
    cases hwh : wh i with
    | false =>
      have hsel : sel wh (i + 1) = sel wh i := by rw [sel_succ, hwh]; rfl
      have hT : tn (enI a wh i) (enH wh i) = true := tn_eq hI ((enH_eq wh hi8).trans hwh)
      cases hms : gvs (Vi.of (someV m a k).cs) 0 (opsL (rbO o1 n1 c1 t1)) (sel wh i) with
      | nil =>
        refine SWs.roundL L Sp.mixed [true, false] (en_n0 someV A U S W K Q (someV m a k) a k wh o1 n1 c1 t1 tu i) rfl (bnds hT hpN) trivial ⟨i + 1, by show ((i + 1 : Nat) : Int) ≤ a; omega, by show a.toNat - (i + 1) < a.toNat - i; omega, ?_⟩
        simp only [hsel, hms, hw]; rfl
      | cons x ms =>
        refine SWs.roundL L Sp.mixed [true, false] (en_r0 someV A U S W K Q (someV m a k) a k wh o1 n1 c1 t1 tu i (ms.length + 1) (flat (x :: ms))) rfl (bnds hT (hpR (x :: ms))) trivial ⟨i + 1, by show ((i + 1 : Nat) : Int) ≤ a; omega, by show a.toNat - (i + 1) < a.toNat - i; omega, ?_⟩
        simp only [hsel, hms, hw]; rfl
    | true =>
      have hsel : sel wh (i + 1) = sel wh i ++ [i] := by rw [sel_succ, hwh]; rfl
      have hT : ty_ (enI a wh i) (enH wh i) = true := ty_eq hI ((enH_eq wh hi8).trans hwh)
      have hQ2 : ∀ {acc : Bool}, acc = true → enQ i (enP A S W (someV m a k) o1 n1 c1 t1 i) acc = true := fun {acc} h => by
        rw [hP]
        refine tn_eq (tg_eq h rfl) ?_
        show ((i : Int) != (i : Int)) = false
        rw [bne_self_eq_false]
      cases hms : gvs (Vi.of (someV m a k).cs) 0 (opsL (rbO o1 n1 c1 t1)) (sel wh i) with
      | nil =>
        refine SWs.roundL L Sp.mixed [true, true, false, false] (en_n1 someV A U S W K Q (someV m a k) a k wh o1 n1 c1 t1 tu i) rfl (bnds (hQ2 (bnds (bnds hT hap) hmN)) hpN) trivial ⟨i + 1, by show ((i + 1 : Nat) : Int) ≤ a; omega, by show a.toNat - (i + 1) < a.toNat - i; omega, ?_⟩
        simp only [hsel, gvs_app, hms, hw, hP]; rfl
      | cons x ms =>
        have hlen : ms.length + 1 ≤ 8 := by
          have h9 : (gvs (Vi.of (someV m a k).cs) 0 (opsL (rbO o1 n1 c1 t1)) (sel wh i)).length = (sel wh i).length := List.length_map _
          rw [hms, List.length_cons] at h9
          have := sel_len wh i
          omega
        have htk : (flat (x :: ms)).take ((ms.length + 1) * 3) = flat (x :: ms) := List.take_of_length_le (by rw [flat_len]; exact Nat.le_refl _)
        have hZ : enZ (ms.length + 1) (flat (x :: ms)) = true := by
          unfold enZ
          rw [show Nat.ble (ms.length + 1 + 1) maxLen = true by rw [Nat.ble_eq]; unfold maxLen; omega, show Nat.ble ((ms.length + 1 + 1) * 24) 140737488355328 = true by rw [Nat.ble_eq]; omega, show Nat.ble ((ms.length + 1) * 3) (flat (x :: ms)).length = true by rw [Nat.ble_eq, flat_len]; exact Nat.le_refl _]; rfl
        have hcs : (flat (x :: ms)).take ((ms.length + 1) * 3) ++ Vot.cs (enP A S W (someV m a k) o1 n1 c1 t1 i).1 = flat (x :: (ms ++ [gV (Vi.of (someV m a k).cs) 0 (opsL (rbO o1 n1 c1 t1)) (i : Int)])) := by
          rw [htk, hP, ← List.cons_append, flat_app]; rfl
        refine SWs.roundL L Sp.mixed [true, true, false, false] (en_r1 someV A U S W K Q (someV m a k) a k wh o1 n1 c1 t1 tu i (ms.length + 1) (flat (x :: ms))) rfl (bnds (bnds (hQ2 (bnds (bnds hT hap) (hmR (x :: ms)))) hZ) (by rw [hcs]; exact hpR _)) trivial ⟨i + 1, by show ((i + 1 : Nat) : Int) ≤ a; omega, by show a.toNat - (i + 1) < a.toNat - i; omega, ?_⟩
        simp only [hsel, gvs_app, hms, hw, hcs, List.cons_append]
        show enR _ _ _ _ _ _ _ _ _ _ _ _ = enR _ _ _ _ _ _ _ _ _ _ _ _
        rw [List.length_append]; rfl
  · have hia : (i : Int) = a := by omega
    have hf := fun X hX => en_fin hA hU hS hW hK hQ (show a ≤ m by omega) (show m ≤ 8 by omega) (show 1 ≤ k by omega) hn0 hn4 hr ho he wh tu hia X hX
    cases hms : gvs (Vi.of (someV m a k).cs) 0 (opsL (rbO o1 n1 c1 t1)) (sel wh i) with
    | nil =>
      rw [hms] at hf
      exact SWs.outL L Sp.mixed [false] (en_no someV A U S W K Q (someV m a k) a k wh o1 n1 c1 t1 tu i) (bnds (tn_eq rfl (decide_eq_false hlt)) hpN) trivial (hf _ rfl)
    | cons x ms =>
      rw [hms] at hf
      exact SWs.outL L Sp.mixed [false] (en_ro someV A U S W K Q (someV m a k) a k wh o1 n1 c1 t1 tu i (ms.length + 1) (flat (x :: ms))) (bnds (tn_eq rfl (decide_eq_false hlt)) (hpR (x :: ms))) trivial (hf _ rfl)
theorem voteEnough_fn (m a k : Int) (wh : Nat → Bool) (r : RB) (hr : RBok r) (ho : okOps r = true) (tu : Bool) (w : World) :
    Sx.Fn Tryz.prog fEn (atW w 0) [.c (.int m), .c (.int a), .c (.int k), .agg (whC wh), .c (.slc 0 r.off 5 r.n none), .c (.bool tu)] [(0, some r.b)] 1 fun x _ => x = .c (.bool true) := enough_gen rfl rfl rfl rfl rfl rfl m a k wh r hr ho tu w

set_option maxRecDepth 100000 in
theorem arg_b8 {W : World} {base : Nat} {v : Value} (h : Value.okWide Tryz.prog W .any base 28 v) : ∃ (wh : Nat → Bool) (vs : List Value), v = .agg vs.toArray ∧ ∀ ρ, All2 (SC.R ρ) (whC wh) vs := by
  obtain ⟨sc, vs, rfl, h3, h4⟩ := arg_cells (ts := List.replicate 8 4) (ks := [1, 1, 1, 1, 1, 1, 1, 1]) (by kernel_rfl) (by kernel_rfl) (by kernel_rfl) (by kernel_rfl) h
  have bool : ∀ {x : SC}, codeOk x 1 → ∃ n, x = .bool n := fun {x} h => by
    rcases h with ⟨h, _⟩ | ⟨_, h⟩ | ⟨h, _⟩
    · cases h
    · cases x <;> first | exact ⟨_, rfl⟩ | (simp [SC.isBool] at h; done)
    · cases h
  match sc, h3, h4 with
  | [x0, x1, x2, x3, x4, x5, x6, x7], h3, .cons a0 (.cons a1 (.cons a2 (.cons a3 (.cons a4 (.cons a5 (.cons a6 (.cons a7 .nil))))))) =>
    obtain ⟨b0, rfl⟩ := bool a0
    obtain ⟨b1, rfl⟩ := bool a1
    obtain ⟨b2, rfl⟩ := bool a2
    obtain ⟨b3, rfl⟩ := bool a3
    obtain ⟨b4, rfl⟩ := bool a4
    obtain ⟨b5, rfl⟩ := bool a5
    obtain ⟨b6, rfl⟩ := bool a6
    obtain ⟨b7, rfl⟩ := bool a7
    exact ⟨fun i => [b0, b1, b2, b3, b4, b5, b6, b7].getD i false, vs, rfl, h3⟩
end Go.Proofs.YtabiknpgakhkkaaGreat.Vt
