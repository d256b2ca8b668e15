/-
  More approvals than are asked.
-/
import Derived.Test.YtabiknpgakhkkaaGreatVtM
set_option maxRecDepth 20000
namespace Go.Proofs.YtabiknpgakhkkaaGreat.Vt
open Go.RowKit Go.Proofs.YtabiknpgakhkkaaGreat.Sx Go.Proofs.YtabiknpgakhkkaaGreat.Pw Go.Proofs.YtabiknpgakhkkaaGreat.Vw
open Go.Proofs.YtabiknpgakhkkaaGreat.Pr (fromG fromG_ok rfromG rfromG_ok tKey keyC)
set_option linter.unusedVariables false
set_option linter.unusedSimpArgs false
set_option maxRecDepth 10000

theorem chkR_l {v : Vi} {f : Int} {l : List Ope} (hl : l.isEmpty = false) (he : (applyQ v f l).e = 0) (m : List Vot) : chkR applyQ paperS v f l m = bif chkL v (hashL (paperS v f l)) m (-1) != 0 then chkL v (hashL (paperS v f l)) m (-1) else bif decide ((m.length : Int) < v.k) then 8 else 0 := by
  unfold chkR
  rw [hl, he]; rfl
abbrev fMore : Nat := 6
noncomputable abbrev moL (S0 : Int → Int → Int → Vi) (A : AT) (U : UT) (S : List SC → Int) (W : Int → Int → Int) (K : KT) : List (Nat × Con) := deep Tryz.prog 1000 [fSeed] [(fSome, someC S0), (fApr, apprC A U W), (Pr.fFrom, fromG S), (fChk, chkC K), (fKnownT, knownC)] 1
theorem moL_ok {A : AT} {U : UT} {S : List SC → Int} {W : Int → Int → Int} {K : KT} (hA : A = aprR applyQ paperS) (hU : U = usedB applyQ) (hS : S = scalS) (hW : W = powS) (hK : K = chkR applyQ paperS) : LibOK Tryz.prog (moL someV A U S W K) :=
  deep_ok (LibOK.cons (some_ok rfl) (LibOK.cons (appr_ok hA hU hW) (LibOK.cons (fromG_ok hS) (LibOK.cons (chk_ok hK) (LibOK.cons known_ok (LibOK.nil _)))))) Sp.mixed (by kernel_rfl) 1
def moO : List Ope := [⟨5, 0, 2, 0, 0⟩]
section
variable (S0 : Int → Int → Int → Vi) (A : AT) (U : UT) (S : List SC → Int) (W : Int → Int → Int) (K : KT) (k wr : Int)
noncomputable abbrev moX (told : List Bool) := (xfunL Tryz.prog (moL S0 A U S W K) 1000 fMore [.c (.int k), .c (.int wr)] [] 0 told).map (fun q => (q.1, q.2.1, q.2.2.1))
def moW : Vi := Vi.of (S0 5 4 k).cs
def moA (i : Int) : Vot × Int := A (moW S0 k) i (S (seedC i)) (W 4 (S (seedC i))) 0 moO
def moV (i : Int) : Vot := ⟨(moA S0 A S W k i).1.ad, (moA S0 A S W k i).1.E, (moA S0 A S W k i).1.S⟩
def moB (i : Int) : Vot := ⟨(moA S0 A S W k i).1.ad, (moA S0 A S W k i).1.E, 1073741789⟩
def moK (m : List Vot) : Int := K (moW S0 k) 0 moO m
def mo0 : Bool := tg (tg true (decide (k < 1)) false) (decide (k > 4)) false
def mo4 (acc : Bool) : Bool := tn (tn (tn (tn acc ((moA S0 A S W k 0).2 != 0)) ((moA S0 A S W k 1).2 != 0)) ((moA S0 A S W k 2).2 != 0)) ((moA S0 A S W k 3).2 != 0)
def mo5 (acc : Bool) : Bool := tn (mo4 S0 A S W k acc) (moK S0 K k [moV S0 A S W k 0, moV S0 A S W k 1, moV S0 A S W k 2, moV S0 A S W k 3] != 0)
theorem mo_k1 : moX S0 A U S W K k wr [true, true, true, true] = some (tg true (decide (k < 1)) true, [], .c (.bool true)) := by kernel_rfl
theorem mo_k2 : moX S0 A U S W K k wr [false, true, true, true] = some (tg (tg true (decide (k < 1)) false) (decide (k > 4)) true, [], .c (.bool true)) := by kernel_rfl
theorem mo_w1 : moX S0 A U S W K k wr [false, false, true, true] = some (tg (mo0 k) (decide (wr < 0)) true, [], .c (.bool true)) := by kernel_rfl
theorem mo_w2 : moX S0 A U S W K k wr [false, false, false, true] = some (ty_ (tg (mo0 k) (decide (wr < 0)) false) (decide (wr > 4)), [], .c (.bool true)) := by kernel_rfl
theorem mo_b0 : moX S0 A U S W K k 0 [false, false, false, false, true, false, true, false, true, false, true, false, false, false, true, true] = some (tg (mo5 S0 A S W K k (mo0 k)) (moK S0 K k [moB S0 A S W k 0, moV S0 A S W k 1, moV S0 A S W k 2, moV S0 A S W k 3] == 4) true, [], .c (.bool true)) := by kernel_rfl
theorem mo_b1 : moX S0 A U S W K k 1 [false, false, false, false, true, false, true, false, true, false, true, false, false, false, true, true] = some (tg (mo5 S0 A S W K k (mo0 k)) (moK S0 K k [moV S0 A S W k 0, moB S0 A S W k 1, moV S0 A S W k 2, moV S0 A S W k 3] == 4) true, [], .c (.bool true)) := by kernel_rfl
theorem mo_b2 : moX S0 A U S W K k 2 [false, false, false, false, true, false, true, false, true, false, true, false, false, false, true, true] = some (tg (mo5 S0 A S W K k (mo0 k)) (moK S0 K k [moV S0 A S W k 0, moV S0 A S W k 1, moB S0 A S W k 2, moV S0 A S W k 3] == 4) true, [], .c (.bool true)) := by kernel_rfl
theorem mo_b3 : moX S0 A U S W K k 3 [false, false, false, false, true, false, true, false, true, false, true, false, false, false, true, true] = some (tg (mo5 S0 A S W K k (mo0 k)) (moK S0 K k [moV S0 A S W k 0, moV S0 A S W k 1, moV S0 A S W k 2, moB S0 A S W k 3] == 4) true, [], .c (.bool true)) := by kernel_rfl
theorem mo_g1 : moX S0 A U S W K 1 4 [false, false, false, false, true, false, true, false, true, false, true, false, false, false, false, true, true] = some (tg (tg (mo5 S0 A S W K 1 true) (moK S0 K 1 [moV S0 A S W 1 0] == 0) true) (moK S0 K 1 [] == 8) true, [], .c (.bool true)) := by kernel_rfl
theorem mo_g2 : moX S0 A U S W K 2 4 [false, false, false, false, true, false, true, false, true, false, true, false, false, false, false, true, true] = some (tg (tg (mo5 S0 A S W K 2 true) (moK S0 K 2 [moV S0 A S W 2 0, moV S0 A S W 2 1] == 0) true) (moK S0 K 2 [moV S0 A S W 2 0] == 8) true, [], .c (.bool true)) := by kernel_rfl
theorem mo_g3 : moX S0 A U S W K 3 4 [false, false, false, false, true, false, true, false, true, false, true, false, false, false, false, true, true] = some (tg (tg (mo5 S0 A S W K 3 true) (moK S0 K 3 [moV S0 A S W 3 0, moV S0 A S W 3 1, moV S0 A S W 3 2] == 0) true) (moK S0 K 3 [moV S0 A S W 3 0, moV S0 A S W 3 1] == 8) true, [], .c (.bool true)) := by kernel_rfl
theorem mo_g4 : moX S0 A U S W K 4 4 [false, false, false, false, true, false, true, false, true, false, true, false, false, false, false, true, true] = some (tg (tg (mo5 S0 A S W K 4 true) (moK S0 K 4 [moV S0 A S W 4 0, moV S0 A S W 4 1, moV S0 A S W 4 2, moV S0 A S W 4 3] == 0) true) (moK S0 K 4 [moV S0 A S W 4 0, moV S0 A S W 4 1, moV S0 A S W 4 2] == 8) true, [], .c (.bool true)) := by kernel_rfl
end
theorem mo_e1 : (applyQ (moW someV 1) 0 moO).e = 0 := by kernel_rfl
theorem mo_e2 : (applyQ (moW someV 2) 0 moO).e = 0 := by kernel_rfl
theorem mo_e3 : (applyQ (moW someV 3) 0 moO).e = 0 := by kernel_rfl
theorem mo_e4 : (applyQ (moW someV 4) 0 moO).e = 0 := by kernel_rfl
theorem mo_e {k : Int} (h1 : 1 ≤ k) (h2 : k ≤ 4) : (applyQ (moW someV k) 0 moO).e = 0 := by
  have : k = 1 ∨ k = 2 ∨ k = 3 ∨ k = 4 := by omega
  rcases this with rfl | rfl | rfl | rfl
  · exact mo_e1
  · exact mo_e2
  · exact mo_e3
  · exact mo_e4
theorem mo_k (k : Int) : (moW someV k).k = k := by kernel_rfl
theorem mo_a0 (k : Int) : adI (moW someV k) 0 = true := by kernel_rfl
theorem mo_s0 (k : Int) : (moW someV k).t.sg 0 = keyY 0 := by kernel_rfl
theorem mo_a1 (k : Int) : adI (moW someV k) 1 = true := by kernel_rfl
theorem mo_s1 (k : Int) : (moW someV k).t.sg 1 = keyY 1 := by kernel_rfl
theorem mo_a2 (k : Int) : adI (moW someV k) 2 = true := by kernel_rfl
theorem mo_s2 (k : Int) : (moW someV k).t.sg 2 = keyY 2 := by kernel_rfl
theorem mo_a3 (k : Int) : adI (moW someV k) 3 = true := by kernel_rfl
theorem mo_s3 (k : Int) : (moW someV k).t.sg 3 = keyY 3 := by kernel_rfl
section
variable {A : AT} {U : UT} {S : List SC → Int} {W : Int → Int → Int} {K : KT} (hA : A = aprR applyQ paperS) (hU : U = usedB applyQ) (hS : S = scalS) (hW : W = powS) (hK : K = chkR applyQ paperS) {k : Int} (h1 : 1 ≤ k) (h2 : k ≤ 4)
include hA hS hW h1 h2
theorem moA_0 : moA someV A S W k 0 = (gV (moW someV k) 0 moO 0, 0) := by
  unfold moA; subst hA hS hW
  exact aprR_good rfl (mo_e h1 h2) (mo_a0 k) (mo_s0 k)
theorem moV_0 : moV someV A S W k 0 = gV (moW someV k) 0 moO 0 := by unfold moV; rw [moA_0 hA hS hW h1 h2]
theorem moB_0 : moB someV A S W k 0 = ⟨0, (gV (moW someV k) 0 moO 0).E, 1073741789⟩ := by unfold moB; rw [moA_0 hA hS hW h1 h2]; rfl
theorem moE_0 : ((moA someV A S W k 0).2 != 0) = false := by rw [moA_0 hA hS hW h1 h2]; rfl
theorem moA_1 : moA someV A S W k 1 = (gV (moW someV k) 0 moO 1, 0) := by
  unfold moA; subst hA hS hW
  exact aprR_good rfl (mo_e h1 h2) (mo_a1 k) (mo_s1 k)
theorem moV_1 : moV someV A S W k 1 = gV (moW someV k) 0 moO 1 := by unfold moV; rw [moA_1 hA hS hW h1 h2]
theorem moB_1 : moB someV A S W k 1 = ⟨1, (gV (moW someV k) 0 moO 1).E, 1073741789⟩ := by unfold moB; rw [moA_1 hA hS hW h1 h2]; rfl
theorem moE_1 : ((moA someV A S W k 1).2 != 0) = false := by rw [moA_1 hA hS hW h1 h2]; rfl
theorem moA_2 : moA someV A S W k 2 = (gV (moW someV k) 0 moO 2, 0) := by
  unfold moA; subst hA hS hW
  exact aprR_good rfl (mo_e h1 h2) (mo_a2 k) (mo_s2 k)
theorem moV_2 : moV someV A S W k 2 = gV (moW someV k) 0 moO 2 := by unfold moV; rw [moA_2 hA hS hW h1 h2]
theorem moB_2 : moB someV A S W k 2 = ⟨2, (gV (moW someV k) 0 moO 2).E, 1073741789⟩ := by unfold moB; rw [moA_2 hA hS hW h1 h2]; rfl
theorem moE_2 : ((moA someV A S W k 2).2 != 0) = false := by rw [moA_2 hA hS hW h1 h2]; rfl
theorem moA_3 : moA someV A S W k 3 = (gV (moW someV k) 0 moO 3, 0) := by
  unfold moA; subst hA hS hW
  exact aprR_good rfl (mo_e h1 h2) (mo_a3 k) (mo_s3 k)
theorem moV_3 : moV someV A S W k 3 = gV (moW someV k) 0 moO 3 := by unfold moV; rw [moA_3 hA hS hW h1 h2]
theorem moB_3 : moB someV A S W k 3 = ⟨3, (gV (moW someV k) 0 moO 3).E, 1073741789⟩ := by unfold moB; rw [moA_3 hA hS hW h1 h2]; rfl
theorem moE_3 : ((moA someV A S W k 3).2 != 0) = false := by rw [moA_3 hA hS hW h1 h2]; rfl
end
abbrev moP (k : Int) : List UInt8 := hashL (paperS (moW someV k) 0 moO)
abbrev moG (k i : Int) : Vot := gV (moW someV k) 0 moO i
theorem chk_0 (k : Int) : chkL (moW someV k) (moP k) [] (-1) = 0 := by
  rfl
theorem chk_1 (k : Int) : chkL (moW someV k) (moP k) [moG k 0] (-1) = 0 := by
  rw [chkL_good (mo_a0 k) (by decide) (mo_s0 k)]
  rfl
theorem chk_2 (k : Int) : chkL (moW someV k) (moP k) [moG k 0, moG k 1] (-1) = 0 := by
  rw [chkL_good (mo_a0 k) (by decide) (mo_s0 k)]
  rw [chkL_good (mo_a1 k) (by decide) (mo_s1 k)]
  rfl
theorem chk_3 (k : Int) : chkL (moW someV k) (moP k) [moG k 0, moG k 1, moG k 2] (-1) = 0 := by
  rw [chkL_good (mo_a0 k) (by decide) (mo_s0 k)]
  rw [chkL_good (mo_a1 k) (by decide) (mo_s1 k)]
  rw [chkL_good (mo_a2 k) (by decide) (mo_s2 k)]
  rfl
theorem chk_4 (k : Int) : chkL (moW someV k) (moP k) [moG k 0, moG k 1, moG k 2, moG k 3] (-1) = 0 := by
  rw [chkL_good (mo_a0 k) (by decide) (mo_s0 k)]
  rw [chkL_good (mo_a1 k) (by decide) (mo_s1 k)]
  rw [chkL_good (mo_a2 k) (by decide) (mo_s2 k)]
  rw [chkL_good (mo_a3 k) (by decide) (mo_s3 k)]
  rfl
theorem chkB_0 (k : Int) : chkL (moW someV k) (moP k) [⟨0, (moG k 0).E, 1073741789⟩, moG k 1, moG k 2, moG k 3] (-1) = 4 := by
  exact chkL_bad (mo_a0 k) (by decide) _
theorem chkB_1 (k : Int) : chkL (moW someV k) (moP k) [moG k 0, ⟨1, (moG k 1).E, 1073741789⟩, moG k 2, moG k 3] (-1) = 4 := by
  rw [chkL_good (mo_a0 k) (by decide) (mo_s0 k)]
  exact chkL_bad (mo_a1 k) (by decide) _
theorem chkB_2 (k : Int) : chkL (moW someV k) (moP k) [moG k 0, moG k 1, ⟨2, (moG k 2).E, 1073741789⟩, moG k 3] (-1) = 4 := by
  rw [chkL_good (mo_a0 k) (by decide) (mo_s0 k)]
  rw [chkL_good (mo_a1 k) (by decide) (mo_s1 k)]
  exact chkL_bad (mo_a2 k) (by decide) _
theorem chkB_3 (k : Int) : chkL (moW someV k) (moP k) [moG k 0, moG k 1, moG k 2, ⟨3, (moG k 3).E, 1073741789⟩] (-1) = 4 := by
  rw [chkL_good (mo_a0 k) (by decide) (mo_s0 k)]
  rw [chkL_good (mo_a1 k) (by decide) (mo_s1 k)]
  rw [chkL_good (mo_a2 k) (by decide) (mo_s2 k)]
  exact chkL_bad (mo_a3 k) (by decide) _
theorem voteMore_gen {A : AT} {U : UT} {S : List SC → Int} {W : Int → Int → Int} {K : KT} (hA : A = aprR applyQ paperS) (hU : U = usedB applyQ) (hS : S = scalS) (hW : W = powS) (hK : K = chkR applyQ paperS) (k wr : Int) (w : World) :
    Sx.Fn Tryz.prog fMore (atW w 0) [.c (.int k), .c (.int wr)] [] 0 fun x _ => x = .c (.bool true) := by
  have L := moL_ok hA hU hS hW hK
  cases k1 : decide (k < 1) with
  | true => exact Fn.xvL L Sp.mixed _ (mo_k1 someV A U S W K k wr) (tg_eq rfl k1) trivial rfl
  | false =>
  cases k2 : decide (k > 4) with
  | true => exact Fn.xvL L Sp.mixed _ (mo_k2 someV A U S W K k wr) (tg_eq (tg_eq rfl k1) k2) trivial rfl
  | false =>
  have k0 : mo0 k = true := tg_eq (tg_eq rfl k1) k2
  cases w1 : decide (wr < 0) with
  | true => exact Fn.xvL L Sp.mixed _ (mo_w1 someV A U S W K k wr) (tg_eq k0 w1) trivial rfl
  | false =>
  cases w2 : decide (wr > 4) with
  | true => exact Fn.xvL L Sp.mixed _ (mo_w2 someV A U S W K k wr) (ty_eq (tg_eq k0 w1) w2) trivial rfl
  | false =>
  rw [decide_eq_false_iff_not] at k1 k2 w1 w2
  have h1 : 1 ≤ k := by omega
  have h2 : k ≤ 4 := by omega
  have hk : ∀ m, moK someV K k m = bif chkL (moW someV k) (moP k) m (-1) != 0 then chkL (moW someV k) (moP k) m (-1) else bif decide ((m.length : Int) < k) then 8 else 0 := fun m => by
    unfold moK; rw [hK, chkR_l rfl (mo_e h1 h2), mo_k]
  have g5 : ∀ acc, acc = true → mo5 someV A S W K k acc = true := fun acc ha => by
    refine tn_eq (tn_eq (tn_eq (tn_eq (tn_eq ha (moE_0 hA hS hW h1 h2)) (moE_1 hA hS hW h1 h2)) (moE_2 hA hS hW h1 h2)) (moE_3 hA hS hW h1 h2)) ?_
    rw [moV_0 hA hS hW h1 h2, moV_1 hA hS hW h1 h2, moV_2 hA hS hW h1 h2, moV_3 hA hS hW h1 h2, hk, chk_4]
    show ((bif (0 : Int) != 0 then (0 : Int) else bif decide ((4 : Int) < k) then 8 else 0) != 0) = false
    rw [decide_eq_false (by omega)]; rfl
  have hw : wr = 0 ∨ wr = 1 ∨ wr = 2 ∨ wr = 3 ∨ wr = 4 := by omega
  rcases hw with rfl | rfl | rfl | rfl | rfl
  · refine Fn.xvL L Sp.mixed _ (mo_b0 someV A U S W K k) (tg_eq (g5 _ k0) ?_) trivial rfl
    rw [moB_0 hA hS hW h1 h2, moV_1 hA hS hW h1 h2, moV_2 hA hS hW h1 h2, moV_3 hA hS hW h1 h2, hk, chkB_0]; rfl
  · refine Fn.xvL L Sp.mixed _ (mo_b1 someV A U S W K k) (tg_eq (g5 _ k0) ?_) trivial rfl
    rw [moV_0 hA hS hW h1 h2, moB_1 hA hS hW h1 h2, moV_2 hA hS hW h1 h2, moV_3 hA hS hW h1 h2, hk, chkB_1]; rfl
  · refine Fn.xvL L Sp.mixed _ (mo_b2 someV A U S W K k) (tg_eq (g5 _ k0) ?_) trivial rfl
    rw [moV_0 hA hS hW h1 h2, moV_1 hA hS hW h1 h2, moB_2 hA hS hW h1 h2, moV_3 hA hS hW h1 h2, hk, chkB_2]; rfl
  · refine Fn.xvL L Sp.mixed _ (mo_b3 someV A U S W K k) (tg_eq (g5 _ k0) ?_) trivial rfl
    rw [moV_0 hA hS hW h1 h2, moV_1 hA hS hW h1 h2, moV_2 hA hS hW h1 h2, moB_3 hA hS hW h1 h2, hk, chkB_3]; rfl
  · have hk4 : k = 1 ∨ k = 2 ∨ k = 3 ∨ k = 4 := by omega
    rcases hk4 with rfl | rfl | rfl | rfl
    · refine Fn.xvL L Sp.mixed _ (mo_g1 someV A U S W K) (tg_eq (tg_eq (g5 _ rfl) ?_) ?_) trivial rfl
      · rw [moV_0 hA hS hW h1 h2, hk, chk_1]; rfl
      · rw [hk, chk_0]; rfl
    · refine Fn.xvL L Sp.mixed _ (mo_g2 someV A U S W K) (tg_eq (tg_eq (g5 _ rfl) ?_) ?_) trivial rfl
      · rw [moV_0 hA hS hW h1 h2, moV_1 hA hS hW h1 h2, hk, chk_2]; rfl
      · rw [moV_0 hA hS hW h1 h2, hk, chk_1]; rfl
    · refine Fn.xvL L Sp.mixed _ (mo_g3 someV A U S W K) (tg_eq (tg_eq (g5 _ rfl) ?_) ?_) trivial rfl
      · rw [moV_0 hA hS hW h1 h2, moV_1 hA hS hW h1 h2, moV_2 hA hS hW h1 h2, hk, chk_3]; rfl
      · rw [moV_0 hA hS hW h1 h2, moV_1 hA hS hW h1 h2, hk, chk_2]; rfl
    · refine Fn.xvL L Sp.mixed _ (mo_g4 someV A U S W K) (tg_eq (tg_eq (g5 _ rfl) ?_) ?_) trivial rfl
      · rw [moV_0 hA hS hW h1 h2, moV_1 hA hS hW h1 h2, moV_2 hA hS hW h1 h2, moV_3 hA hS hW h1 h2, hk, chk_4]; rfl
      · rw [moV_0 hA hS hW h1 h2, moV_1 hA hS hW h1 h2, moV_2 hA hS hW h1 h2, hk, chk_3]; rfl
theorem voteMore_fn (k wr : Int) (w : World) : Sx.Fn Tryz.prog fMore (atW w 0) [.c (.int k), .c (.int wr)] [] 0 fun x _ => x = .c (.bool true) := voteMore_gen rfl rfl rfl rfl rfl k wr w
end Go.Proofs.YtabiknpgakhkkaaGreat.Vt
