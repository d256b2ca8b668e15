/-
  Who does not approve.
-/
import Derived.Test.YtabiknpgakhkkaaGreatVtJ
set_option maxRecDepth 20000
namespace Go.Proofs.YtabiknpgakhkkaaGreat.Vt
open Go.RowKit Go.Proofs.YtabiknpgakhkkaaGreat.Sx Go.Proofs.YtabiknpgakhkkaaGreat.Pw Go.Proofs.YtabiknpgakhkkaaGreat.Vw
open Go.Proofs.YtabiknpgakhkkaaGreat.Pr (fromG fromG_ok rfromG rfromG_ok tKey keyC)
set_option linter.unusedVariables false
set_option linter.unusedSimpArgs false
set_option maxRecDepth 10000

/-- 32 bytes. -/
def hF (f : Nat → UInt8) : List SC := (List.range 32).map fun i => .u8 (f i)
theorem hF_of {hs : List UInt8} (h : hs.length = 32) : hs.map SC.u8 = hF fun i => hs.getD i 0 := by
  unfold hF
  refine List.ext_getElem (by rw [List.length_map, List.length_map, List.length_range, h]) fun i h1 h2 => ?_
  rw [List.length_map] at h1
  rw [List.getElem_map, List.getElem_map, List.getElem_range]
  show SC.u8 hs[i] = SC.u8 (hs.getD i 0)
  rw [List.getD_eq_getElem?_getD, List.getElem?_eq_getElem h1]; rfl
abbrev fVFrom : Nat := 5
noncomputable abbrev vfL (S0 : Int → Int → Int → Vi) (A : AT) (U : UT) (S : List SC → Int) (W : Int → Int → Int) : List (Nat × Con) := deep Tryz.prog 1000 [fSeed] [(fSome, someC S0), (fApr, apprC A U W), (Pr.fFrom, fromG S), (Pr.frFrom, rfromG S W), (fKnownT, knownC)] 1
theorem vfL_ok {A : AT} {U : UT} {S : List SC → Int} {W : Int → Int → Int} (hA : A = aprR applyQ paperS) (hU : U = usedB applyQ) (hS : S = scalS) (hW : W = powS) : LibOK Tryz.prog (vfL someV A U S W) :=
  deep_ok (LibOK.cons (some_ok rfl) (LibOK.cons (appr_ok hA hU hW) (LibOK.cons (fromG_ok hS) (LibOK.cons (rfromG_ok hS hW) (LibOK.cons known_ok (LibOK.nil _)))))) Sp.mixed (by kernel_rfl) 1
section
variable (S0 : Int → Int → Int → Vi) (A : AT) (U : UT) (S : List SC → Int) (W : Int → Int → Int) (ad way : Int) (H : Nat → UInt8)
noncomputable abbrev vfX (ad way : Int) (told : List Bool) := (xfunL Tryz.prog (vfL S0 A U S W) 1000 fVFrom [.c (.int ad), .agg (hF H), .c (.int way)] [] 0 told).map (fun q => (q.1, q.2.1, q.2.2.1))
def vfE (ad x : Int) (l : List Ope) : Int := (A (Vi.of (S0 4 2 1).cs) ad x (pubI W x 0 0) 0 l).2
def vfO : List Ope := [⟨3, 3, 0, 0, 0⟩]
def vfG (ad : Int) : Int := (Vi.of (S0 4 2 1).cs).t.sg ad.toNat
theorem vf_0 : vfX S0 A U S W H ad way [true, true] = some (tg true (decide (way < 0)) true, [], .c (.bool true)) := by kernel_rfl
theorem vf_00 : vfX S0 A U S W H ad way [false, true] = some (ty_ (tg true (decide (way < 0)) false) (decide (way > 2)), [], .c (.bool true)) := by kernel_rfl
-- way 2
theorem vf_1 : vfX S0 A U S W H ad 2 [false, false, false, false, false, true, false, true, true] = some (tg (tg true (ad == 0) false) (vfE S0 A W ad (S (hF H)) [] == 1) true, [], .c (.bool true)) := by kernel_rfl
theorem vf_2 : vfX S0 A U S W H 0 2 [false, false, false, false, false, true, true, true, true] = some (tg true (vfE S0 A W 0 (S (hF H)) [] == 1) true, [], .c (.bool true)) := by kernel_rfl
-- no admin
theorem vf_3 : vfX S0 A U S W H ad 0 [false, false, false, false, false, false, false, false, true, true] = some (tg (ty_ (tg true (ad == 0) false) (!(ad == 1))) (vfE S0 A W ad (S (hF H)) vfO == 6) true, [], .c (.bool true)) := by kernel_rfl
theorem vf_4 : vfX S0 A U S W H ad 1 [false, false, true, true, true, false, false, false, true, true] = some (tg (ty_ (tg (ty_ (tg true (decide (ad ≥ 0)) true) (decide (ad < 8))) (ad == 0) false) (!(ad == 1))) (vfE S0 A W ad (S (seedC ad)) vfO == 6) true, [], .c (.bool true)) := by kernel_rfl
theorem vf_5 : vfX S0 A U S W H ad 1 [false, false, true, true, false, false, false, false, true, true] = some (tg (ty_ (tg (tn (tg true (decide (ad ≥ 0)) true) (decide (ad < 8))) (ad == 0) false) (!(ad == 1))) (vfE S0 A W ad (S (hF H)) vfO == 6) true, [], .c (.bool true)) := by kernel_rfl
theorem vf_6 : vfX S0 A U S W H ad 1 [false, false, true, false, false, false, false, false, true, true] = some (tg (ty_ (tg (tg true (decide (ad ≥ 0)) false) (ad == 0) false) (!(ad == 1))) (vfE S0 A W ad (S (hF H)) vfO == 6) true, [], .c (.bool true)) := by kernel_rfl
-- an admin with his key
theorem vf_7 : vfX S0 A U S W H 0 1 [false, false, true, true, true, false, true, false, false, true, true] = some (tg true (vfE S0 A W 0 (S (seedC 0)) vfO == 0) true, [], .c (.bool true)) := by kernel_rfl
theorem vf_8 : vfX S0 A U S W H 1 1 [false, false, true, true, true, false, false, false, false, true, true] = some (tg true (vfE S0 A W 1 (S (seedC 1)) vfO == 0) true, [], .c (.bool true)) := by kernel_rfl
-- an admin with any key
def vfB (ad : Int) : Bool := (vfE S0 A W ad (S (hF H)) vfO == 0) == (W 4 (S (hF H)) == vfG S0 ad)
theorem vf_9 : vfX S0 A U S W H 0 0 [false, false, false, false, false, false, true, false, false, false, true, true, true] = some (tg (tg (tg true (vfB S0 A S W H 0) true) (vfE S0 A W 0 (S (hF H)) vfO == 0) true) true true, [], .c (.bool true)) := by kernel_rfl
theorem vf_10 : vfX S0 A U S W H 0 0 [false, false, false, false, false, false, true, false, false, false, true, false, true] = some (tg (tg (tg true (vfB S0 A S W H 0) true) (vfE S0 A W 0 (S (hF H)) vfO == 0) false) (vfE S0 A W 0 (S (hF H)) vfO == 10) true, [], .c (.bool true)) := by kernel_rfl
theorem vf_11 : vfX S0 A U S W H 1 0 [false, false, false, false, false, false, false, false, false, false, true, true, true] = some (tg (tg (tg true (vfB S0 A S W H 1) true) (vfE S0 A W 1 (S (hF H)) vfO == 0) true) true true, [], .c (.bool true)) := by kernel_rfl
theorem vf_12 : vfX S0 A U S W H 1 0 [false, false, false, false, false, false, false, false, false, false, true, false, true] = some (tg (tg (tg true (vfB S0 A S W H 1) true) (vfE S0 A W 1 (S (hF H)) vfO == 0) false) (vfE S0 A W 1 (S (hF H)) vfO == 10) true, [], .c (.bool true)) := by kernel_rfl
end
theorem aprR_none (v : Vi) (a x y f : Int) : (aprR applyQ paperS v a x y f []).2 = 1 := rfl
theorem vf_apply : (applyQ (Vi.of (someV 4 2 1).cs) 0 vfO).e = 0 := by kernel_rfl
theorem vf_s0 : (Vi.of (someV 4 2 1).cs).t.sg 0 = powS 4 (scalS (seedC 0)) := by kernel_rfl
theorem vf_s1 : (Vi.of (someV 4 2 1).cs).t.sg 1 = powS 4 (scalS (seedC 1)) := by kernel_rfl
theorem aprR_e (v : Vi) (a x y f : Int) (l : List Ope) (hl : l.isEmpty = false) (h : (applyQ v f l).e = 0) : (aprR applyQ paperS v a x y f l).2 = bif !adI v a then 6 else bif y != v.t.sg a.toNat then 10 else 0 := by
  unfold aprR
  rw [hl, h]
  cases adI v a with
  | false => rfl
  | true => cases y != v.t.sg a.toNat <;> rfl
theorem vf_n2 : adI (Vi.of (someV 4 2 1).cs) 2 = false := by kernel_rfl
theorem vf_n3 : adI (Vi.of (someV 4 2 1).cs) 3 = false := by kernel_rfl
theorem vf_n4 : adI (Vi.of (someV 4 2 1).cs) 4 = false := by kernel_rfl
theorem vf_n5 : adI (Vi.of (someV 4 2 1).cs) 5 = false := by kernel_rfl
theorem vf_n6 : adI (Vi.of (someV 4 2 1).cs) 6 = false := by kernel_rfl
theorem vf_n7 : adI (Vi.of (someV 4 2 1).cs) 7 = false := by kernel_rfl
theorem vf_no {a : Int} (h0 : a ≠ 0) (h1 : a ≠ 1) : adI (Vi.of (someV 4 2 1).cs) a = false := by
  cases h : adI (Vi.of (someV 4 2 1).cs) a with
  | false => rfl
  | true =>
    obtain ⟨j, rfl, hj⟩ := adI_yes h
    have : ∀ j, j < 8 → j ≠ 0 → j ≠ 1 → adI (Vi.of (someV 4 2 1).cs) ((j : Nat) : Int) = false := by
      intro j hj h0 h1
      have : j = 2 ∨ j = 3 ∨ j = 4 ∨ j = 5 ∨ j = 6 ∨ j = 7 := by omega
      rcases this with rfl | rfl | rfl | rfl | rfl | rfl
      · exact vf_n2
      · exact vf_n3
      · exact vf_n4
      · exact vf_n5
      · exact vf_n6
      · exact vf_n7
    rw [this j hj (by omega) (by omega)] at h
    cases h
theorem vf_y0 : adI (Vi.of (someV 4 2 1).cs) 0 = true := by kernel_rfl
theorem vf_y1 : adI (Vi.of (someV 4 2 1).cs) 1 = true := by kernel_rfl
theorem vfE_no {A : AT} (hA : A = aprR applyQ paperS) {W : Int → Int → Int} {a x : Int} (h0 : a ≠ 0) (h1 : a ≠ 1) : vfE someV A W a x vfO = 6 := by
  unfold vfE; rw [hA, aprR_e _ _ _ _ _ _ rfl vf_apply, vf_no h0 h1]; rfl
theorem vfE_0 {A : AT} (hA : A = aprR applyQ paperS) {W : Int → Int → Int} {x : Int} : vfE someV A W 0 x vfO = bif W 4 x != vfG someV 0 then 10 else 0 := by
  unfold vfE; rw [hA, aprR_e _ _ _ _ _ _ rfl vf_apply, vf_y0]; rfl
theorem vfE_1 {A : AT} (hA : A = aprR applyQ paperS) {W : Int → Int → Int} {x : Int} : vfE someV A W 1 x vfO = bif W 4 x != vfG someV 1 then 10 else 0 := by
  unfold vfE; rw [hA, aprR_e _ _ _ _ _ _ rfl vf_apply, vf_y1]; rfl
theorem voteFrom_gen {A : AT} {U : UT} {S : List SC → Int} {W : Int → Int → Int} (hA : A = aprR applyQ paperS) (hU : U = usedB applyQ) (hS : S = scalS) (hW : W = powS) (ad way : Int) (H : Nat → UInt8) (w : World) :
    Sx.Fn Tryz.prog fVFrom (atW w 0) [.c (.int ad), .agg (hF H), .c (.int way)] [] 0 fun x _ => x = .c (.bool true) := by
  have L := vfL_ok hA hU hS hW
  cases w1 : decide (way < 0) with
  | true => exact Fn.xvL L Sp.mixed _ (vf_0 someV A U S W ad way H) (tg_eq rfl w1) trivial rfl
  | false =>
  cases w2 : decide (way > 2) with
  | true => exact Fn.xvL L Sp.mixed _ (vf_00 someV A U S W ad way H) (ty_eq (tg_eq rfl w1) w2) trivial rfl
  | false =>
  rw [decide_eq_false_iff_not] at w1 w2
  have hw : way = 0 ∨ way = 1 ∨ way = 2 := by omega
  rcases hw with rfl | rfl | rfl
  · by_cases h0 : ad = 0
    · subst h0
      have e := vfE_0 hA (W := W) (x := S (hF H))
      have hb : vfB someV A S W H 0 = true := by
        unfold vfB; rw [e]; unfold bne
        cases W 4 (S (hF H)) == vfG someV 0 <;> rfl
      cases hz : vfE someV A W 0 (S (hF H)) vfO == 0 with
      | true => exact Fn.xvL L Sp.mixed _ (vf_9 someV A U S W H) (tg_eq (tg_eq (tg_eq rfl hb) hz) rfl) trivial rfl
      | false =>
        refine Fn.xvL L Sp.mixed _ (vf_10 someV A U S W H) (tg_eq (tg_eq (tg_eq rfl hb) hz) ?_) trivial rfl
        rw [e] at hz ⊢
        revert hz
        cases W 4 (S (hF H)) != vfG someV 0 <;> intro hz
        · cases hz
        · rfl
    · by_cases h1 : ad = 1
      · subst h1
        have e := vfE_1 hA (W := W) (x := S (hF H))
        have hb : vfB someV A S W H 1 = true := by
          unfold vfB; rw [e]; unfold bne
          cases W 4 (S (hF H)) == vfG someV 1 <;> rfl
        cases hz : vfE someV A W 1 (S (hF H)) vfO == 0 with
        | true => exact Fn.xvL L Sp.mixed _ (vf_11 someV A U S W H) (tg_eq (tg_eq (tg_eq rfl hb) hz) rfl) trivial rfl
        | false =>
          refine Fn.xvL L Sp.mixed _ (vf_12 someV A U S W H) (tg_eq (tg_eq (tg_eq rfl hb) hz) ?_) trivial rfl
          rw [e] at hz ⊢
          revert hz
          cases W 4 (S (hF H)) != vfG someV 1 <;> intro hz
          · cases hz
          · rfl
      · have a0 : (ad == 0) = false := by simpa using h0
        have a1 : (!(ad == 1)) = true := by simpa using h1
        exact Fn.xvL L Sp.mixed _ (vf_3 someV A U S W ad H) (tg_eq (ty_eq (tg_eq rfl a0) a1) (by rw [vfE_no hA h0 h1]; rfl)) trivial rfl
  · by_cases h0 : ad = 0
    · subst h0
      refine Fn.xvL L Sp.mixed _ (vf_7 someV A U S W H) (tg_eq rfl ?_) trivial rfl
      rw [vfE_0 hA, hW, hS]
      unfold vfG
      rw [show (0 : Int).toNat = 0 from rfl, vf_s0, bne_self_eq_false]; rfl
    · by_cases h1 : ad = 1
      · subst h1
        refine Fn.xvL L Sp.mixed _ (vf_8 someV A U S W H) (tg_eq rfl ?_) trivial rfl
        rw [vfE_1 hA, hW, hS]
        unfold vfG
        rw [show (1 : Int).toNat = 1 from rfl, vf_s1, bne_self_eq_false]; rfl
      · have a0 : (ad == 0) = false := by simpa using h0
        have a1 : (!(ad == 1)) = true := by simpa using h1
        cases g0 : decide (ad ≥ 0) with
        | false => exact Fn.xvL L Sp.mixed _ (vf_6 someV A U S W ad H) (tg_eq (ty_eq (tg_eq (tg_eq rfl g0) a0) a1) (by rw [vfE_no hA h0 h1]; rfl)) trivial rfl
        | true =>
          cases g1 : decide (ad < 8) with
          | false => exact Fn.xvL L Sp.mixed _ (vf_5 someV A U S W ad H) (tg_eq (ty_eq (tg_eq (tn_eq (tg_eq rfl g0) g1) a0) a1) (by rw [vfE_no hA h0 h1]; rfl)) trivial rfl
          | true => exact Fn.xvL L Sp.mixed _ (vf_4 someV A U S W ad H) (tg_eq (ty_eq (tg_eq (ty_eq (tg_eq rfl g0) g1) a0) a1) (by rw [vfE_no hA h0 h1]; rfl)) trivial rfl
  · by_cases h0 : ad = 0
    · subst h0
      refine Fn.xvL L Sp.mixed _ (vf_2 someV A U S W H) (tg_eq rfl ?_) trivial rfl
      unfold vfE; rw [hA, aprR_none]; rfl
    · have a0 : (ad == 0) = false := by simpa using h0
      refine Fn.xvL L Sp.mixed _ (vf_1 someV A U S W ad H) (tg_eq (tg_eq rfl a0) ?_) trivial rfl
      unfold vfE; rw [hA, aprR_none]; rfl
theorem voteFrom_fn (ad : Int) (hs : List UInt8) (way : Int) (w : World) (hh : hs.length = 32) : Sx.Fn Tryz.prog fVFrom (atW w 0) [.c (.int ad), .agg (hs.map SC.u8), .c (.int way)] [] 0 fun x _ => x = .c (.bool true) := by
  rw [hF_of hh]
  exact voteFrom_gen rfl rfl rfl rfl ad way _ w
end Go.Proofs.YtabiknpgakhkkaaGreat.Vt
