/-
  Approvals as they should be; what can not be done is not approved.
-/
import Derived.Test.YtabiknpgakhkkaaGreatVtL
set_option maxRecDepth 20000
namespace Go.Proofs.YtabiknpgakhkkaaGreat.Vt
open Go.RowKit Go.Proofs.YtabiknpgakhkkaaGreat.Sx Go.Proofs.YtabiknpgakhkkaaGreat.Pw Go.Proofs.YtabiknpgakhkkaaGreat.Vw
open Go.Proofs.YtabiknpgakhkkaaGreat.Pr (fromG fromG_ok rfromG rfromG_ok tKey keyC)
set_option linter.unusedVariables false
set_option linter.unusedSimpArgs false
set_option maxRecDepth 10000

/-- An admin's approval as it should be. -/
def gV (v : Vi) (f : Int) (l : List Ope) (i : Int) : Vot := ⟨i, Sg.signEE (keyX i) (powS 4 (keyX i)) (hashL (paperS v f l)), Sg.signSS (keyX i) (powS 4 (keyX i)) (hashL (paperS v f l))⟩
theorem chkL_good {v : Vi} {f i last : Int} {l : List Ope} {r : List Vot} (hA : adI v i = true) (hl : last < i) (hy : v.t.sg i.toNat = keyY i) : chkL v (hashL (paperS v f l)) (gV v f l i :: r) last = chkL v (hashL (paperS v f l)) r i := by
  obtain ⟨X, hX, h0, hQ⟩ := scal_nat (seedC i)
  show (bif !adI v i then (6 : Int) else bif decide (i ≤ last) then 6 else bif !Sg.verS (v.t.sg i.toNat) (hashL (paperS v f l)) (Sg.signEE (keyX i) (powS 4 (keyX i)) (hashL (paperS v f l))) (Sg.signSS (keyX i) (powS 4 (keyX i)) (hashL (paperS v f l))) then 4 else chkL v (hashL (paperS v f l)) r i) = _
  rw [hA, decide_eq_false (by omega), hy, show keyY i = powS 4 (keyX i) from rfl, show keyX i = (X : Int) from hX, Sg.sign_holds h0 hQ]; rfl
theorem aprR_good {v : Vi} {f i : Int} {l : List Ope} (hl : l.isEmpty = false) (he : (applyQ v f l).e = 0) (hA : adI v i = true) (hy : v.t.sg i.toNat = keyY i) : aprR applyQ paperS v i (keyX i) (powS 4 (keyX i)) f l = (gV v f l i, 0) := by
  unfold aprR
  rw [hl, he, hA, hy, show (powS 4 (keyX i) != keyY i) = false from bne_self_eq_false (a := keyY i)]; rfl
theorem bad_no {E S : Int} (h : Sg.inQ S = false) (y : Int) (bs : List UInt8) : Sg.verS y bs E S = false := by
  have : Sg.vC y E S = true := by
    unfold Sg.vC Sg.vB
    cases Sg.vA y with
    | true => rfl
    | false =>
      simp only [cond_false]
      rw [h]; cases Sg.inQ E <;> rfl
  unfold Sg.verS
  rw [this]; rfl
/-- One of the approvals has a number beyond its bounds. -/
theorem chkL_bad {v : Vi} {f i last : Int} {l : List Ope} {r : List Vot} (hA : adI v i = true) (hl : last < i) (E : Int) : chkL v (hashL (paperS v f l)) (⟨i, E, 1073741789⟩ :: r) last = 4 := by
  show (bif !adI v i then (6 : Int) else bif decide (i ≤ last) then 6 else bif !Sg.verS (v.t.sg i.toNat) (hashL (paperS v f l)) E 1073741789 then 4 else chkL v (hashL (paperS v f l)) r i) = _
  rw [hA, decide_eq_false (by omega), bad_no (show Sg.inQ 1073741789 = false from rfl)]; rfl

/-! What can not be done. -/
def opC (o : Ope) : List SC := o.cs
set_option maxRecDepth 100000 in
theorem arg_op {W : World} {base : Nat} {v : Value} (h : Value.okWide Tryz.prog W .any base 61 v) : ∃ (o : Ope) (vs : List Value), v = .agg vs.toArray ∧ ∀ ρ, All2 (SC.R ρ) (opC o) vs := by
  obtain ⟨sc, vs, rfl, h3, h4⟩ := arg_cells (ts := List.replicate 5 3) (ks := [0, 0, 0, 0, 0]) (by kernel_rfl) (by kernel_rfl) (by kernel_rfl) (by kernel_rfl) h
  have int : ∀ {x : SC}, codeOk x 0 → ∃ n, x = .int n := fun {x} h => by
    rcases h with ⟨_, h⟩ | ⟨h, _⟩ | ⟨h, _⟩
    · cases x <;> first | exact ⟨_, rfl⟩ | (simp [SC.isInt] at h; done)
    · cases h
    · cases h
  match sc, h3, h4 with
  | [x1, x2, x3, x4, x5], h3, .cons a1 (.cons a2 (.cons a3 (.cons a4 (.cons a5 .nil)))) =>
    obtain ⟨n1, rfl⟩ := int a1
    obtain ⟨n2, rfl⟩ := int a2
    obtain ⟨n3, rfl⟩ := int a3
    obtain ⟨n4, rfl⟩ := int a4
    obtain ⟨n5, rfl⟩ := int a5
    exact ⟨⟨n1, n2, n3, n4, n5⟩, vs, rfl, h3⟩

abbrev fRefused : Nat := 7
noncomputable abbrev rfL (S0 : Int → Int → Int → Vi) (A : AT) (U : UT) (S : List SC → Int) (W : Int → Int → Int) (K : KT) : List (Nat × Con) := deep Tryz.prog 1000 [fSeed] [(fSome, someC S0), (fApr, apprC A U W), (frApr, aprC A), (Pr.fFrom, fromG S), (Pr.frFrom, rfromG S W), (fChk, chkC K), (fKnownT, knownC)] 1
theorem rfL_ok {A : AT} {U : UT} {S : List SC → Int} {W : Int → Int → Int} {K : KT} (hA : A = aprR applyQ paperS) (hU : U = usedB applyQ) (hS : S = scalS) (hW : W = powS) (hK : K = chkR applyQ paperS) : LibOK Tryz.prog (rfL someV A U S W K) :=
  deep_ok (LibOK.cons (some_ok rfl) (LibOK.cons (appr_ok hA hU hW) (LibOK.cons (rapr_ok hA) (LibOK.cons (fromG_ok hS) (LibOK.cons (rfromG_ok hS hW) (LibOK.cons (chk_ok hK) (LibOK.cons known_ok (LibOK.nil _)))))))) Sp.mixed (by kernel_rfl) 1
section
variable (S0 : Int → Int → Int → Vi) (A : AT) (U : UT) (S : List SC → Int) (W : Int → Int → Int) (K : KT) (o : Ope) (ad : Int)
noncomputable abbrev rfX (told : List Bool) := (xfunL Tryz.prog (rfL S0 A U S W K) 1000 fRefused [.agg (opC o), .c (.int ad)] [] 0 told).map (fun q => (q.1, q.2.1, q.2.2.1))
def rfA : Int := (A (Vi.of (S0 3 2 1).cs) 0 (S (seedC 0)) (W 4 (S (seedC 0))) 0 [o]).2
def rfK : Int := K (Vi.of (S0 3 2 1).cs) 0 [o] [⟨ad, 0, 0⟩]
theorem rf_1 : rfX S0 A U S W K o ad [true] = some (ty_ true (rfA S0 A S W o == 0), [], .c (.bool true)) := by kernel_rfl
theorem rf_2 : rfX S0 A U S W K o ad [false, true, true] = some (tg (tg (tn true (rfA S0 A S W o == 0)) (rfA S0 A S W o == rfA S0 A S W o) true) (rfK S0 K o ad == rfA S0 A S W o) true, [], .c (.bool true)) := by kernel_rfl
end
theorem rf_sg : (Vi.of (someV 3 2 1).cs).t.sg 0 = powS 4 (scalS (seedC 0)) := by kernel_rfl
theorem rf_ad : adI (Vi.of (someV 3 2 1).cs) 0 = true := by kernel_rfl
theorem refused_law {o : Ope} {ad : Int} (h : (aprR applyQ paperS (Vi.of (someV 3 2 1).cs) 0 (scalS (seedC 0)) (powS 4 (scalS (seedC 0))) 0 [o]).2 ≠ 0) :
    chkR applyQ paperS (Vi.of (someV 3 2 1).cs) 0 [o] [⟨ad, 0, 0⟩] = (aprR applyQ paperS (Vi.of (someV 3 2 1).cs) 0 (scalS (seedC 0)) (powS 4 (scalS (seedC 0))) 0 [o]).2 := by
  cases he : (applyQ (Vi.of (someV 3 2 1).cs) 0 [o]).e != 0 with
  | false =>
    have h0 : (applyQ (Vi.of (someV 3 2 1).cs) 0 [o]).e = 0 := by simpa using he
    rw [aprR_e _ _ _ _ _ _ rfl h0, rf_ad, show (0 : Int).toNat = 0 from rfl, rf_sg, bne_self_eq_false] at h
    exact absurd rfl h
  | true =>
    unfold chkR aprR
    rw [he]; rfl
theorem voteRefused_gen {A : AT} {U : UT} {S : List SC → Int} {W : Int → Int → Int} {K : KT} (hA : A = aprR applyQ paperS) (hU : U = usedB applyQ) (hS : S = scalS) (hW : W = powS) (hK : K = chkR applyQ paperS) (o : Ope) (ad : Int) (w : World) :
    Sx.Fn Tryz.prog fRefused (atW w 0) [.agg (opC o), .c (.int ad)] [] 0 fun x _ => x = .c (.bool true) := by
  have L := rfL_ok hA hU hS hW hK
  cases h1 : rfA someV A S W o == 0 with
  | true => exact Fn.xvL L Sp.mixed _ (rf_1 someV A U S W K o ad) (ty_eq rfl h1) trivial rfl
  | false =>
    refine Fn.xvL L Sp.mixed _ (rf_2 someV A U S W K o ad) (tg_eq (tg_eq (tn_eq rfl h1) (by simp)) ?_) trivial rfl
    unfold rfK rfA
    unfold rfA at h1
    subst hA hS hW hK
    rw [refused_law (by simpa using h1)]
    simp
theorem voteRefused_fn (o : Ope) (ad : Int) (w : World) : Sx.Fn Tryz.prog fRefused (atW w 0) [.agg (opC o), .c (.int ad)] [] 0 fun x _ => x = .c (.bool true) := voteRefused_gen rfl rfl rfl rfl rfl o ad w
end Go.Proofs.YtabiknpgakhkkaaGreat.Vt
