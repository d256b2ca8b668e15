/-
  Who is under the plan's nodes: what the law answers.
-/
import Derived.Test.YtkpdkfeklecehaaLdQ
namespace Go.Proofs.Ytkpdkfeklecehaa.Ld
open Go.RowKit Go.Proofs.Ytkpdkfeklecehaa.Sx Go.Proofs.Ytkpdkfeklecehaa.Pw Go.Proofs.Ytkpdkfeklecehaa.Vw
set_option linter.unusedVariables false
set_option linter.unusedSimpArgs false
set_option maxRecDepth 10000

theorem pairC_get : ∀ (l : List (Nat × Nat)) (k : Nat) (hk : k < l.length), (pairC l).getD (k * 2) .nilp = .int (Int.ofNat l[k].1) ∧ (pairC l).getD (k * 2 + 1) .nilp = .int (Int.ofNat l[k].2)
  | [], k, hk => absurd hk (by simp)
  | x :: l, 0, _ => ⟨rfl, rfl⟩
  | x :: l, k + 1, hk => by
    have h := pairC_get l k (by simpa using hk)
    show ([SC.int (Int.ofNat x.1), SC.int (Int.ofNat x.2)] ++ pairC l).getD ((k + 1) * 2) .nilp = _ ∧ ([SC.int (Int.ofNat x.1), SC.int (Int.ofNat x.2)] ++ pairC l).getD ((k + 1) * 2 + 1) .nilp = _
    rw [show (k + 1) * 2 = k * 2 + 1 + 1 by omega]
    exact h
theorem cntP_take (F : Nat → Nat → Bool) (i : Nat) (L : List (Nat × Nat)) {k : Nat} (hk : k < L.length) : cntP F i (L.take (k + 1)) = cntP F i (L.take k) + (bif F L[k].2 i then 1 else 0) := by
  rw [List.take_succ_eq_append_getElem hk, cntP_app]; rfl
theorem cntP_le (F : Nat → Nat → Bool) (i : Nat) : ∀ L : List (Nat × Nat), cntP F i L ≤ L.length
  | [] => Nat.le_refl _
  | x :: L => by have := cntP_le F i L; simp only [cntP, List.length_cons]; cases F x.2 i <;> simp <;> omega
theorem cs_int (t : Tr) {i : Nat} (hi : i < 8) : (t.cs.getD (0 + i * 2 + 1) .nilp).isInt = true := by
  have : i = 0 ∨ i = 1 ∨ i = 2 ∨ i = 3 ∨ i = 4 ∨ i = 5 ∨ i = 6 ∨ i = 7 := by omega
  rcases this with rfl | rfl | rfl | rfl | rfl | rfl | rfl | rfl <;> rfl
theorem wh_at (b : Nat → Bool) {i : Nat} (hi : i < 8) : (whC b).getD (0 + i * 1) .nilp = .bool (b i) := by
  have : i = 0 ∨ i = 1 ∨ i = 2 ∨ i = 3 ∨ i = 4 ∨ i = 5 ∨ i = 6 ∨ i = 7 := by omega
  rcases this with rfl | rfl | rfl | rfl | rfl | rfl | rfl | rfl <;> rfl
theorem bF_at (b : Nat → Bool) {i : Nat} (hi : i < 8) : bF (b 0) (b 1) (b 2) (b 3) (b 4) (b 5) (b 6) (b 7) i = b i := by
  have : i = 0 ∨ i = 1 ∨ i = 2 ∨ i = 3 ∨ i = 4 ∨ i = 5 ∨ i = 6 ∨ i = 7 := by omega
  rcases this with rfl | rfl | rfl | rfl | rfl | rfl | rfl | rfl <;> rfl
theorem pa_at (l : Nat) {p : Nat} (hp : p < 3) : (paC l).getD (0 + p * 1) .nilp = .int (Int.ofNat (pathN l p)) := by
  have : p = 0 ∨ p = 1 ∨ p = 2 := by omega
  rcases this with rfl | rfl | rfl <;> rfl
theorem bltT {a b : Nat} (h : a < b) : Nat.blt a b = true := by rw [Nat.blt_eq]; exact h
theorem ands {a b : Bool} (ha : a = true) (hb : b = true) : (a && b) = true := by subst ha hb; rfl
section
variable (t : Tr) (b : Nat → Bool) (w : World) {l : Nat} (L : List (Nat × Nat))
theorem m0_ok {k : Nat} (hk : k < L.length) {acc : Bool} (h : acc = true) : rcM0 L.length (pairC L) k acc = true := by
  unfold rcM0
  refine bnd2 (bnd2 h (ands (bltT hk) rfl)) (ands (bltT ?_) ?_)
  · show 0 + k * 2 + 0 < _; rw [pairC_len]; omega
  · show ((pairC L).getD (0 + k * 2 + 0) .nilp).isInt = true
    rw [show 0 + k * 2 + 0 = k * 2 by omega, (pairC_get L k hk).1]; rfl
theorem m1_ok {k : Nat} (hk : k < L.length) {acc : Bool} (h : acc = true) : rcM1 L.length (pairC L) k acc = true := by
  unfold rcM1
  refine bnd2 (bnd2 h (ands (bltT hk) rfl)) (ands (bltT ?_) ?_)
  · show 0 + k * 2 + 1 < _; rw [pairC_len]; omega
  · show ((pairC L).getD (0 + k * 2 + 1) .nilp).isInt = true
    rw [show 0 + k * 2 + 1 = k * 2 + 1 by omega, (pairC_get L k hk).2]; rfl
theorem rcA_eq {k : Nat} (hk : k < L.length) : rcA (pairC L) k = Int.ofNat L[k].1 := by
  unfold rcA
  show ((pairC L).getD (0 + k * 2 + 0) .nilp).asInt = _
  rw [show 0 + k * 2 + 0 = k * 2 by omega, (pairC_get L k hk).1]; rfl
theorem rcD_eq {k : Nat} (hk : k < L.length) : rcD (pairC L) k = Int.ofNat L[k].2 := by
  unfold rcD
  show ((pairC L).getD (0 + k * 2 + 1) .nilp).asInt = _
  rw [show 0 + k * 2 + 1 = k * 2 + 1 by omega, (pairC_get L k hk).2]; rfl
theorem pl_ok : rcPl (pairC L) = true := by unfold rcPl; rw [sole_plain' (pairC_sole L)]; rfl
/-- The plan's nodes, one by one. -/
theorem rc_inner {Q : Out → St → Prop} {i : Nat} (hi : i < 8) (hl : l < 8) (hlen : L.length ≤ 100) (hL : ∀ x ∈ L, x.1 < 3 ∧ x.2 < 15 ∧ (underB x.2 i = true → pathN l x.1 = commonN l i))
    (hQ : SWs Try.prog (atW w 0) (rcK.drop 5) (rcI t b l L.length (pairC L) i (cntP underB i L) L.length) Q) : SWs Try.prog (atW w 0) (rcK.drop 4) (rcI t b l L.length (pairC L) i 0 0) Q := by
  refine SWs.loop (by kernel_rfl) (fun k : Nat => rcI t b l L.length (pairC L) i (cntP underB i (L.take k) : Nat) (k : Nat)) (fun k => L.length - k) (fun k => k ≤ L.length) 0 (Nat.zero_le _) ?_
  intro k hk
  by_cases hlt : k < L.length
  · obtain ⟨h1, h2, h3⟩ := hL _ (List.getElem_mem hlt)
    have hA := rcA_eq L hlt
    have hD := rcD_eq L hlt
    have hw : IntKind.i64.wrap ((k : Int) + 1) = ((k + 1 : Nat) : Int) := by rw [wrapI k (by omega)]
    have hc := cntP_take underB i L hlt
    have hcl : cntP underB i (L.take k) ≤ 100 := by have := cntP_le underB i (L.take k); rw [List.length_take] at this; omega
    have hN : rcN L.length (pairC L) i k = true := by
      unfold rcN
      rw [hA, hD]
      refine bnd2 (m1_ok L hlt (tn_eq (m0_ok L hlt (tg_eq (m0_ok L hlt (ty_eq rfl (decide_eq_true (by omega)))) (decide_eq_false (by simp only [Int.ofNat_eq_natCast]; omega)))) (decide_eq_false (by simp only [Int.ofNat_eq_natCast]; omega)))) (ands ?_ ?_)
      · unfold inI; exact ands (decide_eq_true (by simp only [Int.ofNat_eq_natCast]; omega)) (decide_eq_true (by simp only [Int.ofNat_eq_natCast]; omega))
      · unfold inI; exact ands (decide_eq_true (by omega)) (decide_eq_true (by omega))
    have hU : underB (rcD (pairC L) k).toNat (Int.ofNat i).toNat = underB L[k].2 i := by rw [hD]; rfl
    cases hu : underB L[k].2 i with
    | false =>
      refine SWs.roundL rcL_ok Sp.mixed [true, false, false, false] (rc_i1 t planS underB b l L.length (pairC L) i (cntP underB i (L.take k)) k) rfl (bnd2 (tn_eq hN (by rw [hU, hu])) (pl_ok L)) trivial ⟨k + 1, hlt, by omega, ?_⟩
      rw [hw, hc, hu]; rfl
    | true =>
      refine SWs.roundL rcL_ok Sp.mixed [true, false, false, true, false] (rc_i2 t planS underB b l L.length (pairC L) i (cntP underB i (L.take k)) k) rfl (bnd2 (tn_eq (bnd2 (bnd2 (bnd2 (m0_ok L hlt (ty_eq hN (by rw [hU, hu]))) ?_) ?_) (ands (bltT hl) (bltT hi))) ?_) (pl_ok L)) trivial ⟨k + 1, hlt, by omega, ?_⟩
      · rw [hA]; exact ands (decide_eq_true (by simp only [Int.ofNat_eq_natCast]; omega)) (bltT h1)
      · rw [hA]
        show (Nat.blt (0 + L[k].1 * 1) 3 && ((paC l).getD (0 + L[k].1 * 1) .nilp).isInt) = true
        rw [pa_at l h1]; exact ands (bltT (by omega)) rfl
      · unfold rcQ
        rw [hA]
        show (((paC l).getD (0 + L[k].1 * 1) .nilp).asInt != Int.ofNat (commonN l i)) = false
        rw [pa_at l h1, h3 hu]
        show (Int.ofNat (commonN l i) != Int.ofNat (commonN l i)) = false
        simp
      · rw [hw, hc, hu, wrapI _ (by omega)]; rfl
  · obtain rfl : k = L.length := by omega
    rw [List.take_length]
    exact SWs.outL rcL_ok Sp.mixed [false] (rc_io t planS underB b l L.length (pairC L) i (cntP underB i L) L.length) (bnd2 (tn_eq rfl (decide_eq_false (by omega))) (pl_ok L)) trivial hQ
end
theorem rcE_eq (t : Tr) (i : Nat) : rcE t i = (Tr.of t.cs 0).sl i := by
  show (t.cs.getD (0 + i * 2 + 1) .nilp).asInt = (t.cs.getD (0 + 2 * i + 1) .nilp).asInt
  rw [show 0 + i * 2 + 1 = 0 + 2 * i + 1 by omega]
theorem reaches_fn (t : Tr) (b : Nat → Bool) (lf : Int) (w : World) : Sx.Fn Try.prog fReach (atW w 0) [.agg t.cs, .c (.int lf), .agg (whC b)] [] 0 fun r _ => r = .c (.bool true) := by
  cases h1 : decide (lf < 0) with
  | true => exact Fn.xvL rcL_ok Sp.mixed [true, true] (rc_x1 t planS underB b lf) (tg_eq rfl h1) trivial rfl
  | false =>
  cases h2 : decide (lf > 7) with
  | true => exact Fn.xvL rcL_ok Sp.mixed [false, true, true] (rc_x2 t planS underB b lf) (tg_eq (tg_eq rfl h1) h2) trivial rfl
  | false =>
  have g1 := of_decide_eq_false h1
  have g2 := of_decide_eq_false h2
  obtain ⟨l, rfl⟩ := Int.eq_ofNat_of_zero_le (show 0 ≤ lf by omega)
  have hl : l < 8 := by omega
  have h2 : decide (Int.ofNat l > 7) = false := h2
  cases h3 : isTS (Tr.of t.cs 0) with
  | false => exact Fn.xvL rcL_ok Sp.mixed [false, false, true] (rc_x3 t planS underB b l) (ty_eq (tg_eq rfl h2) (by rw [h3]; rfl)) trivial rfl
  | true =>
  refine Sx.Fn.of (nt := 97) (by kernel_rfl) rfl ?_
  have hLlen : (rcP t planS b l).length ≤ 100 := by
    have := planT_len (Tr.of t.cs 0) (bF (b 0) (b 1) (b 2) (b 3) (b 4) (b 5) (b 6) (b 7)) (sideN l 0) (sideN l 1) (sideN l 2) 3 (by decide)
    show (planT _ _ _ _ _ 3).length ≤ 100
    omega
  have hAt : ∀ {i : Nat}, i < 8 → ∀ x ∈ rcP t planS b l, x.1 < 3 ∧ x.2 < 15 ∧ (underB x.2 i = true → pathN l x.1 = commonN l i) := fun hi => plan_at _ _ hl hi
  have hOne : ∀ {i : Nat}, i < 8 → i ≠ l → ((Tr.of t.cs 0).sl i != 0) = true → cntP underB i (rcP t planS b l) ≤ 1 ∧ (b i = false → cntP underB i (rcP t planS b l) = 1) := fun {i} hi hne hs => by
    have := plan_once (Tr.of t.cs 0) (bF (b 0) (b 1) (b 2) (b 3) (b 4) (b 5) (b 6) (b 7)) hl hi hne hs
    rw [bF_at b hi] at this
    exact this
  refine SWs.stepL rcL_ok Sp.mixed [false, false, false] (rc_s t planS underB b l) (bnd2 (bnd2 (bnd2 (tn_eq (tg_eq rfl h2) (by rw [h3]; rfl)) (ands (pairC_sole _) (bltT hl))) (bltT hl)) (pl_ok _)) trivial ?_
  generalize rcP t planS b l = L at hLlen hAt hOne
  refine SWs.loop (by kernel_rfl) (fun i : Nat => rcO t b l L.length (pairC L) (i : Nat)) (fun i => 8 - i) (fun i => i ≤ 8) 0 (by decide) ?_
  intro i hi
  by_cases hlt : i < 8
  · have hw : IntKind.i64.wrap ((i : Int) + 1) = ((i + 1 : Nat) : Int) := by rw [wrapI i (by omega)]
    have hc8 : ty_ true (decide ((i : Int) < 8)) = true := ty_eq rfl (decide_eq_true (by omega))
    cases hil : (i : Int) == Int.ofNat l with
    | true =>
      exact SWs.roundL rcL_ok Sp.mixed [true, true, true] (rc_c1 t planS underB b l L.length (pairC L) i) rfl (bnd2 (tg_eq hc8 hil) (pl_ok L)) trivial ⟨i + 1, hlt, by omega, by rw [hw]⟩
    | false =>
      have hne : i ≠ l := by rintro rfl; simp at hil
      have hH : ∀ {acc : Bool}, acc = true → rcH t i acc = true := fun {acc} ha => by
        unfold rcH
        refine bnd2 (bnd2 ha (bltT hlt)) (ands (bltT (by show 0 + i * 2 + 1 < 31; omega)) (cs_int t hlt))
      cases hs : rcE t i == 0 with
      | true =>
        exact SWs.roundL rcL_ok Sp.mixed [true, false, true] (rc_c2 t planS underB b l L.length (pairC L) i) rfl (bnd2 (ty_eq (hH (tg_eq hc8 hil)) hs) (pl_ok L)) trivial ⟨i + 1, hlt, by omega, by rw [hw]⟩
      | false =>
        have hsl : ((Tr.of t.cs 0).sl i != 0) = true := by rw [← rcE_eq]; simp only [bne, hs, Bool.not_false]
        obtain ⟨o1, o2⟩ := hOne hlt hne hsl
        refine SWs.stepL rcL_ok Sp.mixed [true] (rc_c3 t planS underB b l L.length (pairC L) i) (bnd2 hc8 (pl_ok L)) trivial ?_
        refine SWs.enter (by kernel_rfl) ?_
        refine SWs.stepL rcL_ok Sp.mixed [false, false] (rc_k t planS underB b l L.length (pairC L) i) (bnd2 (tn_eq (hH (tg_eq rfl hil)) hs) (pl_ok L)) trivial ?_
        refine rc_inner t b w L hlt hl hLlen (hAt hlt) ?_
        have hz : ∀ {Q : Out → St → Prop}, (∀ st, st = rcO t b l L.length (pairC L) ((i + 1 : Nat) : Int) → Q .norm st) → SWs Try.prog (atW w 0) (rcO1.drop 3) (rcO t b l L.length (pairC L) i) Q := fun {Q} hQ =>
          SWs.doneL rcL_ok Sp.mixed [] (rc_z t planS underB b l L.length (pairC L) i) rfl (bnd2 rfl (pl_ok L)) trivial (hQ _ (by rw [hw]))
        have hR : ∀ o, (!rcW b i) = o → rcR b i (cntP underB i L) o = true := fun o ho => by
          unfold rcR
          refine tg_eq (bnd2 (bnd2 (tg_eq rfl (decide_eq_false (by omega))) (bltT hlt)) (ands (bltT (by show 0 + i * 1 < 8; omega)) ?_)) ho
          show ((whC b).getD (0 + i * 1) .nilp).isBool = true
          rw [wh_at b hlt]; rfl
        have hW : rcW b i = b i := by
          show ((whC b).getD (0 + i * 1) .nilp).asBool = b i
          rw [wh_at b hlt]; rfl
        cases hb : b i with
        | false =>
          refine SWs.doneL rcL_ok Sp.mixed [false, true, false] (rc_e1 t planS underB b l L.length (pairC L) i (cntP underB i L) L.length) rfl (bnd2 (tn_eq (hR true (by rw [hW, hb]; rfl)) ?_) (pl_ok L)) trivial (hz fun st hst => ⟨i + 1, hlt, by omega, hst⟩)
          rw [o2 hb]; rfl
        | true =>
          exact SWs.doneL rcL_ok Sp.mixed [false, false, false] (rc_e2 t planS underB b l L.length (pairC L) i (cntP underB i L) L.length) rfl (bnd2 (hR false (by rw [hW, hb]; rfl)) (pl_ok L)) trivial (hz fun st hst => ⟨i + 1, hlt, by omega, hst⟩)
  · obtain rfl : i = 8 := by omega
    exact SWs.outL rcL_ok Sp.mixed [false] (rc_out t planS underB b l L.length (pairC L) 8) (bnd2 rfl (pl_ok L)) trivial (SWs.finvL rcL_ok Sp.mixed [] (rc_fin t planS underB b l L.length (pairC L) 8) rfl trivial rfl)
end Go.Proofs.Ytkpdkfeklecehaa.Ld
