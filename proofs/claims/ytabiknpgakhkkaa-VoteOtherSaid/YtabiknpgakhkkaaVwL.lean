/-
  The document's Apply answers as the program's.
-/
import Derived.Test.YtabiknpgakhkkaaVwK
namespace Go.Proofs.Ytabiknpgakhkkaa.Vw
open Go.RowKit Go.Proofs.Ytabiknpgakhkkaa.Sx Go.Proofs.Ytabiknpgakhkkaa.Pw
set_option linter.unusedVariables false
set_option linter.unusedSimpArgs false
set_option maxRecDepth 4000

theorem lb_congr {r : RB} {v v' : Vi} {f : Int} {a g : List SC} {i : Int} (h : v.cs = v'.cs) : lb r v f a g i = lb r v' f a g i := by
  unfold lb rTab
  rw [h]
theorem bnds {a b : Bool} (ha : a = true) (hb : b = true) : bnd a b = true := bnd_eq ha hb
theorem ixB_eq {n i : Nat} (h : i < n) : ixB n i = true := by
  unfold ixB
  rw [decide_eq_true (by omega), Int.toNat_natCast]
  simp [Nat.blt_eq, h]
theorem lk_eq {r : RB} (ho : okOps r = true) {i : Nat} (hi : i < r.n) {k : Nat} (hk : k < 5) : lk r (r.off + i * 5 + k) = true := by
  have hl : r.off + r.n * 5 ≤ r.b.cells.length := by
    unfold okOps at ho
    simp only [Bool.and_eq_true, Nat.ble_eq] at ho
    exact ho.1
  unfold lk
  rw [Bool.and_eq_true, Nat.blt_eq]
  exact ⟨by omega, by rw [Nat.add_assoc]; exact isI_of ho (by omega)⟩
theorem lI_eq {r : RB} (ho : okOps r = true) {i : Nat} (hi : i < r.n) {k : Nat} (hk : k < 5) : isI r.b.cells (r.off + i * 5 + k) = true := by rw [Nat.add_assoc]; exact isI_of ho (by omega)
theorem l2_eq {r : RB} (ho : okOps r = true) {i : Nat} (hi : i < r.n) : l2 r (r.off + i * 5 + 3) = true := by
  have hl : r.off + r.n * 5 ≤ r.b.cells.length := by
    unfold okOps at ho
    simp only [Bool.and_eq_true, Nat.ble_eq] at ho
    exact ho.1
  unfold l2
  rw [lI_eq ho hi (by omega : 3 < 5), show r.off + i * 5 + 3 + 1 = r.off + i * 5 + 4 by omega, lI_eq ho hi (by omega : 4 < 5)]
  simp only [Bool.and_true, Nat.ble_eq]; omega
theorem l5_eq {r : RB} (ho : okOps r = true) {i : Nat} (hi : i < r.n) : l5 r i = true := by
  have h := ldO_eq ho hi true
  unfold ldO at h
  unfold l5
  simp only [bnd_true, true_and] at h
  exact h.2
theorem c3_eq {r : RB} (ho : okOps r = true) {i : Nat} (hi : i < r.n) : c3 r i = true :=
  bnds (bnds (ty_eq rfl (decide_eq_true (by omega))) (ixB_eq hi)) (lk_eq ho hi (k := 0) (by omega))
theorem adC_plain (a : Nat → Bool) : (adC a).all SC.plain = true := rfl
theorem setR_plain (a : Nat → Bool) (b : Bool) {i : Nat} (hi : i < 8) : (setRange (adC a) (kB (i : Int)) [.bool b]).all SC.plain = true := by rw [set_adC a b i hi]; rfl

theorem rapply_fn (v : Vi) (f : Int) (r : RB) (hr : RBok r) (ho : okOps r = true) (hn6 : r.n ≤ 1000000) (w : World) : Sx.Fn Try.prog frApp (atW w 0) [.agg v.cs, .c (.int f), .c (.slc 0 r.off 5 r.n none)] [(0, some r.b)] 1 fun x _ => x = applyR v f (opsL r) := by
  have hlen : (opsL r).length = r.n := by unfold opsL; simp
  obtain ⟨off, n, cells, ty, tail, own⟩ := r
  obtain ⟨hown, htail, hsole⟩ := hr
  simp only at hown htail hn6
  subst hown htail
  have hr : RBok (rbO off n cells ty) := ⟨rfl, rfl, hsole⟩
  have ho : okOps (rbO off n cells ty) = true := ho
  have hlen : (opsL (rbO off n cells ty)).length = n := hlen
  have hpl := pl_eq hr
  have hplc : cells.all SC.plain = true := sole_plain hsole
  show Sx.Fn Try.prog frApp (atW w 0) [.agg v.cs, .c (.int f), .c (.slc 0 off 5 n none)] [(0, some ⟨cells, ty, true, false⟩)] 1 fun x _ => x = applyR v f (opsL (rbO off n cells ty))
  have hany := any_odd (rbO off n cells ty)
  refine Sx.Fn.of (nt := 126) (by kernel_rfl) rfl ?_
  have main : ∀ b : Bool, b = (isVS v && le4 n) → SWs Try.prog (atW w 0) ((bodyOf Try.prog frApp).drop 4) (la (rbO off n cells ty) v f b 0) (FinQ Try.prog frApp fun x _ => x = applyR v f (opsL (rbO off n cells ty))) := by
    intro b hb
    refine SWs.loop (by kernel_rfl) (fun q : Bool × Nat => la (rbO off n cells ty) v f q.1 q.2) (fun q => n - q.2) (fun q => q.2 ≤ n ∧ q.1 = (b && (fstF (oddF (rbO off n cells ty)) q.2).isNone)) (b, 0) ⟨by omega, by simp [fstF]⟩ ?_
    rintro ⟨b', i⟩ ⟨hi, hb'⟩
    simp only at hi hb'
    -- behind the loop
    have after : b' = (b && (fstF (oddF (rbO off n cells ty)) n).isNone) → SWs Try.prog (atW w 0) ((bodyOf Try.prog frApp).drop 5) (la (rbO off n cells ty) v f b' i) (FinQ Try.prog frApp fun x _ => x = applyR v f (opsL (rbO off n cells ty))) := by
      intro hfin
      unfold applyR
      rw [hlen, hany]
      have hdec : decide (idxO (rbO off n cells ty) ≥ 0) = !(fstF (oddF (rbO off n cells ty)) n).isNone := by
        unfold idxO idxV
        show decide ((match fstF (oddF (rbO off n cells ty)) n with | some i => (i : Int) | none => -1) ≥ 0) = _
        cases fstF (oddF (rbO off n cells ty)) n with
        | none => rfl
        | some j => exact decide_eq_true (by simp only; omega)
      have hle : decide ((n : Int) > 4) = !le4 n := by
        unfold le4
        by_cases h : (n : Int) > 4
        · rw [decide_eq_true h, decide_eq_false (by omega)]; rfl
        · rw [decide_eq_false h, decide_eq_true (by omega)]; rfl
      rw [hdec, hle]
      cases hbb : b' with
      | false =>
        have h0 : (b && (fstF (oddF (rbO off n cells ty)) n).isNone) = false := by rw [← hfin, hbb]
        refine SWs.finvL rapL_ok Sp.mixed [true] (ra_bad off n cells ty v f false i) rfl obs3_ok ?_
        rw [hb] at h0
        cases h1 : isVS v with
        | false => rfl
        | true =>
          cases h2 : le4 n with
          | false => rfl
          | true =>
            rw [h1, h2] at h0
            simp only [Bool.and_self, Bool.true_and] at h0
            rw [h0]; rfl
      | true =>
        have h0 : (b && (fstF (oddF (rbO off n cells ty)) n).isNone) = true := by rw [← hfin, hbb]
        rw [hb] at h0
        simp only [Bool.and_eq_true] at h0
        obtain ⟨⟨h1, h2⟩, h3⟩ := h0
        rw [h1, h2, h3]
        simp only [Bool.not_true, cond_false]
        cases h4 : memI v f with
        | false => exact SWs.finvL rapL_ok Sp.mixed [false, true] (ra_who off n cells ty v f true i) (ty_eq (tn_eq rfl rfl) (by rw [memI_of, h4]; rfl)) obs3_ok rfl
        | true =>
        simp only [Bool.not_true, cond_false]
        refine SWs.stepL rapL_ok Sp.mixed [false, false] (ra_go off n cells ty v f true i) (bnds (tn_eq (tn_eq rfl rfl) (by rw [memI_of, h4]; rfl)) hpl) trivial ?_
        refine SWs.loop (by kernel_rfl) (fun q : Chg' × Nat => lb (rbO off n cells ty) q.1.v f (adC q.1.ad) (adC q.1.gn) q.2) (fun q => n - q.2) (fun q => q.2 ≤ n ∧ Inv q.1.v ∧ q.1.fr = f ∧ runL ((opsL (rbO off n cells ty)).drop q.2) q.1 = runL (opsL (rbO off n cells ty)) (startC v f)) (startC v f, 0) ⟨by omega, isVS_Inv h1, rfl, rfl⟩ ?_
        rintro ⟨c, m⟩ ⟨hm, hI, hfr, hrun⟩
        simp only at hm hI hfr hrun
        by_cases hlt : m < n
        · have hixs := ixB_eq hlt
          have hc3 := c3_eq ho hlt
          have wr : IntKind.i64.wrap ((m : Int) + 1) = ((m + 1 : Nat) : Int) := by rw [wrapN (by omega) (by omega)]; rfl
          rw [opsL_drop _ m hlt] at hrun
          have hrunE : ∀ e, e ≠ 0 → opR c (opAt (rbO off n cells ty) m) = (e, c) → resT zeroV no8 no8 e = endR (runL (opsL (rbO off n cells ty)) (startC v f)) := fun e he h => by
            rw [← hrun]
            have hb0 : (e == 0) = false := by simpa using he
            have : runL (opAt (rbO off n cells ty) m :: (opsL (rbO off n cells ty)).drop (m + 1)) c = (e, c) := by
              show (bif (opR c (opAt (rbO off n cells ty) m)).1 == 0 then _ else _) = _
              rw [h]
              simp only [hb0, cond_false]
            rw [this]
            unfold endR
            simp only [hb0, cond_false]
          have hrunK : ∀ c', opR c (opAt (rbO off n cells ty) m) = (0, c') → runL ((opsL (rbO off n cells ty)).drop (m + 1)) c' = runL (opsL (rbO off n cells ty)) (startC v f) := fun c' h => by
            rw [← hrun]
            show _ = (bif (opR c (opAt (rbO off n cells ty) m)).1 == 0 then _ else _)
            rw [h]; rfl
          cases hk : (opAt (rbO off n cells ty) m).kind == 1 with
          | true =>
            have hop : opR c (opAt (rbO off n cells ty) m) = addR c (opAt (rbO off n cells ty) m).sg (opAt (rbO off n cells ty) m).sl := by unfold opR; rw [hk]; rfl
            have hQ := raddR_of c.v (opAt (rbO off n cells ty) m).sg (opAt (rbO off n cells ty) m).sl
            have hl2 := l2_eq ho (r := rbO off n cells ty) hlt
            have hC1 : ∀ (j : Nat), j < 8 → (addQ c.v (opAt (rbO off n cells ty) m)).1.1 = (j : Int) → addC1 (rbO off n cells ty) c.v c.ad m (c.ad j) = true := fun j hj he => by
              unfold addC1
              rw [he]
              exact bnds (bnds (tg_eq (bnds (bnds (bnds (bnds (ty_eq hc3 hk) hixs) hl2) (kOk_nat j hj)) (kLd_adC c.ad j hj)) (kAt_adC c.ad j hj)) (kOk_nat j hj)) (w8_nat j hj)
            rcases add_both c (opAt (rbO off n cells ty) m).sg (opAt (rbO off n cells ty) m).sl with ⟨e, hne, hA, hB⟩ | ⟨j, hj, hmj, hs, hp, hA, hB⟩
            · have h1e : (addQ c.v (opAt (rbO off n cells ty) m)).1 = (0, e) := by show (raddR (Vi.of c.v.cs) _ _).1 = _; rw [hQ.1, hB]
              have he1 : (addQ c.v (opAt (rbO off n cells ty) m)).1.1 = ((0 : Nat) : Int) := by rw [h1e]; rfl
              have he2 : (addQ c.v (opAt (rbO off n cells ty) m)).1.2 = e := by rw [h1e]
              refine SWs.retR rapL_ok Sp.mixed [true, true, c.ad 0, true] (rp_add_no off n cells ty c.v f c.ad c.gn m (c.ad 0)) (ty_eq (hC1 0 (by omega) he1) (by rw [he2]; unfold bne; simpa using hne)) obs3_ok fun _ => ?_
              rw [he2]
              exact hrunE e hne (hop.trans hA)
            · have h1e : (addQ c.v (opAt (rbO off n cells ty) m)).1 = ((j : Int), 0) := by show (raddR (Vi.of c.v.cs) _ _).1 = _; rw [hQ.1, hB]
              have he1 : (addQ c.v (opAt (rbO off n cells ty) m)).1.1 = (j : Int) := by rw [h1e]
              have he2 : (addQ c.v (opAt (rbO off n cells ty) m)).1.2 = 0 := by rw [h1e]
              have hX : true = bif c.ad j then true else (addQ c.v (opAt (rbO off n cells ty) m)).1.2 == 0 := by rw [he2]; cases c.ad j <;> rfl
              refine SWs.roundL rapL_ok Sp.mixed [true, true, c.ad j, false] (rp_add off n cells ty c.v f c.ad c.gn m (c.ad j) true hX) rfl (bnds (tn_eq (hC1 j hj he1) (by rw [he2]; rfl)) ?_) trivial
                ⟨(addN c j (opAt (rbO off n cells ty) m).sg (opAt (rbO off n cells ty) m).sl, m + 1), ⟨by simp only; omega, add_Inv hI hs, hfr, hrunK _ (hop.trans hA)⟩, by simp only; omega, ?_⟩
              · unfold pl2
                rw [he1, setR_plain c.ad true hj]
                show (cells.all SC.plain && _) = true
                rw [hplc]; rfl
              · simp only
                rw [he1, set_adC c.ad true j hj, wr]
                refine lb_congr ?_
                have : (addQ c.v (opAt (rbO off n cells ty) m)).2.cs = (raddN c.v j (opAt (rbO off n cells ty) m).sg (opAt (rbO off n cells ty) m).sl).cs := by
                  show (raddR (Vi.of c.v.cs) _ _).2.cs = _
                  rw [hQ.2, hB]
                rw [this]
                exact adds_cs hI hj hmj _ _
          | false =>
            have hQ := roneR_of c.v f (opAt (rbO off n cells ty) m)
            rcases one_both c hI (opAt (rbO off n cells ty) m) hk with ⟨e, hne, hA, hB⟩ | ⟨j, hj, hwho, hk2, hA, hB⟩ | ⟨v', hk2, hI', hA, hB⟩
            · rw [hfr] at hB
              have he : (oneQ c.v f (opAt (rbO off n cells ty) m)).1 = e := by show (roneR (Vi.of c.v.cs) f _).1 = _; rw [hQ.1, hB]
              refine SWs.retR rapL_ok Sp.mixed [true, false, false, false, true] (rp_one_no off n cells ty c.v f c.ad c.gn m) (ty_eq (tg_eq (bnds (bnds (tn_eq hc3 hk) hixs) (l5_eq ho hlt)) (by rw [he]; simpa using hne)) (by rw [he]; unfold bne; simpa using hne)) obs3_ok fun _ => ?_
              rw [he]
              exact hrunE e hne hA
            · rw [hfr] at hB
              have he : (oneQ c.v f (opAt (rbO off n cells ty) m)).1 = 0 := by show (roneR (Vi.of c.v.cs) f _).1 = _; rw [hQ.1, hB]
              have hC2 : oneC2 (rbO off n cells ty) c.v f m = true := bnds (bnds (tg_eq (bnds (bnds (tn_eq hc3 hk) hixs) (l5_eq ho hlt)) (by rw [he]; rfl)) hixs) (lk_eq ho hlt (k := 0) (by omega))
              have hlk := lk_eq ho (r := rbO off n cells ty) hlt (k := 1) (by omega)
              have hC3 : oneC3 (rbO off n cells ty) c.v f m = true := by
                unfold oneC3
                rw [hwho]
                exact bnds (bnds (bnds (bnds (bnds (bnds (bnds (bnds (bnds (ty_eq hC2 (by rw [hk2]; rfl)) hixs) hlk) hixs) hlk) (kOk_nat j hj)) (w8_nat j hj)) (kOk_nat j hj)) (w8_nat j hj)) hlk
              refine SWs.roundL rapL_ok Sp.mixed [true, false, true, true, false] (rp_rem off n cells ty c.v f c.ad c.gn m) rfl (bnds (tn_eq hC3 (by rw [he]; rfl)) ?_) ⟨rfl, trivial⟩ ⟨(remN c j, m + 1), ⟨by simp only; omega, rem_Inv hI, hfr, hrunK _ hA⟩, by simp only; omega, ?_⟩
              · unfold pl3
                rw [hwho, setR_plain c.ad false hj, setR_plain c.gn true hj]
                show (cells.all SC.plain && _) = true
                rw [hplc]; rfl
              · simp only
                rw [hwho, set_adC c.ad false j hj, set_adC c.gn true j hj, wr]
                refine lb_congr ?_
                show (roneR (Vi.of c.v.cs) f _).2.cs = _
                rw [hQ.2, hB]
            · rw [hfr] at hB
              have he : (oneQ c.v f (opAt (rbO off n cells ty) m)).1 = 0 := by show (roneR (Vi.of c.v.cs) f _).1 = _; rw [hQ.1, hB]
              have hC2 : oneC2 (rbO off n cells ty) c.v f m = true := bnds (bnds (tg_eq (bnds (bnds (tn_eq hc3 hk) hixs) (l5_eq ho hlt)) (by rw [he]; rfl)) hixs) (lk_eq ho hlt (k := 0) (by omega))
              refine SWs.roundL rapL_ok Sp.mixed [true, false, true, false, false] (rp_one off n cells ty c.v f c.ad c.gn m) rfl (bnds (tn_eq (tn_eq hC2 hk2) (by rw [he]; rfl)) hpl) trivial ⟨({ c with v := v' }, m + 1), ⟨by simp only; omega, hI', hfr, hrunK _ hA⟩, by simp only; omega, ?_⟩
              simp only
              rw [wr]
              refine lb_congr ?_
              show (roneR (Vi.of c.v.cs) f _).2.cs = _
              rw [hQ.2, hB]
        · obtain rfl : m = n := by omega
          have hnil : (opsL (rbO off m cells ty)).drop m = [] := List.drop_eq_nil_of_le (by rw [hlen]; omega)
          rw [hnil] at hrun
          have hrun : ((0 : Int), c) = runL (opsL (rbO off m cells ty)) (startC v f) := hrun
          refine SWs.outL rapL_ok Sp.mixed [false] (rp_out off m cells ty c.v f c.ad c.gn) (bnds (tn_eq rfl (decide_eq_false (by omega))) hpl) trivial ?_
          have hlt' : cntLt c.v = decide (admS c.v < c.v.k) := by
            unfold cntLt
            rw [admS_Inv hI]
            have : cnt (Vi.of c.v.cs) 8 = cnt c.v 8 := by kernel_rfl
            rw [this]
          rw [← hrun]
          unfold endR
          simp only [BEq.rfl, cond_true]
          cases hkk : decide (admS c.v < c.v.k) with
          | true => exact SWs.finvL rapL_ok Sp.mixed [true] (rp_end1 off m cells ty c.v f c.ad c.gn) (ty_eq rfl (by rw [hlt', hkk])) obs3_ok rfl
          | false => exact SWs.finvL rapL_ok Sp.mixed [false] (rp_end2 off m cells ty c.v f c.ad c.gn) (tn_eq rfl (by rw [hlt', hkk])) ⟨rfl, rfl, rfl, trivial⟩ rfl
    by_cases hlt : i < n
    · cases hbb : b' with
      | true =>
        refine SWs.roundL rapL_ok Sp.mixed [true, true] (la_round off n cells ty v f true i) rfl (bnds (by rw [ldO_eq ho hlt]; exact ty_eq (tg_eq rfl (decide_eq_true (by omega))) rfl) hpl) trivial ⟨(opOk (opAt (rbO off n cells ty) i), i + 1), ⟨by simp only; omega, ?_⟩, by simp only; omega, ?_⟩
        · simp only
          rw [hbb] at hb'
          have h2 := hb'.symm
          simp only [Bool.and_eq_true] at h2
          rw [h2.1]
          unfold fstF
          have h3 : fstF (oddF (rbO off n cells ty)) i = none := by simpa using h2.2
          rw [h3]
          show _ = (true && (bif !opOk (opAt (rbO off n cells ty) i) then some i else none).isNone)
          cases opOk (opAt (rbO off n cells ty) i) <;> rfl
        · simp only
          rw [wrapN (show (0 : Int) ≤ (i : Int) + 1 by omega) (by omega)]; rfl
      | false =>
        refine SWs.outL rapL_ok Sp.mixed [true, false] (la_out1 off n cells ty v f false i) (bnds (tn_eq (tg_eq rfl (decide_eq_true (by omega))) rfl) hpl) trivial ?_
        rw [← hbb]
        refine after ?_
        rw [hb'] at hbb ⊢
        cases hb1 : b with
        | false => rfl
        | true =>
          rw [hb1] at hbb
          simp only [Bool.true_and] at hbb ⊢
          rw [hbb]
          have hsome : ∃ k, fstF (oddF (rbO off n cells ty)) i = some k := by
            cases h : fstF (oddF (rbO off n cells ty)) i with
            | none => rw [h] at hbb; cases hbb
            | some k => exact ⟨k, rfl⟩
          obtain ⟨k, hkk⟩ := hsome
          obtain ⟨g1, g2, _⟩ := fstF_some hkk
          cases h : fstF (oddF (rbO off n cells ty)) n with
          | none => rw [fstF_none h k (by omega)] at g2; cases g2
          | some _ => rfl
    · obtain rfl : i = n := by omega
      refine SWs.outL rapL_ok Sp.mixed [false, false] (la_out2 off i cells ty v f b' i) (bnds (tg_eq rfl (decide_eq_false (by omega))) hpl) trivial ?_
      exact after hb'
  cases h1 : isVS v with
  | false => exact SWs.stepL rapL_ok Sp.mixed [false] (ra_s1 off n cells ty v f) (bnds (tg_eq rfl (by rw [isVS_of, h1])) hpl) trivial (main false (by rw [h1]; rfl))
  | true => exact SWs.stepL rapL_ok Sp.mixed [true] (ra_s2 off n cells ty v f) (bnds (tg_eq rfl (by rw [isVS_of, h1])) hpl) trivial (main (le4 n) (by rw [h1]; rfl))
def rappC : Con := sVal [none, none, some 5] fun ps rs => match ps, rs with | [.agg cs, .c (.int f)], [r] => some (isVi cs && (okOps r && Nat.ble r.n 1000000), applyR (Vi.of cs) f (opsL r)) | _, _ => none
theorem rapp_ok : ConOK Try.prog frApp rappC := by
  refine sVal_ok (fn := Try.f16) (by kernel_rfl) rfl rfl fun ps rs v h hps hrs => ?_
  split at h <;> try (cases h; done)
  rename_i cs f r
  simp only [Option.some.injEq, Prod.mk.injEq, Bool.and_eq_true, Nat.ble_eq] at h
  obtain ⟨⟨hv, ho, hn⟩, rfl⟩ := h
  refine ⟨applyR_sole _ _ _, fun w => ?_⟩
  have e := Vi.of_cs hv
  generalize Vi.of cs = t at e
  subst e
  exact rapply_fn t f r (hrs r (by simp)) ho hn w

end Go.Proofs.Ytabiknpgakhkkaa.Vw
