/-
  What stays of a view: what may be stays what may be.
-/
import Derived.Test.YtabiknpgakhkkaaVwN
namespace Go.Proofs.Ytabiknpgakhkkaa.Vw
open Go.RowKit Go.Proofs.Ytabiknpgakhkkaa.Sx Go.Proofs.Ytabiknpgakhkkaa.Pw
set_option linter.unusedVariables false
set_option linter.unusedSimpArgs false

theorem leaves_of {t : Tr} : ∀ {n : Nat}, (∀ i, i < n → leafOk (t.sg i) (t.sl i) = true) → leaves t n = true
  | 0, _ => rfl
  | n + 1, h => by
    simp only [leaves, Bool.and_eq_true]
    exact ⟨leaves_of fun i hi => h i (by omega), h n (by omega)⟩
theorem nodes_of {t : Tr} : ∀ {n : Nat}, (∀ i, i < n → nodeOk i (t.nd i) = true) → nodes t n = true
  | 0, _ => rfl
  | n + 1, h => by
    simp only [nodes, Bool.and_eq_true]
    exact ⟨nodes_of fun i hi => h i (by omega), h n (by omega)⟩
theorem nodeOk_0 (i : Nat) : nodeOk i 0 = true := by unfold nodeOk isKeyS; simp
theorem isTS_put {t : Tr} (h : isTS t = true) (i : Nat) {s p : Int} (hl : leafOk s p = true) : isTS (putT t i s p) = true := by
  unfold isTS at h ⊢
  simp only [Bool.and_eq_true] at h ⊢
  refine ⟨leaves_of fun j hj => ?_, nodes_of fun j hj => ?_⟩
  · unfold putT
    by_cases hji : j = i
    · subst hji; simpa using hl
    · simp only [beq_off hji, cond_false]; exact leaves_le h.1 hj
  · unfold putT
    show nodeOk j (bif Nat.beq j (i / 2 * 4 + 1) || (Nat.beq j (i / 4 * 8 + 3) || Nat.beq j 7) then 0 else t.nd j) = true
    cases Nat.beq j (i / 2 * 4 + 1) || (Nat.beq j (i / 4 * 8 + 3) || Nat.beq j 7) with
    | true => exact nodeOk_0 j
    | false => exact nodes_le h.2 hj
theorem leafOk_00 : leafOk 0 0 = true := rfl
/-- What holds of a view while operations are done. -/
structure Ok (v : Vi) (ep : Int) (ch : Nat → UInt8) : Prop where
  t : isTS v.t = true
  inv : Inv v
  k : 1 ≤ v.k
  ep : v.ep = ep
  ch : v.ch = ch
theorem op_ok {c : Chg'} {o : Ope} {ep : Int} {ch : Nat → UInt8} (h : Ok c.v ep ch) (h0 : (opR c o).1 = 0) : Ok (opR c o).2.v ep ch ∧ (opR c o).2.fr = c.fr := by
  unfold opR at h0 ⊢
  cases h1 : o.kind == 1 with
  | true =>
    rw [h1] at h0
    simp only [cond_true] at h0 ⊢
    rcases add_both c o.sg o.sl with ⟨e, hne, hA, _⟩ | ⟨j, hj, hm, hs, hp, hA, _⟩
    · rw [hA] at h0; exact absurd h0 hne
    · rw [hA]
      exact ⟨⟨isTS_put h.t j (leafOk_yes hs hp), add_Inv h.inv hs, h.k, h.ep, h.ch⟩, rfl⟩
  | false =>
    have hO : opR c o = bif o.kind == 2 then remR c o.who else bif o.kind == 3 then admR c o.who true else bif o.kind == 4 then admR c o.who false else limR c o.k := by unfold opR; rw [h1]; rfl
    rw [h1] at h0
    simp only [cond_false] at h0 ⊢
    rw [← hO] at h0 ⊢
    rcases one_both c h.inv o h1 with ⟨e, hne, hA, _⟩ | ⟨j, hj, _, _, hA, _⟩ | ⟨v', _, hI, hA, hB⟩
    · rw [hA] at h0; exact absurd h0 hne
    · rw [hA]
      exact ⟨⟨isTS_put h.t j leafOk_00, rem_Inv h.inv, h.k, h.ep, h.ch⟩, rfl⟩
    · rw [hA]
      refine ⟨?_, rfl⟩
      rw [hO] at hA
      cases h2 : o.kind == 2 with
      | true =>
        rw [h2] at hA
        simp only [cond_true] at hA
        unfold remR at hA
        cases hm : memI c.v o.who with
        | false => rw [hm] at hA; simp at hA
        | true =>
          rw [hm] at hA
          cases hf : o.who == c.fr with
          | true => rw [hf] at hA; simp at hA
          | false =>
            rw [hf] at hA
            simp only [Bool.not_true, cond_false, Prod.mk.injEq, true_and] at hA
            have hv : v' = (remN c o.who.toNat).v := by rw [hA]
            subst hv
            exact ⟨isTS_put h.t _ leafOk_00, hI, h.k, h.ep, h.ch⟩
      | false =>
      rw [h2] at hA
      simp only [cond_false] at hA
      have adm : ∀ b, admR c o.who b = (0, { c with v := v' }) → Ok v' ep ch := fun b hA => by
        unfold admR at hA
        cases hm : memI c.v o.who with
        | false => rw [hm] at hA; simp at hA
        | true =>
          rw [hm] at hA
          cases hf : c.v.ad o.who.toNat == b with
          | true => rw [hf] at hA; simp at hA
          | false =>
            rw [hf] at hA
            simp only [Bool.not_true, cond_false, Prod.mk.injEq, true_and] at hA
            have hv : v' = (admN c o.who.toNat b).v := by rw [hA]
            subst hv
            exact ⟨h.t, hI, h.k, h.ep, h.ch⟩
      cases h3 : o.kind == 3 with
      | true => rw [h3] at hA; exact adm true hA
      | false =>
      rw [h3] at hA
      simp only [cond_false] at hA
      cases h4 : o.kind == 4 with
      | true => rw [h4] at hA; exact adm false hA
      | false =>
      rw [h4] at hA
      simp only [cond_false] at hA
      unfold limR at hA
      cases h5 : decide (o.k < 1) with
      | true => rw [h5] at hA; simp at hA
      | false =>
        rw [h5] at hA
        cases h6 : decide (o.k > 8) with
        | true => rw [h6] at hA; simp at hA
        | false =>
          rw [h6] at hA
          simp only [cond_false, Prod.mk.injEq, true_and] at hA
          have hv : v' = (limN c o.k).v := by rw [hA]
          subst hv
          rw [decide_eq_false_iff_not] at h5
          exact ⟨h.t, hI, by show 1 ≤ o.k; omega, h.ep, h.ch⟩
theorem run_ok : ∀ (l : List Ope) {c : Chg'} {ep : Int} {ch : Nat → UInt8}, Ok c.v ep ch → (runL l c).1 = 0 → Ok (runL l c).2.v ep ch
  | [], c, ep, ch, h, _ => h
  | o :: l, c, ep, ch, h, h0 => by
    unfold runL at h0 ⊢
    cases hE : (opR c o).1 == 0 with
    | true =>
      rw [hE] at h0
      simp only [cond_true] at h0 ⊢
      exact run_ok l (op_ok h (by simpa using hE)).1 h0
    | false =>
      rw [hE] at h0
      simp only [cond_false] at h0
      rw [h0] at hE; cases hE
theorem isVS_ok {v : Vi} (h : isVS v = true) : Ok v v.ep v.ch ∧ 0 ≤ v.ep ∧ v.ep ≤ 1099511627776 := by
  have hI := isVS_Inv h
  unfold isVS e0 e1' k1 at h
  simp only [Bool.and_eq_true, decide_eq_true_eq] at h
  exact ⟨⟨h.2.2.1, hI, h.2.2.2.1, rfl, rfl⟩, h.1, h.2.1⟩
theorem isVS_of_ok {v : Vi} {ep : Int} {ch : Nat → UInt8} (h : Ok v ep ch) (h0 : 0 ≤ ep) (h1 : ep ≤ 1099511627776) (hk : v.k ≤ admS v) : isVS v = true := by
  unfold isVS e0 e1' k1
  rw [h.ep, h.t, decide_eq_true h0, decide_eq_true h1, decide_eq_true h.k, decide_eq_true hk]; rfl
/-- What an answer is that is no error. -/
theorem applyQ_ok {v : Vi} {f : Int} {l : List Ope} (h : (applyQ v f l).e = 0) : isVS v = true ∧ (l.length : Int) ≤ 4 ∧ l.any (fun o => !opOk o) = false ∧ memI v f = true ∧ (runL l (startC v f)).1 = 0 ∧ admS (runL l (startC v f)).2.v ≥ (runL l (startC v f)).2.v.k ∧
    applyQ v f l = ⟨(runL l (startC v f)).2.v, (runL l (startC v f)).2.ad, (runL l (startC v f)).2.gn, 0⟩ := by
  have he := h
  unfold applyQ at h ⊢
  cases h1 : isVS v with
  | false => rw [h1] at h; simp [bad] at h
  | true =>
  rw [h1] at h
  cases h2 : decide ((l.length : Int) > 4) with
  | true => rw [h2] at h; simp [bad] at h
  | false =>
  rw [h2] at h
  cases h3 : l.any (fun o => !opOk o) with
  | true => rw [h3] at h; simp [bad] at h
  | false =>
  rw [h3] at h
  cases h4 : memI v f with
  | false => rw [h4] at h; simp [bad] at h
  | true =>
  rw [h4] at h
  simp only [Bool.not_true, cond_false] at h ⊢
  unfold endQ at h ⊢
  cases h5 : (runL l (startC v f)).1 == 0 with
  | false => rw [h5] at h; simp only [cond_false, bad] at h; rw [h] at h5; cases h5
  | true =>
  rw [h5] at h
  simp only [cond_true] at h ⊢
  cases h6 : decide (admS (runL l (startC v f)).2.v < (runL l (startC v f)).2.v.k) with
  | true => rw [h6] at h; simp [bad] at h
  | false =>
    rw [decide_eq_false_iff_not] at h2 h6
    exact ⟨trivial, by omega, trivial, trivial, by simpa using h5, by omega, rfl⟩
theorem applyQ_good {v : Vi} {f : Int} {l : List Ope} (h : (applyQ v f l).e = 0) : isVS (applyQ v f l).v = true ∧ (applyQ v f l).v.ep = v.ep ∧ (applyQ v f l).v.ch = v.ch := by
  obtain ⟨h1, _, _, _, h5, h6, h7⟩ := applyQ_ok h
  obtain ⟨g1, g2, g3⟩ := isVS_ok h1
  have := run_ok l (c := startC v f) g1 h5
  rw [h7]
  exact ⟨isVS_of_ok this g2 g3 h6, this.ep, this.ch⟩
theorem applyQ_bad {v : Vi} {f : Int} {l : List Ope} (h : (applyQ v f l).e ≠ 0) : (applyQ v f l).v = zeroV := by
  unfold applyQ at h ⊢
  cases h1 : isVS v with
  | false => rfl
  | true =>
  rw [h1] at h
  cases h2 : decide ((l.length : Int) > 4) with
  | true => rfl
  | false =>
  rw [h2] at h
  cases h3 : l.any (fun o => !opOk o) with
  | true => rfl
  | false =>
  rw [h3] at h
  cases h4 : memI v f with
  | false => rfl
  | true =>
  rw [h4] at h
  simp only [Bool.not_true, cond_false] at h ⊢
  unfold endQ at h ⊢
  cases h5 : (runL l (startC v f)).1 == 0 with
  | false => rfl
  | true =>
  rw [h5] at h
  simp only [cond_true] at h ⊢
  cases h6 : decide (admS (runL l (startC v f)).2.v < (runL l (startC v f)).2.v.k) with
  | true => rfl
  | false => rw [h6] at h; exact absurd rfl h

/-! The law of what stays. -/

end Go.Proofs.Ytabiknpgakhkkaa.Vw
