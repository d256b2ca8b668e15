/-
  The program's operations and the document's come to the same.
-/
import Derived.Test.YtabiknpgakhkkaaVwJ
namespace Go.Proofs.Ytabiknpgakhkkaa.Vw
open Go.RowKit Go.Proofs.Ytabiknpgakhkkaa.Sx Go.Proofs.Ytabiknpgakhkkaa.Pw
set_option linter.unusedVariables false
set_option linter.unusedSimpArgs false

theorem Vi.of_of (v : Vi) : (Vi.of v.cs).cs = v.cs := by kernel_rfl
theorem vsg_of (v : Vi) : ∀ i, i < 8 → (Vi.of v.cs).t.sg i = v.t.sg i := by refine all8 ?_ ?_ ?_ ?_ ?_ ?_ ?_ ?_ <;> kernel_rfl
theorem vsl_of (v : Vi) : ∀ i, i < 8 → (Vi.of v.cs).t.sl i = v.t.sl i := by refine all8 ?_ ?_ ?_ ?_ ?_ ?_ ?_ ?_ <;> kernel_rfl
theorem vad_of (v : Vi) : ∀ i, i < 8 → (Vi.of v.cs).ad i = v.ad i := by refine all8 ?_ ?_ ?_ ?_ ?_ ?_ ?_ ?_ <;> kernel_rfl
theorem mem_of (v : Vi) (i : Nat) (hi : i < 8) : memT (Vi.of v.cs).t i = memT v.t i := by
  unfold memT
  rw [vsg_of v i hi, vsl_of v i hi]
theorem raddR_of (v : Vi) (s p : Int) : (raddR (Vi.of v.cs) s p).1 = (raddR v s p).1 ∧ (raddR (Vi.of v.cs) s p).2.cs = (raddR v s p).2.cs := by
  have e1 : fstF (fun i => (Vi.of v.cs).t.sg i == s) 8 = fstF (fun i => v.t.sg i == s) 8 := fstF_congr fun j hj => by rw [vsg_of v j hj]
  have e2 : fstF (fun i => !memT (Vi.of v.cs).t i) 8 = fstF (fun i => !memT v.t i) 8 := fstF_congr fun j hj => by rw [mem_of v j hj]
  have e3 : ∀ i, i < 8 → (raddN (Vi.of v.cs) i s p).cs = (raddN v i s p).cs := by refine all8 ?_ ?_ ?_ ?_ ?_ ?_ ?_ ?_ <;> kernel_rfl
  unfold raddR
  rw [e1, e2]
  cases isS s with
  | false => exact ⟨rfl, Vi.of_of v⟩
  | true =>
    cases isS p with
    | false => exact ⟨rfl, Vi.of_of v⟩
    | true =>
      simp only [Bool.not_true, cond_false]
      split
      · exact ⟨rfl, Vi.of_of v⟩
      · split
        · exact ⟨rfl, Vi.of_of v⟩
        · rename_i i hi
          exact ⟨rfl, e3 i (fstF_some hi).1⟩
theorem roneR_of (v : Vi) (f : Int) (o : Ope) : (roneR (Vi.of v.cs) f o).1 = (roneR v f o).1 ∧ (roneR (Vi.of v.cs) f o).2.cs = (roneR v f o).2.cs := by
  obtain ⟨a, w, k, s, p⟩ := o
  have e2 : ∀ i, i < 8 → (roneN2 (Vi.of v.cs) i).cs = (roneN2 v i).cs := by refine all8 ?_ ?_ ?_ ?_ ?_ ?_ ?_ ?_ <;> kernel_rfl
  have e3 : ∀ b i, i < 8 → (roneN3 (Vi.of v.cs) i b).cs = (roneN3 v i b).cs := fun b => by refine all8 ?_ ?_ ?_ ?_ ?_ ?_ ?_ ?_ <;> kernel_rfl
  unfold roneR
  simp only
  cases a == 2 with
  | true =>
    simp only [cond_true]
    unfold rone2
    rw [memI_of]
    cases h : memI v w with
    | false => exact ⟨rfl, Vi.of_of v⟩
    | true =>
      obtain ⟨i, hi, rfl, _⟩ := memI_no h
      simp only [Int.toNat_natCast, Bool.not_true, cond_false]
      cases (i : Int) == f with
      | true => exact ⟨rfl, Vi.of_of v⟩
      | false => exact ⟨rfl, e2 i hi⟩
  | false =>
  cases a == 3 with
  | true =>
    simp only [cond_true, cond_false]
    unfold rone3
    rw [memI_of]
    cases h : memI v w with
    | false => exact ⟨rfl, Vi.of_of v⟩
    | true =>
      obtain ⟨i, hi, rfl, _⟩ := memI_no h
      simp only [Int.toNat_natCast, Bool.not_true, cond_false, vad_of v i hi]
      cases v.ad i with
      | true => exact ⟨rfl, Vi.of_of v⟩
      | false => exact ⟨rfl, e3 true i hi⟩
  | false =>
  cases a == 4 with
  | true =>
    simp only [cond_true, cond_false]
    unfold rone4
    cases h : decide (w < 0) with
    | true => exact ⟨rfl, Vi.of_of v⟩
    | false =>
    cases h' : decide (w ≥ 8) with
    | true => exact ⟨rfl, Vi.of_of v⟩
    | false =>
      rw [decide_eq_false_iff_not] at h h'
      obtain ⟨i, rfl⟩ : ∃ i : Nat, w = i := ⟨w.toNat, by omega⟩
      have hi : i < 8 := by omega
      simp only [Int.toNat_natCast, cond_false, vad_of v i hi]
      cases v.ad i with
      | true => exact ⟨rfl, e3 false i hi⟩
      | false => exact ⟨rfl, Vi.of_of v⟩
  | false =>
    simp only [cond_false]
    unfold rone5
    cases decide (k < 1) with
    | true => exact ⟨rfl, Vi.of_of v⟩
    | false =>
      cases decide (k > 8) with
      | true => exact ⟨rfl, Vi.of_of v⟩
      | false => exact ⟨rfl, by kernel_rfl⟩

/-! Admins are members. -/
theorem allMem_of {v : Vi} : ∀ {n : Nat}, (∀ i, i < n → v.ad i = true → memT v.t i = true) → allMem v n = true
  | 0, _ => rfl
  | n + 1, h => by
    simp only [allMem, Bool.and_eq_true]
    refine ⟨allMem_of fun i hi => h i (by omega), ?_⟩
    cases ha : v.ad n with
    | false => rfl
    | true => rw [h n (by omega) ha]; rfl
def Inv (v : Vi) : Prop := ∀ i, i < 8 → v.ad i = true → memT v.t i = true
theorem Inv_iff {v : Vi} : Inv v ↔ allMem v 8 = true := ⟨fun h => allMem_of h, fun h i hi ha => allMem_le h hi ha⟩
theorem isVS_Inv {v : Vi} (h : isVS v = true) : Inv v := by
  rw [Inv_iff]
  cases hh : allMem v 8 with
  | true => rfl
  | false => rw [isVS_no hh] at h; cases h
theorem admS_Inv {v : Vi} (h : Inv v) : admS v = cnt v 8 := by unfold admS; rw [Inv_iff.1 h]; rfl
theorem beq_off {j i : Nat} (h : j ≠ i) : Nat.beq j i = false := by
  cases hb : Nat.beq j i with
  | false => rfl
  | true => exact absurd (Nat.eq_of_beq_eq_true hb) h
theorem upd_at {α : Type} (f : Nat → α) (i : Nat) (x : α) : (fun j => bif Nat.beq j i then x else f j) i = x := by simp
theorem upd_off {α : Type} (f : Nat → α) {i j : Nat} (x : α) (h : j ≠ i) : (fun j => bif Nat.beq j i then x else f j) j = f j := by simp only [beq_off h, cond_false]
theorem memT_put {t : Tr} {i j : Nat} {s p : Int} (h : j ≠ i) : memT (putT t i s p) j = memT t j := by
  unfold memT putT
  simp only [beq_off h, cond_false]
theorem memT_put_same {t : Tr} {i : Nat} {s p : Int} : memT (putT t i s p) i = nz s p := by
  unfold memT putT
  simp
theorem isS_nz {s p : Int} (h : isS s = true) : nz s p = true := by unfold nz; rw [isS_ne h]; rfl
theorem ezs_nz (s p : Int) : ezs s p = !nz s p := by
  unfold ezs nz
  have e : ∀ x : Int, (0 == x) = (x == 0) := fun x => by
    rw [Bool.eq_iff_iff]; simp only [beq_iff_eq]; exact ⟨fun h => h.symm, fun h => h.symm⟩
  rw [e, e, Bool.not_not]
/-- A leaf that is added: both sides. -/
theorem add_both (c : Chg') (s p : Int) : (∃ e, e ≠ 0 ∧ addR c s p = (e, c) ∧ raddR c.v s p = ((0, e), c.v)) ∨
    ∃ j, j < 8 ∧ memT c.v.t j = false ∧ isS s = true ∧ isS p = true ∧ addR c s p = (0, addN c j s p) ∧ raddR c.v s p = (((j : Int), 0), raddN c.v j s p) := by
  have e2 : fstF (fun i => ezs (c.v.t.sg i) (c.v.t.sl i)) 8 = fstF (fun i => !memT c.v.t i) 8 := fstF_congr fun j hj => ezs_nz _ _
  unfold addR raddR
  rw [e2]
  cases h1 : isS s with
  | false => exact .inl ⟨7, by decide, rfl, rfl⟩
  | true =>
  cases h2 : isS p with
  | false => exact .inl ⟨7, by decide, rfl, rfl⟩
  | true =>
  simp only [Bool.not_true, cond_false]
  cases hA : fstF (fun i => c.v.t.sg i == s) 8 with
  | some i => exact .inl ⟨7, by decide, rfl, rfl⟩
  | none =>
    cases hi : fstF (fun i => !memT c.v.t i) 8 with
    | none => exact .inl ⟨12, by decide, rfl, rfl⟩
    | some i =>
      obtain ⟨g1, g2, _⟩ := fstF_some hi
      exact .inr ⟨i, g1, by simpa using g2, trivial, trivial, rfl, rfl⟩
theorem adds_cs {c : Chg'} (hI : Inv c.v) {j : Nat} (hj : j < 8) (hm : memT c.v.t j = false) (s p : Int) : (raddN c.v j s p).cs = (addN c j s p).v.cs := by
  have ha : c.v.ad j = false := by
    cases h : c.v.ad j with
    | false => rfl
    | true => rw [hI j hj h] at hm; cases hm
  have e : (fun k => bif Nat.beq k j then false else c.v.ad k) = c.v.ad := by
    funext k
    by_cases hk : k = j
    · subst hk; simp [ha]
    · simp only [beq_off hk, cond_false]
  unfold raddN addN
  rw [e]
theorem add_Inv {c : Chg'} (hI : Inv c.v) {j : Nat} {s p : Int} (hs : isS s = true) : Inv (addN c j s p).v := fun i hi ha => by
  by_cases hij : i = j
  · subst hij
    show memT (putT c.v.t i s p) i = true
    rw [memT_put_same]; exact isS_nz hs
  · show memT (putT c.v.t j s p) i = true
    rw [memT_put hij]; exact hI i hi ha
/-- Any other operation: both sides. -/
theorem one_both (c : Chg') (hI : Inv c.v) (o : Ope) (hk : (o.kind == 1) = false) : (∃ e, e ≠ 0 ∧ opR c o = (e, c) ∧ roneR c.v c.fr o = (e, c.v)) ∨
    (∃ j : Nat, j < 8 ∧ o.who = (j : Int) ∧ o.kind = 2 ∧ opR c o = (0, remN c j) ∧ roneR c.v c.fr o = (0, (remN c j).v)) ∨
    ∃ v', (o.kind == 2) = false ∧ Inv v' ∧ opR c o = (0, { c with v := v' }) ∧ roneR c.v c.fr o = (0, v') := by
  obtain ⟨a, w, k, s, p⟩ := o
  simp only at hk
  unfold opR roneR
  simp only [hk, cond_false]
  cases h2 : a == 2 with
  | true =>
    simp only [cond_true]
    unfold remR rone2
    cases h : memI c.v w with
    | false => exact .inl ⟨7, by decide, rfl, rfl⟩
    | true =>
      obtain ⟨i, hi, rfl, hm⟩ := memI_no h
      simp only [Int.toNat_natCast, Bool.not_true, cond_false]
      cases (i : Int) == c.fr with
      | true => exact .inl ⟨7, by decide, rfl, rfl⟩
      | false => exact .inr (.inl ⟨i, hi, rfl, by simpa using h2, rfl, rfl⟩)
  | false =>
  cases h3 : a == 3 with
  | true =>
    simp only [cond_true, cond_false]
    unfold admR rone3
    cases h : memI c.v w with
    | false => exact .inl ⟨7, by decide, rfl, rfl⟩
    | true =>
      obtain ⟨i, hi, rfl, hm⟩ := memI_no h
      simp only [Int.toNat_natCast, Bool.not_true, cond_false]
      cases ha : c.v.ad i with
      | true => exact .inl ⟨7, by decide, rfl, rfl⟩
      | false =>
        refine .inr (.inr ⟨roneN3 c.v i true, trivial, fun j hj hja => ?_, rfl, rfl⟩)
        by_cases hji : j = i
        · subst hji; exact hm
        · refine hI j hj ?_
          have : (roneN3 c.v i true).ad j = c.v.ad j := upd_off c.v.ad true hji
          rw [← this]; exact hja
  | false =>
  cases h4 : a == 4 with
  | true =>
    simp only [cond_true, cond_false]
    unfold admR rone4
    cases h : memI c.v w with
    | false =>
      refine .inl ⟨7, by decide, rfl, ?_⟩
      cases h5 : decide (w < 0) with
      | true => rfl
      | false =>
      cases h6 : decide (w ≥ 8) with
      | true => rfl
      | false =>
        rw [decide_eq_false_iff_not] at h5 h6
        obtain ⟨i, rfl⟩ : ∃ i : Nat, w = i := ⟨w.toNat, by omega⟩
        rw [memI_in (by omega)] at h
        have ha : c.v.ad i = false := by
          cases ha : c.v.ad i with
          | false => rfl
          | true => rw [hI i (by omega) ha] at h; cases h
        simp only [Int.toNat_natCast, ha]; rfl
    | true =>
      obtain ⟨i, hi, rfl, hm⟩ := memI_no h
      have h5 : decide ((i : Int) < 0) = false := decide_eq_false (by omega)
      have h6 : decide ((i : Int) ≥ 8) = false := decide_eq_false (by omega)
      simp only [Int.toNat_natCast, Bool.not_true, cond_false, h5, h6]
      cases ha : c.v.ad i with
      | false => exact .inl ⟨7, by decide, rfl, rfl⟩
      | true =>
        refine .inr (.inr ⟨roneN3 c.v i false, trivial, fun j hj hja => ?_, rfl, rfl⟩)
        by_cases hji : j = i
        · subst hji; exact hm
        · refine hI j hj ?_
          have : (roneN3 c.v i false).ad j = c.v.ad j := upd_off c.v.ad false hji
          rw [← this]; exact hja
  | false =>
    simp only [cond_false]
    unfold limR rone5
    cases decide (k < 1) with
    | true => exact .inl ⟨7, by decide, rfl, rfl⟩
    | false =>
      cases decide (k > 8) with
      | true => exact .inl ⟨7, by decide, rfl, rfl⟩
      | false => exact .inr (.inr ⟨{ c.v with k := k }, trivial, hI, rfl, rfl⟩)
theorem rem_Inv {c : Chg'} (hI : Inv c.v) {j : Nat} : Inv (remN c j).v := fun i hi ha => by
  by_cases hij : i = j
  · subst hij
    have : (remN c i).v.ad i = false := upd_at c.v.ad i false
    rw [this] at ha; cases ha
  · show memT (putT c.v.t j 0 0) i = true
    rw [memT_put hij]
    refine hI i hi ?_
    have : (remN c j).v.ad i = c.v.ad i := upd_off c.v.ad false hij
    rw [← this]; exact ha
theorem set_adC (a : Nat → Bool) (b : Bool) : ∀ i : Nat, i < 8 → setRange (adC a) (kB (i : Int)) [.bool b] = adC (fun j => bif Nat.beq j i then b else a j) := by refine all8 ?_ ?_ ?_ ?_ ?_ ?_ ?_ ?_ <;> kernel_rfl
theorem kAt_adC (a : Nat → Bool) : ∀ i : Nat, i < 8 → kAt (adC a) (i : Int) = a i := by refine all8 ?_ ?_ ?_ ?_ ?_ ?_ ?_ ?_ <;> kernel_rfl
theorem kLd_adC (a : Nat → Bool) : ∀ i : Nat, i < 8 → kLd (adC a) (i : Int) = true := by refine all8 ?_ ?_ ?_ ?_ ?_ ?_ ?_ ?_ <;> kernel_rfl
theorem kOk_nat : ∀ i : Nat, i < 8 → kOk (i : Int) = true := by refine all8 ?_ ?_ ?_ ?_ ?_ ?_ ?_ ?_ <;> kernel_rfl
theorem w8_nat : ∀ i : Nat, i < 8 → w8 (i : Int) = true := by refine all8 ?_ ?_ ?_ ?_ ?_ ?_ ?_ ?_ <;> kernel_rfl

end Go.Proofs.Ytabiknpgakhkkaa.Vw
