/-
  Who is under a node of the plan, and where: in plain words.
-/
import Derived.Test.YtkpdkfeklecehaaLdO
namespace Go.Proofs.Ytkpdkfeklecehaa.Ld
open Go.RowKit Go.Proofs.Ytkpdkfeklecehaa.Sx Go.Proofs.Ytkpdkfeklecehaa.Pw Go.Proofs.Ytkpdkfeklecehaa.Vw
set_option linter.unusedVariables false
set_option linter.unusedSimpArgs false
set_option maxRecDepth 10000

/-- How many nodes of a row a leaf is under. -/
def cntN (i : Nat) : List Nat → Nat
  | [] => 0
  | x :: l => (bif underB x i then 1 else 0) + cntN i l
theorem cntN_app (i : Nat) : ∀ l m, cntN i (l ++ m) = cntN i l + cntN i m
  | [], m => by simp [cntN]
  | x :: l, m => by simp only [List.cons_append, cntN, cntN_app i l m]; omega
/-- The levels' nodes. -/
def lvlOk (d n : Nat) : Bool := Nat.blt n 15 && Nat.beq (lvl n) d
def oneU (n i : Nat) : Nat := bif underB n i then 1 else 0
def splitOk (d n i : Nat) : Bool := !Nat.beq (lvl n) (d + 1) || (Nat.beq (oneU (n - 2 ^ d) i + oneU (n + 2 ^ d) i) (oneU n i) && (Nat.beq (lvl (n - 2 ^ d)) d && (Nat.beq (lvl (n + 2 ^ d)) d && (Nat.blt (n + 2 ^ d) 15 && ((!underB (n - 2 ^ d) i || underB n i) && (!underB (n + 2 ^ d) i || underB n i))))))
theorem split_ok : ∀ d, d < 2 → ∀ n, n < 15 → ∀ i, i < 8 → splitOk d n i = true := by decide
theorem two_split (d : Nat) (hd : d < 2) (n : Nat) (hn : n < 15) (hl : lvl n = d + 1) (i : Nat) (hi : i < 8) : (oneU (n - 2 ^ d) i + oneU (n + 2 ^ d) i = oneU n i ∧ lvl (n - 2 ^ d) = d ∧ lvl (n + 2 ^ d) = d ∧ n + 2 ^ d < 15 ∧ n - 2 ^ d < 15) ∧ (underB (n - 2 ^ d) i = true → underB n i = true) ∧ (underB (n + 2 ^ d) i = true → underB n i = true) := by
  have h := split_ok d hd n hn i hi
  unfold splitOk at h
  rw [hl, show Nat.beq (d + 1) (d + 1) = true by simp] at h
  simp only [Bool.not_true, Bool.false_or, Bool.and_eq_true, Nat.blt_eq, Bool.or_eq_true, Bool.not_eq_true'] at h
  obtain ⟨h1, h2, h3, h4, h5, h6⟩ := h
  generalize 2 ^ d = m at *
  refine ⟨⟨Nat.eq_of_beq_eq_true h1, Nat.eq_of_beq_eq_true h2, Nat.eq_of_beq_eq_true h3, h4, by omega⟩, fun g => ?_, fun g => ?_⟩
  · rcases h5 with h5 | h5; (rw [h5] at g; cases g); exact h5
  · rcases h6 with h6 | h6; (rw [h6] at g; cases g); exact h6
theorem under_leaf : ∀ n, n < 15 → lvl n = 0 → ∀ i, i < 8 → underB n i = true → n = 2 * i := by decide
theorem cnt_res (t : Tr) {i : Nat} (hi : i < 8) (hs : (t.sl i != 0) = true) : ∀ d, d ≤ 2 → ∀ n, n < 15 → lvl n = d → cntN i (resS t d n) = oneU n i
  | 0, _, n, hn, hl => by
    unfold resS
    cases hk : keyN t n != 0 with
    | true => show oneU n i + 0 = _; omega
    | false =>
      show 0 = oneU n i
      unfold oneU
      cases hu : underB n i with
      | false => rfl
      | true =>
        have := under_leaf n hn hl i hi hu
        subst this
        have he : keyN t (2 * i) = t.sl i := by
          unfold keyN
          rw [show Nat.beq (2 * i % 2) 0 = true by rw [Nat.mul_mod_right]; rfl, cond_true, Nat.mul_div_cancel_left i (by decide)]
        rw [he, hs] at hk
        cases hk
  | d + 1, hd, n, hn, hl => by
    obtain ⟨⟨h1, h2, h3, h4, h5⟩, _⟩ := two_split d (by omega) n hn hl i hi
    unfold resS
    cases hk : keyN t n != 0 with
    | true => show oneU n i + 0 = _; omega
    | false =>
      rw [cond_false, cntN_app, cnt_res t hi hs d (by omega) _ h5 h2, cnt_res t hi hs d (by omega) _ h4 h3, h1]
theorem res_under (t : Tr) {i : Nat} (hi : i < 8) : ∀ d, d ≤ 2 → ∀ n, n < 15 → lvl n = d → ∀ x ∈ resS t d n, x < 15 ∧ (underB x i = true → underB n i = true)
  | 0, _, n, hn, hl, x, hx => by
    unfold resS at hx
    cases hk : keyN t n != 0 with
    | true => rw [hk, cond_true, List.mem_singleton] at hx; subst hx; exact ⟨hn, id⟩
    | false => rw [hk] at hx; cases hx
  | d + 1, hd, n, hn, hl, x, hx => by
    obtain ⟨⟨_, h2, h3, h4, h5⟩, g1, g2⟩ := two_split d (by omega) n hn hl i hi
    unfold resS at hx
    cases hk : keyN t n != 0 with
    | true => rw [hk, cond_true, List.mem_singleton] at hx; subst hx; exact ⟨hn, id⟩
    | false =>
      rw [hk, cond_false, List.mem_append] at hx
      rcases hx with hx | hx
      · obtain ⟨f1, f2⟩ := res_under t hi d (by omega) _ h5 h2 x hx
        exact ⟨f1, fun h => g1 (f2 h)⟩
      · obtain ⟨f1, f2⟩ := res_under t hi d (by omega) _ h4 h3 x hx
        exact ⟨f1, fun h => g2 (f2 h)⟩
/-- How many nodes of a plan a leaf is under. -/
def cntP (F : Nat → Nat → Bool) (i : Nat) : List (Nat × Nat) → Nat
  | [] => 0
  | x :: l => (bif F x.2 i then 1 else 0) + cntP F i l
theorem cntP_app (F : Nat → Nat → Bool) (i : Nat) : ∀ l m, cntP F i (l ++ m) = cntP F i l + cntP F i m
  | [], m => by simp [cntP]
  | x :: l, m => by simp only [List.cons_append, cntP, cntP_app F i l m]; omega
theorem sel_under (b : Nat → Bool) {x i : Nat} (hx : x < 15) (hi : i < 8) (h : underB x i = true) (hb : b i = false) : selP b x = true := by
  unfold selP
  cases he : Nat.beq (x % 2) 0 with
  | false => rfl
  | true =>
    have : ∀ x, x < 15 → ∀ i, i < 8 → Nat.beq (x % 2) 0 = true → underB x i = true → x / 2 = i := by decide
    rw [this x hx i hi he h, hb]; rfl
theorem cntP_planP (b : Nat → Bool) (p : Nat) {i : Nat} (hi : i < 8) : ∀ L : List Nat, (∀ x ∈ L, x < 15) → cntP underB i (planP b p L) ≤ cntN i L ∧ (b i = false → cntP underB i (planP b p L) = cntN i L)
  | [], _ => ⟨Nat.le_refl _, fun _ => rfl⟩
  | x :: L, hL => by
    obtain ⟨h1, h2⟩ := cntP_planP b p hi L fun y hy => hL y (List.mem_cons_of_mem _ hy)
    have hx := hL x List.mem_cons_self
    cases hs : selP b x with
    | true =>
      have e : planP b p (x :: L) = (p, x) :: planP b p L := by unfold planP; rw [List.filter_cons_of_pos hs]; rfl
      rw [e]
      simp only [cntP, cntN]
      exact ⟨by omega, fun h => by rw [h2 h]⟩
    | false =>
      have e : planP b p (x :: L) = planP b p L := by unfold planP; rw [List.filter_cons_of_neg (by rw [hs]; decide)]
      rw [e]
      simp only [cntN]
      refine ⟨by omega, fun h => ?_⟩
      cases hu : underB x i with
      | false => rw [h2 h]; simp
      | true => rw [sel_under b hx hi hu h] at hs; cases hs
theorem sides_one : ∀ l, l < 8 → ∀ i, i < 8 → i ≠ l → oneU (sideN l 0) i + oneU (sideN l 1) i + oneU (sideN l 2) i = 1 := by decide
theorem sides_lvl : ∀ l, l < 8 → (sideN l 0 < 15 ∧ lvl (sideN l 0) = 0) ∧ (sideN l 1 < 15 ∧ lvl (sideN l 1) = 1) ∧ (sideN l 2 < 15 ∧ lvl (sideN l 2) = 2) := by decide
/-- A leaf's path. -/
def pathN (l p : Nat) : Nat := [l / 2 * 4 + 1, l / 4 * 8 + 3, 7].getD p 0
theorem sides_common : ∀ l, l < 8 → ∀ p, p < 3 → ∀ i, i < 8 → underB (sideN l p) i = true → pathN l p = commonN l i := by decide
theorem plan_once (t : Tr) (b : Nat → Bool) {l i : Nat} (hl : l < 8) (hi : i < 8) (hne : i ≠ l) (hs : (t.sl i != 0) = true) : cntP underB i (planS t b l) ≤ 1 ∧ (b i = false → cntP underB i (planS t b l) = 1) := by
  obtain ⟨⟨a0, c0⟩, ⟨a1, c1⟩, ⟨a2, c2⟩⟩ := sides_lvl l hl
  have h := sides_one l hl i hi hne
  have e0 := cnt_res t hi hs 0 (by decide) _ a0 c0
  have e1 := cnt_res t hi hs 1 (by decide) _ a1 c1
  have e2 := cnt_res t hi hs 2 (by decide) _ a2 c2
  have f0 := cntP_planP b 0 hi _ fun x hx => (res_under t hi 0 (by decide) _ a0 c0 x hx).1
  have f1 := cntP_planP b 1 hi _ fun x hx => (res_under t hi 1 (by decide) _ a1 c1 x hx).1
  have f2 := cntP_planP b 2 hi _ fun x hx => (res_under t hi 2 (by decide) _ a2 c2 x hx).1
  show cntP underB i (planP b 0 _ ++ planP b 1 _ ++ planP b 2 _) ≤ 1 ∧ (_ → cntP underB i (planP b 0 _ ++ planP b 1 _ ++ planP b 2 _) = 1)
  rw [cntP_app, cntP_app]
  refine ⟨by have := f0.1; have := f1.1; have := f2.1; omega, fun hb => ?_⟩
  have := f0.2 hb; have := f1.2 hb; have := f2.2 hb; omega
theorem plan_at (t : Tr) (b : Nat → Bool) {l i : Nat} (hl : l < 8) (hi : i < 8) : ∀ x ∈ planS t b l, x.1 < 3 ∧ x.2 < 15 ∧ (underB x.2 i = true → pathN l x.1 = commonN l i) := by
  obtain ⟨⟨a0, c0⟩, ⟨a1, c1⟩, ⟨a2, c2⟩⟩ := sides_lvl l hl
  intro x hx
  have hx : x ∈ planP b 0 (resS t 0 (sideN l 0)) ++ planP b 1 (resS t 1 (sideN l 1)) ++ planP b 2 (resS t 2 (sideN l 2)) := hx
  have one : ∀ p d, p < 3 → d ≤ 2 → sideN l p < 15 → lvl (sideN l p) = d → x ∈ planP b p (resS t d (sideN l p)) → x.1 < 3 ∧ x.2 < 15 ∧ (underB x.2 i = true → pathN l x.1 = commonN l i) := fun p d hp hd ha hc h => by
    unfold planP at h
    obtain ⟨n, hn, rfl⟩ := List.mem_map.1 h
    obtain ⟨g1, g2⟩ := res_under t hi d hd _ ha hc n (List.mem_filter.1 hn).1
    exact ⟨hp, g1, fun h => sides_common l hl p hp i hi (g2 h)⟩
  rcases List.mem_append.1 hx with hx | hx
  · rcases List.mem_append.1 hx with hx | hx
    · exact one 0 0 (by decide) (by decide) a0 c0 hx
    · exact one 1 1 (by decide) (by decide) a1 c1 hx
  · exact one 2 2 (by decide) (by decide) a2 c2 hx
end Go.Proofs.Ytkpdkfeklecehaa.Ld
