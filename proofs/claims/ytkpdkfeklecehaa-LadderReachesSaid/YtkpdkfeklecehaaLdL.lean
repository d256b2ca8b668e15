/-
  For whom boxes are made: the contract.
-/
import Derived.Test.YtkpdkfeklecehaaLdK
namespace Go.Proofs.Ytkpdkfeklecehaa.Ld
open Go.RowKit Go.Proofs.Ytkpdkfeklecehaa.Sx Go.Proofs.Ytkpdkfeklecehaa.Pw Go.Proofs.Ytkpdkfeklecehaa.Vw
set_option linter.unusedVariables false
set_option linter.unusedSimpArgs false
set_option maxRecDepth 10000

/-- For whom boxes are made, of the places before one. -/
def planT (t : Tr) (b : Nat → Bool) (s0 s1 s2 : Nat) : Nat → List (Nat × Nat)
  | 0 => []
  | 1 => planP b 0 (resS t 0 s0)
  | 2 => planP b 0 (resS t 0 s0) ++ planP b 1 (resS t 1 s1)
  | _ => planP b 0 (resS t 0 s0) ++ planP b 1 (resS t 1 s1) ++ planP b 2 (resS t 2 s2)
def sideN (l k : Nat) : Nat := (sidesL l).getD k 0
def planS (t : Tr) (b : Nat → Bool) (l : Nat) : List (Nat × Nat) := planT t b (sideN l 0) (sideN l 1) (sideN l 2) 3
theorem planP_len (b : Nat → Bool) (p : Nat) (L : List Nat) : (planP b p L).length ≤ L.length := by
  unfold planP
  rw [List.length_map]
  exact List.length_filter_le _ _
theorem planT_len (t : Tr) (b : Nat → Bool) (s0 s1 s2 : Nat) : ∀ k, k ≤ 3 → (planT t b s0 s1 s2 k).length ≤ 7 := by
  intro k hk
  have h0 := Nat.le_trans (planP_len b 0 (resS t 0 s0)) (resS_len t 0 s0)
  have h1 := Nat.le_trans (planP_len b 1 (resS t 1 s1)) (resS_len t 1 s1)
  have h2 := Nat.le_trans (planP_len b 2 (resS t 2 s2)) (resS_len t 2 s2)
  have : k = 0 ∨ k = 1 ∨ k = 2 ∨ k = 3 := by omega
  rcases this with rfl | rfl | rfl | rfl
  · exact Nat.zero_le _
  · show (planP b 0 _).length ≤ 7; omega
  · show (planP b 0 _ ++ planP b 1 _).length ≤ 7; rw [List.length_append]; omega
  · show (planP b 0 _ ++ planP b 1 _ ++ planP b 2 _).length ≤ 7; rw [List.length_append, List.length_append]; omega
section
variable (t : Tr) (b : Nat → Bool) (w : World)
theorem po_sd (l : Nat) : (nodC (sidesL l)).all SC.plain = true := sole_plain' (nodC_sole _)
theorem place_00 {Q : Out → St → Prop} (hQ : ∀ st, st = poSt t b (nodC (sidesL 0)) ((0 + 1 : Nat) : Int) (planT t b (sideN 0 0) (sideN 0 1) (sideN 0 2) 1) → Q .norm st) :
    SWs Try.prog (atW w 0) plO (poSt t b (nodC (sidesL 0)) ((0 : Nat) : Int) (planT t b (sideN 0 0) (sideN 0 1) (sideN 0 2) 0)) Q := by
  have hR : ∀ l, ((nodC (sidesL 0)).all SC.plain && true && ((pairC l).all SC.plain && true)) = true := fun l => by rw [po_sd, sole_plain' (pairC_sole l)]; rfl
  have hN : ((nodC (sidesL 0)).all SC.plain && true && true) = true := by rw [po_sd]; rfl
  have hL : ∀ x ∈ resS t 0 2, x < 15 := fun x hx => by have := resS_lt t 0 2 x hx (by decide); omega
  have hlen : (resS t 0 2).length ≤ 8 := Nat.le_trans (resS_len t 0 2) (by decide)
  have hB : ∀ l, bnd (bnd true ((nodC (reQ t resS 0 2)).all SC.sole && true)) ((nodC (reQ t resS 0 2)).all SC.plain && ((pairC l).all SC.plain && true)) = true := fun l => by rw [nodC_sole, sole_plain' (nodC_sole _), sole_plain' (pairC_sole l)]; rfl
  have hB0 : bnd (bnd true ((nodC (reQ t resS 0 2)).all SC.sole && true)) ((nodC (reQ t resS 0 2)).all SC.plain && true) = true := by rw [nodC_sole, sole_plain' (nodC_sole _)]; rfl
  have hacc := planT_len t b (sideN 0 0) (sideN 0 1) (sideN 0 2) 0 (by decide)
  have hnext : planT t b (sideN 0 0) (sideN 0 1) (sideN 0 2) 0 ++ planP b 0 (resS t 0 2) = planT t b (sideN 0 0) (sideN 0 1) (sideN 0 2) (0 + 1) := rfl
  revert hacc hnext
  generalize planT t b (sideN 0 0) (sideN 0 1) (sideN 0 2) 0 = acc
  intro hacc hnext
  rw [← hnext] at hQ
  have fin : SWs Try.prog (atW w 0) (plO.drop 3) (poSt t b (nodC (sidesL 0)) ((0 : Nat) : Int) (acc ++ planP b 0 (resS t 0 2))) Q := by
    generalize acc ++ planP b 0 (resS t 0 2) = l at hQ
    cases l with
    | nil => exact SWs.doneL plL_ok Sp.mixed [] (po_c0 t resS b (nodC (sidesL 0))) rfl (bnd2 rfl hN) trivial (hQ _ rfl)
    | cons y r => exact SWs.doneL plL_ok Sp.mixed [] (po_d0 t resS b (nodC (sidesL 0)) (r.length + 1) (pairC (y :: r))) rfl (bnd2 rfl (hR (y :: r))) trivial (hQ _ rfl)
  cases acc with
  | nil =>
    refine SWs.stepL plL_ok Sp.mixed [] (po_a0 t resS b (nodC (sidesL 0))) (bnd2 rfl hN) trivial ?_
    refine SWs.enter (by kernel_rfl) ?_
    refine SWs.stepL plL_ok Sp.mixed [] (po_n00 t resS b) hB0 trivial ?_
    exact plan_inner w t b (nodC (sidesL 0)) 0 (resS t 0 2) [] (po_sd 0) hL hlen (by decide) fin
  | cons y r =>
    refine SWs.stepL plL_ok Sp.mixed [] (po_b0 t resS b (nodC (sidesL 0)) (r.length + 1) (pairC (y :: r))) (bnd2 rfl (hR (y :: r))) trivial ?_
    refine SWs.enter (by kernel_rfl) ?_
    refine SWs.stepL plL_ok Sp.mixed [] (po_r00 t resS b (r.length + 1) (pairC (y :: r))) (hB (y :: r)) trivial ?_
    exact plan_inner w t b (nodC (sidesL 0)) 0 (resS t 0 2) (y :: r) (po_sd 0) hL hlen (by omega) fin
theorem place_01 {Q : Out → St → Prop} (hQ : ∀ st, st = poSt t b (nodC (sidesL 0)) ((1 + 1 : Nat) : Int) (planT t b (sideN 0 0) (sideN 0 1) (sideN 0 2) 2) → Q .norm st) :
    SWs Try.prog (atW w 0) plO (poSt t b (nodC (sidesL 0)) ((1 : Nat) : Int) (planT t b (sideN 0 0) (sideN 0 1) (sideN 0 2) 1)) Q := by
  have hR : ∀ l, ((nodC (sidesL 0)).all SC.plain && true && ((pairC l).all SC.plain && true)) = true := fun l => by rw [po_sd, sole_plain' (pairC_sole l)]; rfl
  have hN : ((nodC (sidesL 0)).all SC.plain && true && true) = true := by rw [po_sd]; rfl
  have hL : ∀ x ∈ resS t 1 5, x < 15 := fun x hx => by have := resS_lt t 1 5 x hx (by decide); omega
  have hlen : (resS t 1 5).length ≤ 8 := Nat.le_trans (resS_len t 1 5) (by decide)
  have hB : ∀ l, bnd (bnd true ((nodC (reQ t resS 1 5)).all SC.sole && true)) ((nodC (reQ t resS 1 5)).all SC.plain && ((pairC l).all SC.plain && true)) = true := fun l => by rw [nodC_sole, sole_plain' (nodC_sole _), sole_plain' (pairC_sole l)]; rfl
  have hB0 : bnd (bnd true ((nodC (reQ t resS 1 5)).all SC.sole && true)) ((nodC (reQ t resS 1 5)).all SC.plain && true) = true := by rw [nodC_sole, sole_plain' (nodC_sole _)]; rfl
  have hacc := planT_len t b (sideN 0 0) (sideN 0 1) (sideN 0 2) 1 (by decide)
  have hnext : planT t b (sideN 0 0) (sideN 0 1) (sideN 0 2) 1 ++ planP b 1 (resS t 1 5) = planT t b (sideN 0 0) (sideN 0 1) (sideN 0 2) (1 + 1) := rfl
  revert hacc hnext
  generalize planT t b (sideN 0 0) (sideN 0 1) (sideN 0 2) 1 = acc
  intro hacc hnext
  rw [← hnext] at hQ
  have fin : SWs Try.prog (atW w 0) (plO.drop 3) (poSt t b (nodC (sidesL 0)) ((1 : Nat) : Int) (acc ++ planP b 1 (resS t 1 5))) Q := by
    generalize acc ++ planP b 1 (resS t 1 5) = l at hQ
    cases l with
    | nil => exact SWs.doneL plL_ok Sp.mixed [] (po_c1 t resS b (nodC (sidesL 0))) rfl (bnd2 rfl hN) trivial (hQ _ rfl)
    | cons y r => exact SWs.doneL plL_ok Sp.mixed [] (po_d1 t resS b (nodC (sidesL 0)) (r.length + 1) (pairC (y :: r))) rfl (bnd2 rfl (hR (y :: r))) trivial (hQ _ rfl)
  cases acc with
  | nil =>
    refine SWs.stepL plL_ok Sp.mixed [] (po_a1 t resS b (nodC (sidesL 0))) (bnd2 rfl hN) trivial ?_
    refine SWs.enter (by kernel_rfl) ?_
    refine SWs.stepL plL_ok Sp.mixed [] (po_n01 t resS b) hB0 trivial ?_
    exact plan_inner w t b (nodC (sidesL 0)) 1 (resS t 1 5) [] (po_sd 0) hL hlen (by decide) fin
  | cons y r =>
    refine SWs.stepL plL_ok Sp.mixed [] (po_b1 t resS b (nodC (sidesL 0)) (r.length + 1) (pairC (y :: r))) (bnd2 rfl (hR (y :: r))) trivial ?_
    refine SWs.enter (by kernel_rfl) ?_
    refine SWs.stepL plL_ok Sp.mixed [] (po_r01 t resS b (r.length + 1) (pairC (y :: r))) (hB (y :: r)) trivial ?_
    exact plan_inner w t b (nodC (sidesL 0)) 1 (resS t 1 5) (y :: r) (po_sd 0) hL hlen (by omega) fin
theorem place_02 {Q : Out → St → Prop} (hQ : ∀ st, st = poSt t b (nodC (sidesL 0)) ((2 + 1 : Nat) : Int) (planT t b (sideN 0 0) (sideN 0 1) (sideN 0 2) 3) → Q .norm st) :
    SWs Try.prog (atW w 0) plO (poSt t b (nodC (sidesL 0)) ((2 : Nat) : Int) (planT t b (sideN 0 0) (sideN 0 1) (sideN 0 2) 2)) Q := by
  have hR : ∀ l, ((nodC (sidesL 0)).all SC.plain && true && ((pairC l).all SC.plain && true)) = true := fun l => by rw [po_sd, sole_plain' (pairC_sole l)]; rfl
  have hN : ((nodC (sidesL 0)).all SC.plain && true && true) = true := by rw [po_sd]; rfl
  have hL : ∀ x ∈ resS t 2 11, x < 15 := fun x hx => by have := resS_lt t 2 11 x hx (by decide); omega
  have hlen : (resS t 2 11).length ≤ 8 := Nat.le_trans (resS_len t 2 11) (by decide)
  have hB : ∀ l, bnd (bnd true ((nodC (reQ t resS 2 11)).all SC.sole && true)) ((nodC (reQ t resS 2 11)).all SC.plain && ((pairC l).all SC.plain && true)) = true := fun l => by rw [nodC_sole, sole_plain' (nodC_sole _), sole_plain' (pairC_sole l)]; rfl
  have hB0 : bnd (bnd true ((nodC (reQ t resS 2 11)).all SC.sole && true)) ((nodC (reQ t resS 2 11)).all SC.plain && true) = true := by rw [nodC_sole, sole_plain' (nodC_sole _)]; rfl
  have hacc := planT_len t b (sideN 0 0) (sideN 0 1) (sideN 0 2) 2 (by decide)
  have hnext : planT t b (sideN 0 0) (sideN 0 1) (sideN 0 2) 2 ++ planP b 2 (resS t 2 11) = planT t b (sideN 0 0) (sideN 0 1) (sideN 0 2) (2 + 1) := rfl
  revert hacc hnext
  generalize planT t b (sideN 0 0) (sideN 0 1) (sideN 0 2) 2 = acc
  intro hacc hnext
  rw [← hnext] at hQ
  have fin : SWs Try.prog (atW w 0) (plO.drop 3) (poSt t b (nodC (sidesL 0)) ((2 : Nat) : Int) (acc ++ planP b 2 (resS t 2 11))) Q := by
    generalize acc ++ planP b 2 (resS t 2 11) = l at hQ
    cases l with
    | nil => exact SWs.doneL plL_ok Sp.mixed [] (po_c2 t resS b (nodC (sidesL 0))) rfl (bnd2 rfl hN) trivial (hQ _ rfl)
    | cons y r => exact SWs.doneL plL_ok Sp.mixed [] (po_d2 t resS b (nodC (sidesL 0)) (r.length + 1) (pairC (y :: r))) rfl (bnd2 rfl (hR (y :: r))) trivial (hQ _ rfl)
  cases acc with
  | nil =>
    refine SWs.stepL plL_ok Sp.mixed [] (po_a2 t resS b (nodC (sidesL 0))) (bnd2 rfl hN) trivial ?_
    refine SWs.enter (by kernel_rfl) ?_
    refine SWs.stepL plL_ok Sp.mixed [] (po_n02 t resS b) hB0 trivial ?_
    exact plan_inner w t b (nodC (sidesL 0)) 2 (resS t 2 11) [] (po_sd 0) hL hlen (by decide) fin
  | cons y r =>
    refine SWs.stepL plL_ok Sp.mixed [] (po_b2 t resS b (nodC (sidesL 0)) (r.length + 1) (pairC (y :: r))) (bnd2 rfl (hR (y :: r))) trivial ?_
    refine SWs.enter (by kernel_rfl) ?_
    refine SWs.stepL plL_ok Sp.mixed [] (po_r02 t resS b (r.length + 1) (pairC (y :: r))) (hB (y :: r)) trivial ?_
    exact plan_inner w t b (nodC (sidesL 0)) 2 (resS t 2 11) (y :: r) (po_sd 0) hL hlen (by omega) fin
theorem place_10 {Q : Out → St → Prop} (hQ : ∀ st, st = poSt t b (nodC (sidesL 1)) ((0 + 1 : Nat) : Int) (planT t b (sideN 1 0) (sideN 1 1) (sideN 1 2) 1) → Q .norm st) :
    SWs Try.prog (atW w 0) plO (poSt t b (nodC (sidesL 1)) ((0 : Nat) : Int) (planT t b (sideN 1 0) (sideN 1 1) (sideN 1 2) 0)) Q := by
  have hR : ∀ l, ((nodC (sidesL 1)).all SC.plain && true && ((pairC l).all SC.plain && true)) = true := fun l => by rw [po_sd, sole_plain' (pairC_sole l)]; rfl
  have hN : ((nodC (sidesL 1)).all SC.plain && true && true) = true := by rw [po_sd]; rfl
  have hL : ∀ x ∈ resS t 0 0, x < 15 := fun x hx => by have := resS_lt t 0 0 x hx (by decide); omega
  have hlen : (resS t 0 0).length ≤ 8 := Nat.le_trans (resS_len t 0 0) (by decide)
  have hB : ∀ l, bnd (bnd true ((nodC (reQ t resS 0 0)).all SC.sole && true)) ((nodC (reQ t resS 0 0)).all SC.plain && ((pairC l).all SC.plain && true)) = true := fun l => by rw [nodC_sole, sole_plain' (nodC_sole _), sole_plain' (pairC_sole l)]; rfl
  have hB0 : bnd (bnd true ((nodC (reQ t resS 0 0)).all SC.sole && true)) ((nodC (reQ t resS 0 0)).all SC.plain && true) = true := by rw [nodC_sole, sole_plain' (nodC_sole _)]; rfl
  have hacc := planT_len t b (sideN 1 0) (sideN 1 1) (sideN 1 2) 0 (by decide)
  have hnext : planT t b (sideN 1 0) (sideN 1 1) (sideN 1 2) 0 ++ planP b 0 (resS t 0 0) = planT t b (sideN 1 0) (sideN 1 1) (sideN 1 2) (0 + 1) := rfl
  revert hacc hnext
  generalize planT t b (sideN 1 0) (sideN 1 1) (sideN 1 2) 0 = acc
  intro hacc hnext
  rw [← hnext] at hQ
  have fin : SWs Try.prog (atW w 0) (plO.drop 3) (poSt t b (nodC (sidesL 1)) ((0 : Nat) : Int) (acc ++ planP b 0 (resS t 0 0))) Q := by
    generalize acc ++ planP b 0 (resS t 0 0) = l at hQ
    cases l with
    | nil => exact SWs.doneL plL_ok Sp.mixed [] (po_c0 t resS b (nodC (sidesL 1))) rfl (bnd2 rfl hN) trivial (hQ _ rfl)
    | cons y r => exact SWs.doneL plL_ok Sp.mixed [] (po_d0 t resS b (nodC (sidesL 1)) (r.length + 1) (pairC (y :: r))) rfl (bnd2 rfl (hR (y :: r))) trivial (hQ _ rfl)
  cases acc with
  | nil =>
    refine SWs.stepL plL_ok Sp.mixed [] (po_a0 t resS b (nodC (sidesL 1))) (bnd2 rfl hN) trivial ?_
    refine SWs.enter (by kernel_rfl) ?_
    refine SWs.stepL plL_ok Sp.mixed [] (po_n10 t resS b) hB0 trivial ?_
    exact plan_inner w t b (nodC (sidesL 1)) 0 (resS t 0 0) [] (po_sd 1) hL hlen (by decide) fin
  | cons y r =>
    refine SWs.stepL plL_ok Sp.mixed [] (po_b0 t resS b (nodC (sidesL 1)) (r.length + 1) (pairC (y :: r))) (bnd2 rfl (hR (y :: r))) trivial ?_
    refine SWs.enter (by kernel_rfl) ?_
    refine SWs.stepL plL_ok Sp.mixed [] (po_r10 t resS b (r.length + 1) (pairC (y :: r))) (hB (y :: r)) trivial ?_
    exact plan_inner w t b (nodC (sidesL 1)) 0 (resS t 0 0) (y :: r) (po_sd 1) hL hlen (by omega) fin
theorem place_11 {Q : Out → St → Prop} (hQ : ∀ st, st = poSt t b (nodC (sidesL 1)) ((1 + 1 : Nat) : Int) (planT t b (sideN 1 0) (sideN 1 1) (sideN 1 2) 2) → Q .norm st) :
    SWs Try.prog (atW w 0) plO (poSt t b (nodC (sidesL 1)) ((1 : Nat) : Int) (planT t b (sideN 1 0) (sideN 1 1) (sideN 1 2) 1)) Q := by
  have hR : ∀ l, ((nodC (sidesL 1)).all SC.plain && true && ((pairC l).all SC.plain && true)) = true := fun l => by rw [po_sd, sole_plain' (pairC_sole l)]; rfl
  have hN : ((nodC (sidesL 1)).all SC.plain && true && true) = true := by rw [po_sd]; rfl
  have hL : ∀ x ∈ resS t 1 5, x < 15 := fun x hx => by have := resS_lt t 1 5 x hx (by decide); omega
  have hlen : (resS t 1 5).length ≤ 8 := Nat.le_trans (resS_len t 1 5) (by decide)
  have hB : ∀ l, bnd (bnd true ((nodC (reQ t resS 1 5)).all SC.sole && true)) ((nodC (reQ t resS 1 5)).all SC.plain && ((pairC l).all SC.plain && true)) = true := fun l => by rw [nodC_sole, sole_plain' (nodC_sole _), sole_plain' (pairC_sole l)]; rfl
  have hB0 : bnd (bnd true ((nodC (reQ t resS 1 5)).all SC.sole && true)) ((nodC (reQ t resS 1 5)).all SC.plain && true) = true := by rw [nodC_sole, sole_plain' (nodC_sole _)]; rfl
  have hacc := planT_len t b (sideN 1 0) (sideN 1 1) (sideN 1 2) 1 (by decide)
  have hnext : planT t b (sideN 1 0) (sideN 1 1) (sideN 1 2) 1 ++ planP b 1 (resS t 1 5) = planT t b (sideN 1 0) (sideN 1 1) (sideN 1 2) (1 + 1) := rfl
  revert hacc hnext
  generalize planT t b (sideN 1 0) (sideN 1 1) (sideN 1 2) 1 = acc
  intro hacc hnext
  rw [← hnext] at hQ
  have fin : SWs Try.prog (atW w 0) (plO.drop 3) (poSt t b (nodC (sidesL 1)) ((1 : Nat) : Int) (acc ++ planP b 1 (resS t 1 5))) Q := by
    generalize acc ++ planP b 1 (resS t 1 5) = l at hQ
    cases l with
    | nil => exact SWs.doneL plL_ok Sp.mixed [] (po_c1 t resS b (nodC (sidesL 1))) rfl (bnd2 rfl hN) trivial (hQ _ rfl)
    | cons y r => exact SWs.doneL plL_ok Sp.mixed [] (po_d1 t resS b (nodC (sidesL 1)) (r.length + 1) (pairC (y :: r))) rfl (bnd2 rfl (hR (y :: r))) trivial (hQ _ rfl)
  cases acc with
  | nil =>
    refine SWs.stepL plL_ok Sp.mixed [] (po_a1 t resS b (nodC (sidesL 1))) (bnd2 rfl hN) trivial ?_
    refine SWs.enter (by kernel_rfl) ?_
    refine SWs.stepL plL_ok Sp.mixed [] (po_n11 t resS b) hB0 trivial ?_
    exact plan_inner w t b (nodC (sidesL 1)) 1 (resS t 1 5) [] (po_sd 1) hL hlen (by decide) fin
  | cons y r =>
    refine SWs.stepL plL_ok Sp.mixed [] (po_b1 t resS b (nodC (sidesL 1)) (r.length + 1) (pairC (y :: r))) (bnd2 rfl (hR (y :: r))) trivial ?_
    refine SWs.enter (by kernel_rfl) ?_
    refine SWs.stepL plL_ok Sp.mixed [] (po_r11 t resS b (r.length + 1) (pairC (y :: r))) (hB (y :: r)) trivial ?_
    exact plan_inner w t b (nodC (sidesL 1)) 1 (resS t 1 5) (y :: r) (po_sd 1) hL hlen (by omega) fin
theorem place_12 {Q : Out → St → Prop} (hQ : ∀ st, st = poSt t b (nodC (sidesL 1)) ((2 + 1 : Nat) : Int) (planT t b (sideN 1 0) (sideN 1 1) (sideN 1 2) 3) → Q .norm st) :
    SWs Try.prog (atW w 0) plO (poSt t b (nodC (sidesL 1)) ((2 : Nat) : Int) (planT t b (sideN 1 0) (sideN 1 1) (sideN 1 2) 2)) Q := by
  have hR : ∀ l, ((nodC (sidesL 1)).all SC.plain && true && ((pairC l).all SC.plain && true)) = true := fun l => by rw [po_sd, sole_plain' (pairC_sole l)]; rfl
  have hN : ((nodC (sidesL 1)).all SC.plain && true && true) = true := by rw [po_sd]; rfl
  have hL : ∀ x ∈ resS t 2 11, x < 15 := fun x hx => by have := resS_lt t 2 11 x hx (by decide); omega
  have hlen : (resS t 2 11).length ≤ 8 := Nat.le_trans (resS_len t 2 11) (by decide)
  have hB : ∀ l, bnd (bnd true ((nodC (reQ t resS 2 11)).all SC.sole && true)) ((nodC (reQ t resS 2 11)).all SC.plain && ((pairC l).all SC.plain && true)) = true := fun l => by rw [nodC_sole, sole_plain' (nodC_sole _), sole_plain' (pairC_sole l)]; rfl
  have hB0 : bnd (bnd true ((nodC (reQ t resS 2 11)).all SC.sole && true)) ((nodC (reQ t resS 2 11)).all SC.plain && true) = true := by rw [nodC_sole, sole_plain' (nodC_sole _)]; rfl
  have hacc := planT_len t b (sideN 1 0) (sideN 1 1) (sideN 1 2) 2 (by decide)
  have hnext : planT t b (sideN 1 0) (sideN 1 1) (sideN 1 2) 2 ++ planP b 2 (resS t 2 11) = planT t b (sideN 1 0) (sideN 1 1) (sideN 1 2) (2 + 1) := rfl
  revert hacc hnext
  generalize planT t b (sideN 1 0) (sideN 1 1) (sideN 1 2) 2 = acc
  intro hacc hnext
  rw [← hnext] at hQ
  have fin : SWs Try.prog (atW w 0) (plO.drop 3) (poSt t b (nodC (sidesL 1)) ((2 : Nat) : Int) (acc ++ planP b 2 (resS t 2 11))) Q := by
    generalize acc ++ planP b 2 (resS t 2 11) = l at hQ
    cases l with
    | nil => exact SWs.doneL plL_ok Sp.mixed [] (po_c2 t resS b (nodC (sidesL 1))) rfl (bnd2 rfl hN) trivial (hQ _ rfl)
    | cons y r => exact SWs.doneL plL_ok Sp.mixed [] (po_d2 t resS b (nodC (sidesL 1)) (r.length + 1) (pairC (y :: r))) rfl (bnd2 rfl (hR (y :: r))) trivial (hQ _ rfl)
  cases acc with
  | nil =>
    refine SWs.stepL plL_ok Sp.mixed [] (po_a2 t resS b (nodC (sidesL 1))) (bnd2 rfl hN) trivial ?_
    refine SWs.enter (by kernel_rfl) ?_
    refine SWs.stepL plL_ok Sp.mixed [] (po_n12 t resS b) hB0 trivial ?_
    exact plan_inner w t b (nodC (sidesL 1)) 2 (resS t 2 11) [] (po_sd 1) hL hlen (by decide) fin
  | cons y r =>
    refine SWs.stepL plL_ok Sp.mixed [] (po_b2 t resS b (nodC (sidesL 1)) (r.length + 1) (pairC (y :: r))) (bnd2 rfl (hR (y :: r))) trivial ?_
    refine SWs.enter (by kernel_rfl) ?_
    refine SWs.stepL plL_ok Sp.mixed [] (po_r12 t resS b (r.length + 1) (pairC (y :: r))) (hB (y :: r)) trivial ?_
    exact plan_inner w t b (nodC (sidesL 1)) 2 (resS t 2 11) (y :: r) (po_sd 1) hL hlen (by omega) fin
theorem place_20 {Q : Out → St → Prop} (hQ : ∀ st, st = poSt t b (nodC (sidesL 2)) ((0 + 1 : Nat) : Int) (planT t b (sideN 2 0) (sideN 2 1) (sideN 2 2) 1) → Q .norm st) :
    SWs Try.prog (atW w 0) plO (poSt t b (nodC (sidesL 2)) ((0 : Nat) : Int) (planT t b (sideN 2 0) (sideN 2 1) (sideN 2 2) 0)) Q := by
  have hR : ∀ l, ((nodC (sidesL 2)).all SC.plain && true && ((pairC l).all SC.plain && true)) = true := fun l => by rw [po_sd, sole_plain' (pairC_sole l)]; rfl
  have hN : ((nodC (sidesL 2)).all SC.plain && true && true) = true := by rw [po_sd]; rfl
  have hL : ∀ x ∈ resS t 0 6, x < 15 := fun x hx => by have := resS_lt t 0 6 x hx (by decide); omega
  have hlen : (resS t 0 6).length ≤ 8 := Nat.le_trans (resS_len t 0 6) (by decide)
  have hB : ∀ l, bnd (bnd true ((nodC (reQ t resS 0 6)).all SC.sole && true)) ((nodC (reQ t resS 0 6)).all SC.plain && ((pairC l).all SC.plain && true)) = true := fun l => by rw [nodC_sole, sole_plain' (nodC_sole _), sole_plain' (pairC_sole l)]; rfl
  have hB0 : bnd (bnd true ((nodC (reQ t resS 0 6)).all SC.sole && true)) ((nodC (reQ t resS 0 6)).all SC.plain && true) = true := by rw [nodC_sole, sole_plain' (nodC_sole _)]; rfl
  have hacc := planT_len t b (sideN 2 0) (sideN 2 1) (sideN 2 2) 0 (by decide)
  have hnext : planT t b (sideN 2 0) (sideN 2 1) (sideN 2 2) 0 ++ planP b 0 (resS t 0 6) = planT t b (sideN 2 0) (sideN 2 1) (sideN 2 2) (0 + 1) := rfl
  revert hacc hnext
  generalize planT t b (sideN 2 0) (sideN 2 1) (sideN 2 2) 0 = acc
  intro hacc hnext
  rw [← hnext] at hQ
  have fin : SWs Try.prog (atW w 0) (plO.drop 3) (poSt t b (nodC (sidesL 2)) ((0 : Nat) : Int) (acc ++ planP b 0 (resS t 0 6))) Q := by
    generalize acc ++ planP b 0 (resS t 0 6) = l at hQ
    cases l with
    | nil => exact SWs.doneL plL_ok Sp.mixed [] (po_c0 t resS b (nodC (sidesL 2))) rfl (bnd2 rfl hN) trivial (hQ _ rfl)
    | cons y r => exact SWs.doneL plL_ok Sp.mixed [] (po_d0 t resS b (nodC (sidesL 2)) (r.length + 1) (pairC (y :: r))) rfl (bnd2 rfl (hR (y :: r))) trivial (hQ _ rfl)
  cases acc with
  | nil =>
    refine SWs.stepL plL_ok Sp.mixed [] (po_a0 t resS b (nodC (sidesL 2))) (bnd2 rfl hN) trivial ?_
    refine SWs.enter (by kernel_rfl) ?_
    refine SWs.stepL plL_ok Sp.mixed [] (po_n20 t resS b) hB0 trivial ?_
    exact plan_inner w t b (nodC (sidesL 2)) 0 (resS t 0 6) [] (po_sd 2) hL hlen (by decide) fin
  | cons y r =>
    refine SWs.stepL plL_ok Sp.mixed [] (po_b0 t resS b (nodC (sidesL 2)) (r.length + 1) (pairC (y :: r))) (bnd2 rfl (hR (y :: r))) trivial ?_
    refine SWs.enter (by kernel_rfl) ?_
    refine SWs.stepL plL_ok Sp.mixed [] (po_r20 t resS b (r.length + 1) (pairC (y :: r))) (hB (y :: r)) trivial ?_
    exact plan_inner w t b (nodC (sidesL 2)) 0 (resS t 0 6) (y :: r) (po_sd 2) hL hlen (by omega) fin
theorem place_21 {Q : Out → St → Prop} (hQ : ∀ st, st = poSt t b (nodC (sidesL 2)) ((1 + 1 : Nat) : Int) (planT t b (sideN 2 0) (sideN 2 1) (sideN 2 2) 2) → Q .norm st) :
    SWs Try.prog (atW w 0) plO (poSt t b (nodC (sidesL 2)) ((1 : Nat) : Int) (planT t b (sideN 2 0) (sideN 2 1) (sideN 2 2) 1)) Q := by
  have hR : ∀ l, ((nodC (sidesL 2)).all SC.plain && true && ((pairC l).all SC.plain && true)) = true := fun l => by rw [po_sd, sole_plain' (pairC_sole l)]; rfl
  have hN : ((nodC (sidesL 2)).all SC.plain && true && true) = true := by rw [po_sd]; rfl
  have hL : ∀ x ∈ resS t 1 1, x < 15 := fun x hx => by have := resS_lt t 1 1 x hx (by decide); omega
  have hlen : (resS t 1 1).length ≤ 8 := Nat.le_trans (resS_len t 1 1) (by decide)
  have hB : ∀ l, bnd (bnd true ((nodC (reQ t resS 1 1)).all SC.sole && true)) ((nodC (reQ t resS 1 1)).all SC.plain && ((pairC l).all SC.plain && true)) = true := fun l => by rw [nodC_sole, sole_plain' (nodC_sole _), sole_plain' (pairC_sole l)]; rfl
  have hB0 : bnd (bnd true ((nodC (reQ t resS 1 1)).all SC.sole && true)) ((nodC (reQ t resS 1 1)).all SC.plain && true) = true := by rw [nodC_sole, sole_plain' (nodC_sole _)]; rfl
  have hacc := planT_len t b (sideN 2 0) (sideN 2 1) (sideN 2 2) 1 (by decide)
  have hnext : planT t b (sideN 2 0) (sideN 2 1) (sideN 2 2) 1 ++ planP b 1 (resS t 1 1) = planT t b (sideN 2 0) (sideN 2 1) (sideN 2 2) (1 + 1) := rfl
  revert hacc hnext
  generalize planT t b (sideN 2 0) (sideN 2 1) (sideN 2 2) 1 = acc
  intro hacc hnext
  rw [← hnext] at hQ
  have fin : SWs Try.prog (atW w 0) (plO.drop 3) (poSt t b (nodC (sidesL 2)) ((1 : Nat) : Int) (acc ++ planP b 1 (resS t 1 1))) Q := by
    generalize acc ++ planP b 1 (resS t 1 1) = l at hQ
    cases l with
    | nil => exact SWs.doneL plL_ok Sp.mixed [] (po_c1 t resS b (nodC (sidesL 2))) rfl (bnd2 rfl hN) trivial (hQ _ rfl)
    | cons y r => exact SWs.doneL plL_ok Sp.mixed [] (po_d1 t resS b (nodC (sidesL 2)) (r.length + 1) (pairC (y :: r))) rfl (bnd2 rfl (hR (y :: r))) trivial (hQ _ rfl)
  cases acc with
  | nil =>
    refine SWs.stepL plL_ok Sp.mixed [] (po_a1 t resS b (nodC (sidesL 2))) (bnd2 rfl hN) trivial ?_
    refine SWs.enter (by kernel_rfl) ?_
    refine SWs.stepL plL_ok Sp.mixed [] (po_n21 t resS b) hB0 trivial ?_
    exact plan_inner w t b (nodC (sidesL 2)) 1 (resS t 1 1) [] (po_sd 2) hL hlen (by decide) fin
  | cons y r =>
    refine SWs.stepL plL_ok Sp.mixed [] (po_b1 t resS b (nodC (sidesL 2)) (r.length + 1) (pairC (y :: r))) (bnd2 rfl (hR (y :: r))) trivial ?_
    refine SWs.enter (by kernel_rfl) ?_
    refine SWs.stepL plL_ok Sp.mixed [] (po_r21 t resS b (r.length + 1) (pairC (y :: r))) (hB (y :: r)) trivial ?_
    exact plan_inner w t b (nodC (sidesL 2)) 1 (resS t 1 1) (y :: r) (po_sd 2) hL hlen (by omega) fin
theorem place_22 {Q : Out → St → Prop} (hQ : ∀ st, st = poSt t b (nodC (sidesL 2)) ((2 + 1 : Nat) : Int) (planT t b (sideN 2 0) (sideN 2 1) (sideN 2 2) 3) → Q .norm st) :
    SWs Try.prog (atW w 0) plO (poSt t b (nodC (sidesL 2)) ((2 : Nat) : Int) (planT t b (sideN 2 0) (sideN 2 1) (sideN 2 2) 2)) Q := by
  have hR : ∀ l, ((nodC (sidesL 2)).all SC.plain && true && ((pairC l).all SC.plain && true)) = true := fun l => by rw [po_sd, sole_plain' (pairC_sole l)]; rfl
  have hN : ((nodC (sidesL 2)).all SC.plain && true && true) = true := by rw [po_sd]; rfl
  have hL : ∀ x ∈ resS t 2 11, x < 15 := fun x hx => by have := resS_lt t 2 11 x hx (by decide); omega
  have hlen : (resS t 2 11).length ≤ 8 := Nat.le_trans (resS_len t 2 11) (by decide)
  have hB : ∀ l, bnd (bnd true ((nodC (reQ t resS 2 11)).all SC.sole && true)) ((nodC (reQ t resS 2 11)).all SC.plain && ((pairC l).all SC.plain && true)) = true := fun l => by rw [nodC_sole, sole_plain' (nodC_sole _), sole_plain' (pairC_sole l)]; rfl
  have hB0 : bnd (bnd true ((nodC (reQ t resS 2 11)).all SC.sole && true)) ((nodC (reQ t resS 2 11)).all SC.plain && true) = true := by rw [nodC_sole, sole_plain' (nodC_sole _)]; rfl
  have hacc := planT_len t b (sideN 2 0) (sideN 2 1) (sideN 2 2) 2 (by decide)
  have hnext : planT t b (sideN 2 0) (sideN 2 1) (sideN 2 2) 2 ++ planP b 2 (resS t 2 11) = planT t b (sideN 2 0) (sideN 2 1) (sideN 2 2) (2 + 1) := rfl
  revert hacc hnext
  generalize planT t b (sideN 2 0) (sideN 2 1) (sideN 2 2) 2 = acc
  intro hacc hnext
  rw [← hnext] at hQ
  have fin : SWs Try.prog (atW w 0) (plO.drop 3) (poSt t b (nodC (sidesL 2)) ((2 : Nat) : Int) (acc ++ planP b 2 (resS t 2 11))) Q := by
    generalize acc ++ planP b 2 (resS t 2 11) = l at hQ
    cases l with
    | nil => exact SWs.doneL plL_ok Sp.mixed [] (po_c2 t resS b (nodC (sidesL 2))) rfl (bnd2 rfl hN) trivial (hQ _ rfl)
    | cons y r => exact SWs.doneL plL_ok Sp.mixed [] (po_d2 t resS b (nodC (sidesL 2)) (r.length + 1) (pairC (y :: r))) rfl (bnd2 rfl (hR (y :: r))) trivial (hQ _ rfl)
  cases acc with
  | nil =>
    refine SWs.stepL plL_ok Sp.mixed [] (po_a2 t resS b (nodC (sidesL 2))) (bnd2 rfl hN) trivial ?_
    refine SWs.enter (by kernel_rfl) ?_
    refine SWs.stepL plL_ok Sp.mixed [] (po_n22 t resS b) hB0 trivial ?_
    exact plan_inner w t b (nodC (sidesL 2)) 2 (resS t 2 11) [] (po_sd 2) hL hlen (by decide) fin
  | cons y r =>
    refine SWs.stepL plL_ok Sp.mixed [] (po_b2 t resS b (nodC (sidesL 2)) (r.length + 1) (pairC (y :: r))) (bnd2 rfl (hR (y :: r))) trivial ?_
    refine SWs.enter (by kernel_rfl) ?_
    refine SWs.stepL plL_ok Sp.mixed [] (po_r22 t resS b (r.length + 1) (pairC (y :: r))) (hB (y :: r)) trivial ?_
    exact plan_inner w t b (nodC (sidesL 2)) 2 (resS t 2 11) (y :: r) (po_sd 2) hL hlen (by omega) fin
theorem place_30 {Q : Out → St → Prop} (hQ : ∀ st, st = poSt t b (nodC (sidesL 3)) ((0 + 1 : Nat) : Int) (planT t b (sideN 3 0) (sideN 3 1) (sideN 3 2) 1) → Q .norm st) :
    SWs Try.prog (atW w 0) plO (poSt t b (nodC (sidesL 3)) ((0 : Nat) : Int) (planT t b (sideN 3 0) (sideN 3 1) (sideN 3 2) 0)) Q := by
  have hR : ∀ l, ((nodC (sidesL 3)).all SC.plain && true && ((pairC l).all SC.plain && true)) = true := fun l => by rw [po_sd, sole_plain' (pairC_sole l)]; rfl
  have hN : ((nodC (sidesL 3)).all SC.plain && true && true) = true := by rw [po_sd]; rfl
  have hL : ∀ x ∈ resS t 0 4, x < 15 := fun x hx => by have := resS_lt t 0 4 x hx (by decide); omega
  have hlen : (resS t 0 4).length ≤ 8 := Nat.le_trans (resS_len t 0 4) (by decide)
  have hB : ∀ l, bnd (bnd true ((nodC (reQ t resS 0 4)).all SC.sole && true)) ((nodC (reQ t resS 0 4)).all SC.plain && ((pairC l).all SC.plain && true)) = true := fun l => by rw [nodC_sole, sole_plain' (nodC_sole _), sole_plain' (pairC_sole l)]; rfl
  have hB0 : bnd (bnd true ((nodC (reQ t resS 0 4)).all SC.sole && true)) ((nodC (reQ t resS 0 4)).all SC.plain && true) = true := by rw [nodC_sole, sole_plain' (nodC_sole _)]; rfl
  have hacc := planT_len t b (sideN 3 0) (sideN 3 1) (sideN 3 2) 0 (by decide)
  have hnext : planT t b (sideN 3 0) (sideN 3 1) (sideN 3 2) 0 ++ planP b 0 (resS t 0 4) = planT t b (sideN 3 0) (sideN 3 1) (sideN 3 2) (0 + 1) := rfl
  revert hacc hnext
  generalize planT t b (sideN 3 0) (sideN 3 1) (sideN 3 2) 0 = acc
  intro hacc hnext
  rw [← hnext] at hQ
  have fin : SWs Try.prog (atW w 0) (plO.drop 3) (poSt t b (nodC (sidesL 3)) ((0 : Nat) : Int) (acc ++ planP b 0 (resS t 0 4))) Q := by
    generalize acc ++ planP b 0 (resS t 0 4) = l at hQ
    cases l with
    | nil => exact SWs.doneL plL_ok Sp.mixed [] (po_c0 t resS b (nodC (sidesL 3))) rfl (bnd2 rfl hN) trivial (hQ _ rfl)
    | cons y r => exact SWs.doneL plL_ok Sp.mixed [] (po_d0 t resS b (nodC (sidesL 3)) (r.length + 1) (pairC (y :: r))) rfl (bnd2 rfl (hR (y :: r))) trivial (hQ _ rfl)
  cases acc with
  | nil =>
    refine SWs.stepL plL_ok Sp.mixed [] (po_a0 t resS b (nodC (sidesL 3))) (bnd2 rfl hN) trivial ?_
    refine SWs.enter (by kernel_rfl) ?_
    refine SWs.stepL plL_ok Sp.mixed [] (po_n30 t resS b) hB0 trivial ?_
    exact plan_inner w t b (nodC (sidesL 3)) 0 (resS t 0 4) [] (po_sd 3) hL hlen (by decide) fin
  | cons y r =>
    refine SWs.stepL plL_ok Sp.mixed [] (po_b0 t resS b (nodC (sidesL 3)) (r.length + 1) (pairC (y :: r))) (bnd2 rfl (hR (y :: r))) trivial ?_
    refine SWs.enter (by kernel_rfl) ?_
    refine SWs.stepL plL_ok Sp.mixed [] (po_r30 t resS b (r.length + 1) (pairC (y :: r))) (hB (y :: r)) trivial ?_
    exact plan_inner w t b (nodC (sidesL 3)) 0 (resS t 0 4) (y :: r) (po_sd 3) hL hlen (by omega) fin
theorem place_31 {Q : Out → St → Prop} (hQ : ∀ st, st = poSt t b (nodC (sidesL 3)) ((1 + 1 : Nat) : Int) (planT t b (sideN 3 0) (sideN 3 1) (sideN 3 2) 2) → Q .norm st) :
    SWs Try.prog (atW w 0) plO (poSt t b (nodC (sidesL 3)) ((1 : Nat) : Int) (planT t b (sideN 3 0) (sideN 3 1) (sideN 3 2) 1)) Q := by
  have hR : ∀ l, ((nodC (sidesL 3)).all SC.plain && true && ((pairC l).all SC.plain && true)) = true := fun l => by rw [po_sd, sole_plain' (pairC_sole l)]; rfl
  have hN : ((nodC (sidesL 3)).all SC.plain && true && true) = true := by rw [po_sd]; rfl
  have hL : ∀ x ∈ resS t 1 1, x < 15 := fun x hx => by have := resS_lt t 1 1 x hx (by decide); omega
  have hlen : (resS t 1 1).length ≤ 8 := Nat.le_trans (resS_len t 1 1) (by decide)
  have hB : ∀ l, bnd (bnd true ((nodC (reQ t resS 1 1)).all SC.sole && true)) ((nodC (reQ t resS 1 1)).all SC.plain && ((pairC l).all SC.plain && true)) = true := fun l => by rw [nodC_sole, sole_plain' (nodC_sole _), sole_plain' (pairC_sole l)]; rfl
  have hB0 : bnd (bnd true ((nodC (reQ t resS 1 1)).all SC.sole && true)) ((nodC (reQ t resS 1 1)).all SC.plain && true) = true := by rw [nodC_sole, sole_plain' (nodC_sole _)]; rfl
  have hacc := planT_len t b (sideN 3 0) (sideN 3 1) (sideN 3 2) 1 (by decide)
  have hnext : planT t b (sideN 3 0) (sideN 3 1) (sideN 3 2) 1 ++ planP b 1 (resS t 1 1) = planT t b (sideN 3 0) (sideN 3 1) (sideN 3 2) (1 + 1) := rfl
  revert hacc hnext
  generalize planT t b (sideN 3 0) (sideN 3 1) (sideN 3 2) 1 = acc
  intro hacc hnext
  rw [← hnext] at hQ
  have fin : SWs Try.prog (atW w 0) (plO.drop 3) (poSt t b (nodC (sidesL 3)) ((1 : Nat) : Int) (acc ++ planP b 1 (resS t 1 1))) Q := by
    generalize acc ++ planP b 1 (resS t 1 1) = l at hQ
    cases l with
    | nil => exact SWs.doneL plL_ok Sp.mixed [] (po_c1 t resS b (nodC (sidesL 3))) rfl (bnd2 rfl hN) trivial (hQ _ rfl)
    | cons y r => exact SWs.doneL plL_ok Sp.mixed [] (po_d1 t resS b (nodC (sidesL 3)) (r.length + 1) (pairC (y :: r))) rfl (bnd2 rfl (hR (y :: r))) trivial (hQ _ rfl)
  cases acc with
  | nil =>
    refine SWs.stepL plL_ok Sp.mixed [] (po_a1 t resS b (nodC (sidesL 3))) (bnd2 rfl hN) trivial ?_
    refine SWs.enter (by kernel_rfl) ?_
    refine SWs.stepL plL_ok Sp.mixed [] (po_n31 t resS b) hB0 trivial ?_
    exact plan_inner w t b (nodC (sidesL 3)) 1 (resS t 1 1) [] (po_sd 3) hL hlen (by decide) fin
  | cons y r =>
    refine SWs.stepL plL_ok Sp.mixed [] (po_b1 t resS b (nodC (sidesL 3)) (r.length + 1) (pairC (y :: r))) (bnd2 rfl (hR (y :: r))) trivial ?_
    refine SWs.enter (by kernel_rfl) ?_
    refine SWs.stepL plL_ok Sp.mixed [] (po_r31 t resS b (r.length + 1) (pairC (y :: r))) (hB (y :: r)) trivial ?_
    exact plan_inner w t b (nodC (sidesL 3)) 1 (resS t 1 1) (y :: r) (po_sd 3) hL hlen (by omega) fin
theorem place_32 {Q : Out → St → Prop} (hQ : ∀ st, st = poSt t b (nodC (sidesL 3)) ((2 + 1 : Nat) : Int) (planT t b (sideN 3 0) (sideN 3 1) (sideN 3 2) 3) → Q .norm st) :
    SWs Try.prog (atW w 0) plO (poSt t b (nodC (sidesL 3)) ((2 : Nat) : Int) (planT t b (sideN 3 0) (sideN 3 1) (sideN 3 2) 2)) Q := by
  have hR : ∀ l, ((nodC (sidesL 3)).all SC.plain && true && ((pairC l).all SC.plain && true)) = true := fun l => by rw [po_sd, sole_plain' (pairC_sole l)]; rfl
  have hN : ((nodC (sidesL 3)).all SC.plain && true && true) = true := by rw [po_sd]; rfl
  have hL : ∀ x ∈ resS t 2 11, x < 15 := fun x hx => by have := resS_lt t 2 11 x hx (by decide); omega
  have hlen : (resS t 2 11).length ≤ 8 := Nat.le_trans (resS_len t 2 11) (by decide)
  have hB : ∀ l, bnd (bnd true ((nodC (reQ t resS 2 11)).all SC.sole && true)) ((nodC (reQ t resS 2 11)).all SC.plain && ((pairC l).all SC.plain && true)) = true := fun l => by rw [nodC_sole, sole_plain' (nodC_sole _), sole_plain' (pairC_sole l)]; rfl
  have hB0 : bnd (bnd true ((nodC (reQ t resS 2 11)).all SC.sole && true)) ((nodC (reQ t resS 2 11)).all SC.plain && true) = true := by rw [nodC_sole, sole_plain' (nodC_sole _)]; rfl
  have hacc := planT_len t b (sideN 3 0) (sideN 3 1) (sideN 3 2) 2 (by decide)
  have hnext : planT t b (sideN 3 0) (sideN 3 1) (sideN 3 2) 2 ++ planP b 2 (resS t 2 11) = planT t b (sideN 3 0) (sideN 3 1) (sideN 3 2) (2 + 1) := rfl
  revert hacc hnext
  generalize planT t b (sideN 3 0) (sideN 3 1) (sideN 3 2) 2 = acc
  intro hacc hnext
  rw [← hnext] at hQ
  have fin : SWs Try.prog (atW w 0) (plO.drop 3) (poSt t b (nodC (sidesL 3)) ((2 : Nat) : Int) (acc ++ planP b 2 (resS t 2 11))) Q := by
    generalize acc ++ planP b 2 (resS t 2 11) = l at hQ
    cases l with
    | nil => exact SWs.doneL plL_ok Sp.mixed [] (po_c2 t resS b (nodC (sidesL 3))) rfl (bnd2 rfl hN) trivial (hQ _ rfl)
    | cons y r => exact SWs.doneL plL_ok Sp.mixed [] (po_d2 t resS b (nodC (sidesL 3)) (r.length + 1) (pairC (y :: r))) rfl (bnd2 rfl (hR (y :: r))) trivial (hQ _ rfl)
  cases acc with
  | nil =>
    refine SWs.stepL plL_ok Sp.mixed [] (po_a2 t resS b (nodC (sidesL 3))) (bnd2 rfl hN) trivial ?_
    refine SWs.enter (by kernel_rfl) ?_
    refine SWs.stepL plL_ok Sp.mixed [] (po_n32 t resS b) hB0 trivial ?_
    exact plan_inner w t b (nodC (sidesL 3)) 2 (resS t 2 11) [] (po_sd 3) hL hlen (by decide) fin
  | cons y r =>
    refine SWs.stepL plL_ok Sp.mixed [] (po_b2 t resS b (nodC (sidesL 3)) (r.length + 1) (pairC (y :: r))) (bnd2 rfl (hR (y :: r))) trivial ?_
    refine SWs.enter (by kernel_rfl) ?_
    refine SWs.stepL plL_ok Sp.mixed [] (po_r32 t resS b (r.length + 1) (pairC (y :: r))) (hB (y :: r)) trivial ?_
    exact plan_inner w t b (nodC (sidesL 3)) 2 (resS t 2 11) (y :: r) (po_sd 3) hL hlen (by omega) fin
theorem place_40 {Q : Out → St → Prop} (hQ : ∀ st, st = poSt t b (nodC (sidesL 4)) ((0 + 1 : Nat) : Int) (planT t b (sideN 4 0) (sideN 4 1) (sideN 4 2) 1) → Q .norm st) :
    SWs Try.prog (atW w 0) plO (poSt t b (nodC (sidesL 4)) ((0 : Nat) : Int) (planT t b (sideN 4 0) (sideN 4 1) (sideN 4 2) 0)) Q := by
  have hR : ∀ l, ((nodC (sidesL 4)).all SC.plain && true && ((pairC l).all SC.plain && true)) = true := fun l => by rw [po_sd, sole_plain' (pairC_sole l)]; rfl
  have hN : ((nodC (sidesL 4)).all SC.plain && true && true) = true := by rw [po_sd]; rfl
  have hL : ∀ x ∈ resS t 0 10, x < 15 := fun x hx => by have := resS_lt t 0 10 x hx (by decide); omega
  have hlen : (resS t 0 10).length ≤ 8 := Nat.le_trans (resS_len t 0 10) (by decide)
  have hB : ∀ l, bnd (bnd true ((nodC (reQ t resS 0 10)).all SC.sole && true)) ((nodC (reQ t resS 0 10)).all SC.plain && ((pairC l).all SC.plain && true)) = true := fun l => by rw [nodC_sole, sole_plain' (nodC_sole _), sole_plain' (pairC_sole l)]; rfl
  have hB0 : bnd (bnd true ((nodC (reQ t resS 0 10)).all SC.sole && true)) ((nodC (reQ t resS 0 10)).all SC.plain && true) = true := by rw [nodC_sole, sole_plain' (nodC_sole _)]; rfl
  have hacc := planT_len t b (sideN 4 0) (sideN 4 1) (sideN 4 2) 0 (by decide)
  have hnext : planT t b (sideN 4 0) (sideN 4 1) (sideN 4 2) 0 ++ planP b 0 (resS t 0 10) = planT t b (sideN 4 0) (sideN 4 1) (sideN 4 2) (0 + 1) := rfl
  revert hacc hnext
  generalize planT t b (sideN 4 0) (sideN 4 1) (sideN 4 2) 0 = acc
  intro hacc hnext
  rw [← hnext] at hQ
  have fin : SWs Try.prog (atW w 0) (plO.drop 3) (poSt t b (nodC (sidesL 4)) ((0 : Nat) : Int) (acc ++ planP b 0 (resS t 0 10))) Q := by
    generalize acc ++ planP b 0 (resS t 0 10) = l at hQ
    cases l with
    | nil => exact SWs.doneL plL_ok Sp.mixed [] (po_c0 t resS b (nodC (sidesL 4))) rfl (bnd2 rfl hN) trivial (hQ _ rfl)
    | cons y r => exact SWs.doneL plL_ok Sp.mixed [] (po_d0 t resS b (nodC (sidesL 4)) (r.length + 1) (pairC (y :: r))) rfl (bnd2 rfl (hR (y :: r))) trivial (hQ _ rfl)
  cases acc with
  | nil =>
    refine SWs.stepL plL_ok Sp.mixed [] (po_a0 t resS b (nodC (sidesL 4))) (bnd2 rfl hN) trivial ?_
    refine SWs.enter (by kernel_rfl) ?_
    refine SWs.stepL plL_ok Sp.mixed [] (po_n40 t resS b) hB0 trivial ?_
    exact plan_inner w t b (nodC (sidesL 4)) 0 (resS t 0 10) [] (po_sd 4) hL hlen (by decide) fin
  | cons y r =>
    refine SWs.stepL plL_ok Sp.mixed [] (po_b0 t resS b (nodC (sidesL 4)) (r.length + 1) (pairC (y :: r))) (bnd2 rfl (hR (y :: r))) trivial ?_
    refine SWs.enter (by kernel_rfl) ?_
    refine SWs.stepL plL_ok Sp.mixed [] (po_r40 t resS b (r.length + 1) (pairC (y :: r))) (hB (y :: r)) trivial ?_
    exact plan_inner w t b (nodC (sidesL 4)) 0 (resS t 0 10) (y :: r) (po_sd 4) hL hlen (by omega) fin
theorem place_41 {Q : Out → St → Prop} (hQ : ∀ st, st = poSt t b (nodC (sidesL 4)) ((1 + 1 : Nat) : Int) (planT t b (sideN 4 0) (sideN 4 1) (sideN 4 2) 2) → Q .norm st) :
    SWs Try.prog (atW w 0) plO (poSt t b (nodC (sidesL 4)) ((1 : Nat) : Int) (planT t b (sideN 4 0) (sideN 4 1) (sideN 4 2) 1)) Q := by
  have hR : ∀ l, ((nodC (sidesL 4)).all SC.plain && true && ((pairC l).all SC.plain && true)) = true := fun l => by rw [po_sd, sole_plain' (pairC_sole l)]; rfl
  have hN : ((nodC (sidesL 4)).all SC.plain && true && true) = true := by rw [po_sd]; rfl
  have hL : ∀ x ∈ resS t 1 13, x < 15 := fun x hx => by have := resS_lt t 1 13 x hx (by decide); omega
  have hlen : (resS t 1 13).length ≤ 8 := Nat.le_trans (resS_len t 1 13) (by decide)
  have hB : ∀ l, bnd (bnd true ((nodC (reQ t resS 1 13)).all SC.sole && true)) ((nodC (reQ t resS 1 13)).all SC.plain && ((pairC l).all SC.plain && true)) = true := fun l => by rw [nodC_sole, sole_plain' (nodC_sole _), sole_plain' (pairC_sole l)]; rfl
  have hB0 : bnd (bnd true ((nodC (reQ t resS 1 13)).all SC.sole && true)) ((nodC (reQ t resS 1 13)).all SC.plain && true) = true := by rw [nodC_sole, sole_plain' (nodC_sole _)]; rfl
  have hacc := planT_len t b (sideN 4 0) (sideN 4 1) (sideN 4 2) 1 (by decide)
  have hnext : planT t b (sideN 4 0) (sideN 4 1) (sideN 4 2) 1 ++ planP b 1 (resS t 1 13) = planT t b (sideN 4 0) (sideN 4 1) (sideN 4 2) (1 + 1) := rfl
  revert hacc hnext
  generalize planT t b (sideN 4 0) (sideN 4 1) (sideN 4 2) 1 = acc
  intro hacc hnext
  rw [← hnext] at hQ
  have fin : SWs Try.prog (atW w 0) (plO.drop 3) (poSt t b (nodC (sidesL 4)) ((1 : Nat) : Int) (acc ++ planP b 1 (resS t 1 13))) Q := by
    generalize acc ++ planP b 1 (resS t 1 13) = l at hQ
    cases l with
    | nil => exact SWs.doneL plL_ok Sp.mixed [] (po_c1 t resS b (nodC (sidesL 4))) rfl (bnd2 rfl hN) trivial (hQ _ rfl)
    | cons y r => exact SWs.doneL plL_ok Sp.mixed [] (po_d1 t resS b (nodC (sidesL 4)) (r.length + 1) (pairC (y :: r))) rfl (bnd2 rfl (hR (y :: r))) trivial (hQ _ rfl)
  cases acc with
  | nil =>
    refine SWs.stepL plL_ok Sp.mixed [] (po_a1 t resS b (nodC (sidesL 4))) (bnd2 rfl hN) trivial ?_
    refine SWs.enter (by kernel_rfl) ?_
    refine SWs.stepL plL_ok Sp.mixed [] (po_n41 t resS b) hB0 trivial ?_
    exact plan_inner w t b (nodC (sidesL 4)) 1 (resS t 1 13) [] (po_sd 4) hL hlen (by decide) fin
  | cons y r =>
    refine SWs.stepL plL_ok Sp.mixed [] (po_b1 t resS b (nodC (sidesL 4)) (r.length + 1) (pairC (y :: r))) (bnd2 rfl (hR (y :: r))) trivial ?_
    refine SWs.enter (by kernel_rfl) ?_
    refine SWs.stepL plL_ok Sp.mixed [] (po_r41 t resS b (r.length + 1) (pairC (y :: r))) (hB (y :: r)) trivial ?_
    exact plan_inner w t b (nodC (sidesL 4)) 1 (resS t 1 13) (y :: r) (po_sd 4) hL hlen (by omega) fin
theorem place_42 {Q : Out → St → Prop} (hQ : ∀ st, st = poSt t b (nodC (sidesL 4)) ((2 + 1 : Nat) : Int) (planT t b (sideN 4 0) (sideN 4 1) (sideN 4 2) 3) → Q .norm st) :
    SWs Try.prog (atW w 0) plO (poSt t b (nodC (sidesL 4)) ((2 : Nat) : Int) (planT t b (sideN 4 0) (sideN 4 1) (sideN 4 2) 2)) Q := by
  have hR : ∀ l, ((nodC (sidesL 4)).all SC.plain && true && ((pairC l).all SC.plain && true)) = true := fun l => by rw [po_sd, sole_plain' (pairC_sole l)]; rfl
  have hN : ((nodC (sidesL 4)).all SC.plain && true && true) = true := by rw [po_sd]; rfl
  have hL : ∀ x ∈ resS t 2 3, x < 15 := fun x hx => by have := resS_lt t 2 3 x hx (by decide); omega
  have hlen : (resS t 2 3).length ≤ 8 := Nat.le_trans (resS_len t 2 3) (by decide)
  have hB : ∀ l, bnd (bnd true ((nodC (reQ t resS 2 3)).all SC.sole && true)) ((nodC (reQ t resS 2 3)).all SC.plain && ((pairC l).all SC.plain && true)) = true := fun l => by rw [nodC_sole, sole_plain' (nodC_sole _), sole_plain' (pairC_sole l)]; rfl
  have hB0 : bnd (bnd true ((nodC (reQ t resS 2 3)).all SC.sole && true)) ((nodC (reQ t resS 2 3)).all SC.plain && true) = true := by rw [nodC_sole, sole_plain' (nodC_sole _)]; rfl
  have hacc := planT_len t b (sideN 4 0) (sideN 4 1) (sideN 4 2) 2 (by decide)
  have hnext : planT t b (sideN 4 0) (sideN 4 1) (sideN 4 2) 2 ++ planP b 2 (resS t 2 3) = planT t b (sideN 4 0) (sideN 4 1) (sideN 4 2) (2 + 1) := rfl
  revert hacc hnext
  generalize planT t b (sideN 4 0) (sideN 4 1) (sideN 4 2) 2 = acc
  intro hacc hnext
  rw [← hnext] at hQ
  have fin : SWs Try.prog (atW w 0) (plO.drop 3) (poSt t b (nodC (sidesL 4)) ((2 : Nat) : Int) (acc ++ planP b 2 (resS t 2 3))) Q := by
    generalize acc ++ planP b 2 (resS t 2 3) = l at hQ
    cases l with
    | nil => exact SWs.doneL plL_ok Sp.mixed [] (po_c2 t resS b (nodC (sidesL 4))) rfl (bnd2 rfl hN) trivial (hQ _ rfl)
    | cons y r => exact SWs.doneL plL_ok Sp.mixed [] (po_d2 t resS b (nodC (sidesL 4)) (r.length + 1) (pairC (y :: r))) rfl (bnd2 rfl (hR (y :: r))) trivial (hQ _ rfl)
  cases acc with
  | nil =>
    refine SWs.stepL plL_ok Sp.mixed [] (po_a2 t resS b (nodC (sidesL 4))) (bnd2 rfl hN) trivial ?_
    refine SWs.enter (by kernel_rfl) ?_
    refine SWs.stepL plL_ok Sp.mixed [] (po_n42 t resS b) hB0 trivial ?_
    exact plan_inner w t b (nodC (sidesL 4)) 2 (resS t 2 3) [] (po_sd 4) hL hlen (by decide) fin
  | cons y r =>
    refine SWs.stepL plL_ok Sp.mixed [] (po_b2 t resS b (nodC (sidesL 4)) (r.length + 1) (pairC (y :: r))) (bnd2 rfl (hR (y :: r))) trivial ?_
    refine SWs.enter (by kernel_rfl) ?_
    refine SWs.stepL plL_ok Sp.mixed [] (po_r42 t resS b (r.length + 1) (pairC (y :: r))) (hB (y :: r)) trivial ?_
    exact plan_inner w t b (nodC (sidesL 4)) 2 (resS t 2 3) (y :: r) (po_sd 4) hL hlen (by omega) fin
theorem place_50 {Q : Out → St → Prop} (hQ : ∀ st, st = poSt t b (nodC (sidesL 5)) ((0 + 1 : Nat) : Int) (planT t b (sideN 5 0) (sideN 5 1) (sideN 5 2) 1) → Q .norm st) :
    SWs Try.prog (atW w 0) plO (poSt t b (nodC (sidesL 5)) ((0 : Nat) : Int) (planT t b (sideN 5 0) (sideN 5 1) (sideN 5 2) 0)) Q := by
  have hR : ∀ l, ((nodC (sidesL 5)).all SC.plain && true && ((pairC l).all SC.plain && true)) = true := fun l => by rw [po_sd, sole_plain' (pairC_sole l)]; rfl
  have hN : ((nodC (sidesL 5)).all SC.plain && true && true) = true := by rw [po_sd]; rfl
  have hL : ∀ x ∈ resS t 0 8, x < 15 := fun x hx => by have := resS_lt t 0 8 x hx (by decide); omega
  have hlen : (resS t 0 8).length ≤ 8 := Nat.le_trans (resS_len t 0 8) (by decide)
  have hB : ∀ l, bnd (bnd true ((nodC (reQ t resS 0 8)).all SC.sole && true)) ((nodC (reQ t resS 0 8)).all SC.plain && ((pairC l).all SC.plain && true)) = true := fun l => by rw [nodC_sole, sole_plain' (nodC_sole _), sole_plain' (pairC_sole l)]; rfl
  have hB0 : bnd (bnd true ((nodC (reQ t resS 0 8)).all SC.sole && true)) ((nodC (reQ t resS 0 8)).all SC.plain && true) = true := by rw [nodC_sole, sole_plain' (nodC_sole _)]; rfl
  have hacc := planT_len t b (sideN 5 0) (sideN 5 1) (sideN 5 2) 0 (by decide)
  have hnext : planT t b (sideN 5 0) (sideN 5 1) (sideN 5 2) 0 ++ planP b 0 (resS t 0 8) = planT t b (sideN 5 0) (sideN 5 1) (sideN 5 2) (0 + 1) := rfl
  revert hacc hnext
  generalize planT t b (sideN 5 0) (sideN 5 1) (sideN 5 2) 0 = acc
  intro hacc hnext
  rw [← hnext] at hQ
  have fin : SWs Try.prog (atW w 0) (plO.drop 3) (poSt t b (nodC (sidesL 5)) ((0 : Nat) : Int) (acc ++ planP b 0 (resS t 0 8))) Q := by
    generalize acc ++ planP b 0 (resS t 0 8) = l at hQ
    cases l with
    | nil => exact SWs.doneL plL_ok Sp.mixed [] (po_c0 t resS b (nodC (sidesL 5))) rfl (bnd2 rfl hN) trivial (hQ _ rfl)
    | cons y r => exact SWs.doneL plL_ok Sp.mixed [] (po_d0 t resS b (nodC (sidesL 5)) (r.length + 1) (pairC (y :: r))) rfl (bnd2 rfl (hR (y :: r))) trivial (hQ _ rfl)
  cases acc with
  | nil =>
    refine SWs.stepL plL_ok Sp.mixed [] (po_a0 t resS b (nodC (sidesL 5))) (bnd2 rfl hN) trivial ?_
    refine SWs.enter (by kernel_rfl) ?_
    refine SWs.stepL plL_ok Sp.mixed [] (po_n50 t resS b) hB0 trivial ?_
    exact plan_inner w t b (nodC (sidesL 5)) 0 (resS t 0 8) [] (po_sd 5) hL hlen (by decide) fin
  | cons y r =>
    refine SWs.stepL plL_ok Sp.mixed [] (po_b0 t resS b (nodC (sidesL 5)) (r.length + 1) (pairC (y :: r))) (bnd2 rfl (hR (y :: r))) trivial ?_
    refine SWs.enter (by kernel_rfl) ?_
    refine SWs.stepL plL_ok Sp.mixed [] (po_r50 t resS b (r.length + 1) (pairC (y :: r))) (hB (y :: r)) trivial ?_
    exact plan_inner w t b (nodC (sidesL 5)) 0 (resS t 0 8) (y :: r) (po_sd 5) hL hlen (by omega) fin
theorem place_51 {Q : Out → St → Prop} (hQ : ∀ st, st = poSt t b (nodC (sidesL 5)) ((1 + 1 : Nat) : Int) (planT t b (sideN 5 0) (sideN 5 1) (sideN 5 2) 2) → Q .norm st) :
    SWs Try.prog (atW w 0) plO (poSt t b (nodC (sidesL 5)) ((1 : Nat) : Int) (planT t b (sideN 5 0) (sideN 5 1) (sideN 5 2) 1)) Q := by
  have hR : ∀ l, ((nodC (sidesL 5)).all SC.plain && true && ((pairC l).all SC.plain && true)) = true := fun l => by rw [po_sd, sole_plain' (pairC_sole l)]; rfl
  have hN : ((nodC (sidesL 5)).all SC.plain && true && true) = true := by rw [po_sd]; rfl
  have hL : ∀ x ∈ resS t 1 13, x < 15 := fun x hx => by have := resS_lt t 1 13 x hx (by decide); omega
  have hlen : (resS t 1 13).length ≤ 8 := Nat.le_trans (resS_len t 1 13) (by decide)
  have hB : ∀ l, bnd (bnd true ((nodC (reQ t resS 1 13)).all SC.sole && true)) ((nodC (reQ t resS 1 13)).all SC.plain && ((pairC l).all SC.plain && true)) = true := fun l => by rw [nodC_sole, sole_plain' (nodC_sole _), sole_plain' (pairC_sole l)]; rfl
  have hB0 : bnd (bnd true ((nodC (reQ t resS 1 13)).all SC.sole && true)) ((nodC (reQ t resS 1 13)).all SC.plain && true) = true := by rw [nodC_sole, sole_plain' (nodC_sole _)]; rfl
  have hacc := planT_len t b (sideN 5 0) (sideN 5 1) (sideN 5 2) 1 (by decide)
  have hnext : planT t b (sideN 5 0) (sideN 5 1) (sideN 5 2) 1 ++ planP b 1 (resS t 1 13) = planT t b (sideN 5 0) (sideN 5 1) (sideN 5 2) (1 + 1) := rfl
  revert hacc hnext
  generalize planT t b (sideN 5 0) (sideN 5 1) (sideN 5 2) 1 = acc
  intro hacc hnext
  rw [← hnext] at hQ
  have fin : SWs Try.prog (atW w 0) (plO.drop 3) (poSt t b (nodC (sidesL 5)) ((1 : Nat) : Int) (acc ++ planP b 1 (resS t 1 13))) Q := by
    generalize acc ++ planP b 1 (resS t 1 13) = l at hQ
    cases l with
    | nil => exact SWs.doneL plL_ok Sp.mixed [] (po_c1 t resS b (nodC (sidesL 5))) rfl (bnd2 rfl hN) trivial (hQ _ rfl)
    | cons y r => exact SWs.doneL plL_ok Sp.mixed [] (po_d1 t resS b (nodC (sidesL 5)) (r.length + 1) (pairC (y :: r))) rfl (bnd2 rfl (hR (y :: r))) trivial (hQ _ rfl)
  cases acc with
  | nil =>
    refine SWs.stepL plL_ok Sp.mixed [] (po_a1 t resS b (nodC (sidesL 5))) (bnd2 rfl hN) trivial ?_
    refine SWs.enter (by kernel_rfl) ?_
    refine SWs.stepL plL_ok Sp.mixed [] (po_n51 t resS b) hB0 trivial ?_
    exact plan_inner w t b (nodC (sidesL 5)) 1 (resS t 1 13) [] (po_sd 5) hL hlen (by decide) fin
  | cons y r =>
    refine SWs.stepL plL_ok Sp.mixed [] (po_b1 t resS b (nodC (sidesL 5)) (r.length + 1) (pairC (y :: r))) (bnd2 rfl (hR (y :: r))) trivial ?_
    refine SWs.enter (by kernel_rfl) ?_
    refine SWs.stepL plL_ok Sp.mixed [] (po_r51 t resS b (r.length + 1) (pairC (y :: r))) (hB (y :: r)) trivial ?_
    exact plan_inner w t b (nodC (sidesL 5)) 1 (resS t 1 13) (y :: r) (po_sd 5) hL hlen (by omega) fin
theorem place_52 {Q : Out → St → Prop} (hQ : ∀ st, st = poSt t b (nodC (sidesL 5)) ((2 + 1 : Nat) : Int) (planT t b (sideN 5 0) (sideN 5 1) (sideN 5 2) 3) → Q .norm st) :
    SWs Try.prog (atW w 0) plO (poSt t b (nodC (sidesL 5)) ((2 : Nat) : Int) (planT t b (sideN 5 0) (sideN 5 1) (sideN 5 2) 2)) Q := by
  have hR : ∀ l, ((nodC (sidesL 5)).all SC.plain && true && ((pairC l).all SC.plain && true)) = true := fun l => by rw [po_sd, sole_plain' (pairC_sole l)]; rfl
  have hN : ((nodC (sidesL 5)).all SC.plain && true && true) = true := by rw [po_sd]; rfl
  have hL : ∀ x ∈ resS t 2 3, x < 15 := fun x hx => by have := resS_lt t 2 3 x hx (by decide); omega
  have hlen : (resS t 2 3).length ≤ 8 := Nat.le_trans (resS_len t 2 3) (by decide)
  have hB : ∀ l, bnd (bnd true ((nodC (reQ t resS 2 3)).all SC.sole && true)) ((nodC (reQ t resS 2 3)).all SC.plain && ((pairC l).all SC.plain && true)) = true := fun l => by rw [nodC_sole, sole_plain' (nodC_sole _), sole_plain' (pairC_sole l)]; rfl
  have hB0 : bnd (bnd true ((nodC (reQ t resS 2 3)).all SC.sole && true)) ((nodC (reQ t resS 2 3)).all SC.plain && true) = true := by rw [nodC_sole, sole_plain' (nodC_sole _)]; rfl
  have hacc := planT_len t b (sideN 5 0) (sideN 5 1) (sideN 5 2) 2 (by decide)
  have hnext : planT t b (sideN 5 0) (sideN 5 1) (sideN 5 2) 2 ++ planP b 2 (resS t 2 3) = planT t b (sideN 5 0) (sideN 5 1) (sideN 5 2) (2 + 1) := rfl
  revert hacc hnext
  generalize planT t b (sideN 5 0) (sideN 5 1) (sideN 5 2) 2 = acc
  intro hacc hnext
  rw [← hnext] at hQ
  have fin : SWs Try.prog (atW w 0) (plO.drop 3) (poSt t b (nodC (sidesL 5)) ((2 : Nat) : Int) (acc ++ planP b 2 (resS t 2 3))) Q := by
    generalize acc ++ planP b 2 (resS t 2 3) = l at hQ
    cases l with
    | nil => exact SWs.doneL plL_ok Sp.mixed [] (po_c2 t resS b (nodC (sidesL 5))) rfl (bnd2 rfl hN) trivial (hQ _ rfl)
    | cons y r => exact SWs.doneL plL_ok Sp.mixed [] (po_d2 t resS b (nodC (sidesL 5)) (r.length + 1) (pairC (y :: r))) rfl (bnd2 rfl (hR (y :: r))) trivial (hQ _ rfl)
  cases acc with
  | nil =>
    refine SWs.stepL plL_ok Sp.mixed [] (po_a2 t resS b (nodC (sidesL 5))) (bnd2 rfl hN) trivial ?_
    refine SWs.enter (by kernel_rfl) ?_
    refine SWs.stepL plL_ok Sp.mixed [] (po_n52 t resS b) hB0 trivial ?_
    exact plan_inner w t b (nodC (sidesL 5)) 2 (resS t 2 3) [] (po_sd 5) hL hlen (by decide) fin
  | cons y r =>
    refine SWs.stepL plL_ok Sp.mixed [] (po_b2 t resS b (nodC (sidesL 5)) (r.length + 1) (pairC (y :: r))) (bnd2 rfl (hR (y :: r))) trivial ?_
    refine SWs.enter (by kernel_rfl) ?_
    refine SWs.stepL plL_ok Sp.mixed [] (po_r52 t resS b (r.length + 1) (pairC (y :: r))) (hB (y :: r)) trivial ?_
    exact plan_inner w t b (nodC (sidesL 5)) 2 (resS t 2 3) (y :: r) (po_sd 5) hL hlen (by omega) fin
theorem place_60 {Q : Out → St → Prop} (hQ : ∀ st, st = poSt t b (nodC (sidesL 6)) ((0 + 1 : Nat) : Int) (planT t b (sideN 6 0) (sideN 6 1) (sideN 6 2) 1) → Q .norm st) :
    SWs Try.prog (atW w 0) plO (poSt t b (nodC (sidesL 6)) ((0 : Nat) : Int) (planT t b (sideN 6 0) (sideN 6 1) (sideN 6 2) 0)) Q := by
  have hR : ∀ l, ((nodC (sidesL 6)).all SC.plain && true && ((pairC l).all SC.plain && true)) = true := fun l => by rw [po_sd, sole_plain' (pairC_sole l)]; rfl
  have hN : ((nodC (sidesL 6)).all SC.plain && true && true) = true := by rw [po_sd]; rfl
  have hL : ∀ x ∈ resS t 0 14, x < 15 := fun x hx => by have := resS_lt t 0 14 x hx (by decide); omega
  have hlen : (resS t 0 14).length ≤ 8 := Nat.le_trans (resS_len t 0 14) (by decide)
  have hB : ∀ l, bnd (bnd true ((nodC (reQ t resS 0 14)).all SC.sole && true)) ((nodC (reQ t resS 0 14)).all SC.plain && ((pairC l).all SC.plain && true)) = true := fun l => by rw [nodC_sole, sole_plain' (nodC_sole _), sole_plain' (pairC_sole l)]; rfl
  have hB0 : bnd (bnd true ((nodC (reQ t resS 0 14)).all SC.sole && true)) ((nodC (reQ t resS 0 14)).all SC.plain && true) = true := by rw [nodC_sole, sole_plain' (nodC_sole _)]; rfl
  have hacc := planT_len t b (sideN 6 0) (sideN 6 1) (sideN 6 2) 0 (by decide)
  have hnext : planT t b (sideN 6 0) (sideN 6 1) (sideN 6 2) 0 ++ planP b 0 (resS t 0 14) = planT t b (sideN 6 0) (sideN 6 1) (sideN 6 2) (0 + 1) := rfl
  revert hacc hnext
  generalize planT t b (sideN 6 0) (sideN 6 1) (sideN 6 2) 0 = acc
  intro hacc hnext
  rw [← hnext] at hQ
  have fin : SWs Try.prog (atW w 0) (plO.drop 3) (poSt t b (nodC (sidesL 6)) ((0 : Nat) : Int) (acc ++ planP b 0 (resS t 0 14))) Q := by
    generalize acc ++ planP b 0 (resS t 0 14) = l at hQ
    cases l with
    | nil => exact SWs.doneL plL_ok Sp.mixed [] (po_c0 t resS b (nodC (sidesL 6))) rfl (bnd2 rfl hN) trivial (hQ _ rfl)
    | cons y r => exact SWs.doneL plL_ok Sp.mixed [] (po_d0 t resS b (nodC (sidesL 6)) (r.length + 1) (pairC (y :: r))) rfl (bnd2 rfl (hR (y :: r))) trivial (hQ _ rfl)
  cases acc with
  | nil =>
    refine SWs.stepL plL_ok Sp.mixed [] (po_a0 t resS b (nodC (sidesL 6))) (bnd2 rfl hN) trivial ?_
    refine SWs.enter (by kernel_rfl) ?_
    refine SWs.stepL plL_ok Sp.mixed [] (po_n60 t resS b) hB0 trivial ?_
    exact plan_inner w t b (nodC (sidesL 6)) 0 (resS t 0 14) [] (po_sd 6) hL hlen (by decide) fin
  | cons y r =>
    refine SWs.stepL plL_ok Sp.mixed [] (po_b0 t resS b (nodC (sidesL 6)) (r.length + 1) (pairC (y :: r))) (bnd2 rfl (hR (y :: r))) trivial ?_
    refine SWs.enter (by kernel_rfl) ?_
    refine SWs.stepL plL_ok Sp.mixed [] (po_r60 t resS b (r.length + 1) (pairC (y :: r))) (hB (y :: r)) trivial ?_
    exact plan_inner w t b (nodC (sidesL 6)) 0 (resS t 0 14) (y :: r) (po_sd 6) hL hlen (by omega) fin
theorem place_61 {Q : Out → St → Prop} (hQ : ∀ st, st = poSt t b (nodC (sidesL 6)) ((1 + 1 : Nat) : Int) (planT t b (sideN 6 0) (sideN 6 1) (sideN 6 2) 2) → Q .norm st) :
    SWs Try.prog (atW w 0) plO (poSt t b (nodC (sidesL 6)) ((1 : Nat) : Int) (planT t b (sideN 6 0) (sideN 6 1) (sideN 6 2) 1)) Q := by
  have hR : ∀ l, ((nodC (sidesL 6)).all SC.plain && true && ((pairC l).all SC.plain && true)) = true := fun l => by rw [po_sd, sole_plain' (pairC_sole l)]; rfl
  have hN : ((nodC (sidesL 6)).all SC.plain && true && true) = true := by rw [po_sd]; rfl
  have hL : ∀ x ∈ resS t 1 9, x < 15 := fun x hx => by have := resS_lt t 1 9 x hx (by decide); omega
  have hlen : (resS t 1 9).length ≤ 8 := Nat.le_trans (resS_len t 1 9) (by decide)
  have hB : ∀ l, bnd (bnd true ((nodC (reQ t resS 1 9)).all SC.sole && true)) ((nodC (reQ t resS 1 9)).all SC.plain && ((pairC l).all SC.plain && true)) = true := fun l => by rw [nodC_sole, sole_plain' (nodC_sole _), sole_plain' (pairC_sole l)]; rfl
  have hB0 : bnd (bnd true ((nodC (reQ t resS 1 9)).all SC.sole && true)) ((nodC (reQ t resS 1 9)).all SC.plain && true) = true := by rw [nodC_sole, sole_plain' (nodC_sole _)]; rfl
  have hacc := planT_len t b (sideN 6 0) (sideN 6 1) (sideN 6 2) 1 (by decide)
  have hnext : planT t b (sideN 6 0) (sideN 6 1) (sideN 6 2) 1 ++ planP b 1 (resS t 1 9) = planT t b (sideN 6 0) (sideN 6 1) (sideN 6 2) (1 + 1) := rfl
  revert hacc hnext
  generalize planT t b (sideN 6 0) (sideN 6 1) (sideN 6 2) 1 = acc
  intro hacc hnext
  rw [← hnext] at hQ
  have fin : SWs Try.prog (atW w 0) (plO.drop 3) (poSt t b (nodC (sidesL 6)) ((1 : Nat) : Int) (acc ++ planP b 1 (resS t 1 9))) Q := by
    generalize acc ++ planP b 1 (resS t 1 9) = l at hQ
    cases l with
    | nil => exact SWs.doneL plL_ok Sp.mixed [] (po_c1 t resS b (nodC (sidesL 6))) rfl (bnd2 rfl hN) trivial (hQ _ rfl)
    | cons y r => exact SWs.doneL plL_ok Sp.mixed [] (po_d1 t resS b (nodC (sidesL 6)) (r.length + 1) (pairC (y :: r))) rfl (bnd2 rfl (hR (y :: r))) trivial (hQ _ rfl)
  cases acc with
  | nil =>
    refine SWs.stepL plL_ok Sp.mixed [] (po_a1 t resS b (nodC (sidesL 6))) (bnd2 rfl hN) trivial ?_
    refine SWs.enter (by kernel_rfl) ?_
    refine SWs.stepL plL_ok Sp.mixed [] (po_n61 t resS b) hB0 trivial ?_
    exact plan_inner w t b (nodC (sidesL 6)) 1 (resS t 1 9) [] (po_sd 6) hL hlen (by decide) fin
  | cons y r =>
    refine SWs.stepL plL_ok Sp.mixed [] (po_b1 t resS b (nodC (sidesL 6)) (r.length + 1) (pairC (y :: r))) (bnd2 rfl (hR (y :: r))) trivial ?_
    refine SWs.enter (by kernel_rfl) ?_
    refine SWs.stepL plL_ok Sp.mixed [] (po_r61 t resS b (r.length + 1) (pairC (y :: r))) (hB (y :: r)) trivial ?_
    exact plan_inner w t b (nodC (sidesL 6)) 1 (resS t 1 9) (y :: r) (po_sd 6) hL hlen (by omega) fin
theorem place_62 {Q : Out → St → Prop} (hQ : ∀ st, st = poSt t b (nodC (sidesL 6)) ((2 + 1 : Nat) : Int) (planT t b (sideN 6 0) (sideN 6 1) (sideN 6 2) 3) → Q .norm st) :
    SWs Try.prog (atW w 0) plO (poSt t b (nodC (sidesL 6)) ((2 : Nat) : Int) (planT t b (sideN 6 0) (sideN 6 1) (sideN 6 2) 2)) Q := by
  have hR : ∀ l, ((nodC (sidesL 6)).all SC.plain && true && ((pairC l).all SC.plain && true)) = true := fun l => by rw [po_sd, sole_plain' (pairC_sole l)]; rfl
  have hN : ((nodC (sidesL 6)).all SC.plain && true && true) = true := by rw [po_sd]; rfl
  have hL : ∀ x ∈ resS t 2 3, x < 15 := fun x hx => by have := resS_lt t 2 3 x hx (by decide); omega
  have hlen : (resS t 2 3).length ≤ 8 := Nat.le_trans (resS_len t 2 3) (by decide)
  have hB : ∀ l, bnd (bnd true ((nodC (reQ t resS 2 3)).all SC.sole && true)) ((nodC (reQ t resS 2 3)).all SC.plain && ((pairC l).all SC.plain && true)) = true := fun l => by rw [nodC_sole, sole_plain' (nodC_sole _), sole_plain' (pairC_sole l)]; rfl
  have hB0 : bnd (bnd true ((nodC (reQ t resS 2 3)).all SC.sole && true)) ((nodC (reQ t resS 2 3)).all SC.plain && true) = true := by rw [nodC_sole, sole_plain' (nodC_sole _)]; rfl
  have hacc := planT_len t b (sideN 6 0) (sideN 6 1) (sideN 6 2) 2 (by decide)
  have hnext : planT t b (sideN 6 0) (sideN 6 1) (sideN 6 2) 2 ++ planP b 2 (resS t 2 3) = planT t b (sideN 6 0) (sideN 6 1) (sideN 6 2) (2 + 1) := rfl
  revert hacc hnext
  generalize planT t b (sideN 6 0) (sideN 6 1) (sideN 6 2) 2 = acc
  intro hacc hnext
  rw [← hnext] at hQ
  have fin : SWs Try.prog (atW w 0) (plO.drop 3) (poSt t b (nodC (sidesL 6)) ((2 : Nat) : Int) (acc ++ planP b 2 (resS t 2 3))) Q := by
    generalize acc ++ planP b 2 (resS t 2 3) = l at hQ
    cases l with
    | nil => exact SWs.doneL plL_ok Sp.mixed [] (po_c2 t resS b (nodC (sidesL 6))) rfl (bnd2 rfl hN) trivial (hQ _ rfl)
    | cons y r => exact SWs.doneL plL_ok Sp.mixed [] (po_d2 t resS b (nodC (sidesL 6)) (r.length + 1) (pairC (y :: r))) rfl (bnd2 rfl (hR (y :: r))) trivial (hQ _ rfl)
  cases acc with
  | nil =>
    refine SWs.stepL plL_ok Sp.mixed [] (po_a2 t resS b (nodC (sidesL 6))) (bnd2 rfl hN) trivial ?_
    refine SWs.enter (by kernel_rfl) ?_
    refine SWs.stepL plL_ok Sp.mixed [] (po_n62 t resS b) hB0 trivial ?_
    exact plan_inner w t b (nodC (sidesL 6)) 2 (resS t 2 3) [] (po_sd 6) hL hlen (by decide) fin
  | cons y r =>
    refine SWs.stepL plL_ok Sp.mixed [] (po_b2 t resS b (nodC (sidesL 6)) (r.length + 1) (pairC (y :: r))) (bnd2 rfl (hR (y :: r))) trivial ?_
    refine SWs.enter (by kernel_rfl) ?_
    refine SWs.stepL plL_ok Sp.mixed [] (po_r62 t resS b (r.length + 1) (pairC (y :: r))) (hB (y :: r)) trivial ?_
    exact plan_inner w t b (nodC (sidesL 6)) 2 (resS t 2 3) (y :: r) (po_sd 6) hL hlen (by omega) fin
theorem place_70 {Q : Out → St → Prop} (hQ : ∀ st, st = poSt t b (nodC (sidesL 7)) ((0 + 1 : Nat) : Int) (planT t b (sideN 7 0) (sideN 7 1) (sideN 7 2) 1) → Q .norm st) :
    SWs Try.prog (atW w 0) plO (poSt t b (nodC (sidesL 7)) ((0 : Nat) : Int) (planT t b (sideN 7 0) (sideN 7 1) (sideN 7 2) 0)) Q := by
  have hR : ∀ l, ((nodC (sidesL 7)).all SC.plain && true && ((pairC l).all SC.plain && true)) = true := fun l => by rw [po_sd, sole_plain' (pairC_sole l)]; rfl
  have hN : ((nodC (sidesL 7)).all SC.plain && true && true) = true := by rw [po_sd]; rfl
  have hL : ∀ x ∈ resS t 0 12, x < 15 := fun x hx => by have := resS_lt t 0 12 x hx (by decide); omega
  have hlen : (resS t 0 12).length ≤ 8 := Nat.le_trans (resS_len t 0 12) (by decide)
  have hB : ∀ l, bnd (bnd true ((nodC (reQ t resS 0 12)).all SC.sole && true)) ((nodC (reQ t resS 0 12)).all SC.plain && ((pairC l).all SC.plain && true)) = true := fun l => by rw [nodC_sole, sole_plain' (nodC_sole _), sole_plain' (pairC_sole l)]; rfl
  have hB0 : bnd (bnd true ((nodC (reQ t resS 0 12)).all SC.sole && true)) ((nodC (reQ t resS 0 12)).all SC.plain && true) = true := by rw [nodC_sole, sole_plain' (nodC_sole _)]; rfl
  have hacc := planT_len t b (sideN 7 0) (sideN 7 1) (sideN 7 2) 0 (by decide)
  have hnext : planT t b (sideN 7 0) (sideN 7 1) (sideN 7 2) 0 ++ planP b 0 (resS t 0 12) = planT t b (sideN 7 0) (sideN 7 1) (sideN 7 2) (0 + 1) := rfl
  revert hacc hnext
  generalize planT t b (sideN 7 0) (sideN 7 1) (sideN 7 2) 0 = acc
  intro hacc hnext
  rw [← hnext] at hQ
  have fin : SWs Try.prog (atW w 0) (plO.drop 3) (poSt t b (nodC (sidesL 7)) ((0 : Nat) : Int) (acc ++ planP b 0 (resS t 0 12))) Q := by
    generalize acc ++ planP b 0 (resS t 0 12) = l at hQ
    cases l with
    | nil => exact SWs.doneL plL_ok Sp.mixed [] (po_c0 t resS b (nodC (sidesL 7))) rfl (bnd2 rfl hN) trivial (hQ _ rfl)
    | cons y r => exact SWs.doneL plL_ok Sp.mixed [] (po_d0 t resS b (nodC (sidesL 7)) (r.length + 1) (pairC (y :: r))) rfl (bnd2 rfl (hR (y :: r))) trivial (hQ _ rfl)
  cases acc with
  | nil =>
    refine SWs.stepL plL_ok Sp.mixed [] (po_a0 t resS b (nodC (sidesL 7))) (bnd2 rfl hN) trivial ?_
    refine SWs.enter (by kernel_rfl) ?_
    refine SWs.stepL plL_ok Sp.mixed [] (po_n70 t resS b) hB0 trivial ?_
    exact plan_inner w t b (nodC (sidesL 7)) 0 (resS t 0 12) [] (po_sd 7) hL hlen (by decide) fin
  | cons y r =>
    refine SWs.stepL plL_ok Sp.mixed [] (po_b0 t resS b (nodC (sidesL 7)) (r.length + 1) (pairC (y :: r))) (bnd2 rfl (hR (y :: r))) trivial ?_
    refine SWs.enter (by kernel_rfl) ?_
    refine SWs.stepL plL_ok Sp.mixed [] (po_r70 t resS b (r.length + 1) (pairC (y :: r))) (hB (y :: r)) trivial ?_
    exact plan_inner w t b (nodC (sidesL 7)) 0 (resS t 0 12) (y :: r) (po_sd 7) hL hlen (by omega) fin
theorem place_71 {Q : Out → St → Prop} (hQ : ∀ st, st = poSt t b (nodC (sidesL 7)) ((1 + 1 : Nat) : Int) (planT t b (sideN 7 0) (sideN 7 1) (sideN 7 2) 2) → Q .norm st) :
    SWs Try.prog (atW w 0) plO (poSt t b (nodC (sidesL 7)) ((1 : Nat) : Int) (planT t b (sideN 7 0) (sideN 7 1) (sideN 7 2) 1)) Q := by
  have hR : ∀ l, ((nodC (sidesL 7)).all SC.plain && true && ((pairC l).all SC.plain && true)) = true := fun l => by rw [po_sd, sole_plain' (pairC_sole l)]; rfl
  have hN : ((nodC (sidesL 7)).all SC.plain && true && true) = true := by rw [po_sd]; rfl
  have hL : ∀ x ∈ resS t 1 9, x < 15 := fun x hx => by have := resS_lt t 1 9 x hx (by decide); omega
  have hlen : (resS t 1 9).length ≤ 8 := Nat.le_trans (resS_len t 1 9) (by decide)
  have hB : ∀ l, bnd (bnd true ((nodC (reQ t resS 1 9)).all SC.sole && true)) ((nodC (reQ t resS 1 9)).all SC.plain && ((pairC l).all SC.plain && true)) = true := fun l => by rw [nodC_sole, sole_plain' (nodC_sole _), sole_plain' (pairC_sole l)]; rfl
  have hB0 : bnd (bnd true ((nodC (reQ t resS 1 9)).all SC.sole && true)) ((nodC (reQ t resS 1 9)).all SC.plain && true) = true := by rw [nodC_sole, sole_plain' (nodC_sole _)]; rfl
  have hacc := planT_len t b (sideN 7 0) (sideN 7 1) (sideN 7 2) 1 (by decide)
  have hnext : planT t b (sideN 7 0) (sideN 7 1) (sideN 7 2) 1 ++ planP b 1 (resS t 1 9) = planT t b (sideN 7 0) (sideN 7 1) (sideN 7 2) (1 + 1) := rfl
  revert hacc hnext
  generalize planT t b (sideN 7 0) (sideN 7 1) (sideN 7 2) 1 = acc
  intro hacc hnext
  rw [← hnext] at hQ
  have fin : SWs Try.prog (atW w 0) (plO.drop 3) (poSt t b (nodC (sidesL 7)) ((1 : Nat) : Int) (acc ++ planP b 1 (resS t 1 9))) Q := by
    generalize acc ++ planP b 1 (resS t 1 9) = l at hQ
    cases l with
    | nil => exact SWs.doneL plL_ok Sp.mixed [] (po_c1 t resS b (nodC (sidesL 7))) rfl (bnd2 rfl hN) trivial (hQ _ rfl)
    | cons y r => exact SWs.doneL plL_ok Sp.mixed [] (po_d1 t resS b (nodC (sidesL 7)) (r.length + 1) (pairC (y :: r))) rfl (bnd2 rfl (hR (y :: r))) trivial (hQ _ rfl)
  cases acc with
  | nil =>
    refine SWs.stepL plL_ok Sp.mixed [] (po_a1 t resS b (nodC (sidesL 7))) (bnd2 rfl hN) trivial ?_
    refine SWs.enter (by kernel_rfl) ?_
    refine SWs.stepL plL_ok Sp.mixed [] (po_n71 t resS b) hB0 trivial ?_
    exact plan_inner w t b (nodC (sidesL 7)) 1 (resS t 1 9) [] (po_sd 7) hL hlen (by decide) fin
  | cons y r =>
    refine SWs.stepL plL_ok Sp.mixed [] (po_b1 t resS b (nodC (sidesL 7)) (r.length + 1) (pairC (y :: r))) (bnd2 rfl (hR (y :: r))) trivial ?_
    refine SWs.enter (by kernel_rfl) ?_
    refine SWs.stepL plL_ok Sp.mixed [] (po_r71 t resS b (r.length + 1) (pairC (y :: r))) (hB (y :: r)) trivial ?_
    exact plan_inner w t b (nodC (sidesL 7)) 1 (resS t 1 9) (y :: r) (po_sd 7) hL hlen (by omega) fin
theorem place_72 {Q : Out → St → Prop} (hQ : ∀ st, st = poSt t b (nodC (sidesL 7)) ((2 + 1 : Nat) : Int) (planT t b (sideN 7 0) (sideN 7 1) (sideN 7 2) 3) → Q .norm st) :
    SWs Try.prog (atW w 0) plO (poSt t b (nodC (sidesL 7)) ((2 : Nat) : Int) (planT t b (sideN 7 0) (sideN 7 1) (sideN 7 2) 2)) Q := by
  have hR : ∀ l, ((nodC (sidesL 7)).all SC.plain && true && ((pairC l).all SC.plain && true)) = true := fun l => by rw [po_sd, sole_plain' (pairC_sole l)]; rfl
  have hN : ((nodC (sidesL 7)).all SC.plain && true && true) = true := by rw [po_sd]; rfl
  have hL : ∀ x ∈ resS t 2 3, x < 15 := fun x hx => by have := resS_lt t 2 3 x hx (by decide); omega
  have hlen : (resS t 2 3).length ≤ 8 := Nat.le_trans (resS_len t 2 3) (by decide)
  have hB : ∀ l, bnd (bnd true ((nodC (reQ t resS 2 3)).all SC.sole && true)) ((nodC (reQ t resS 2 3)).all SC.plain && ((pairC l).all SC.plain && true)) = true := fun l => by rw [nodC_sole, sole_plain' (nodC_sole _), sole_plain' (pairC_sole l)]; rfl
  have hB0 : bnd (bnd true ((nodC (reQ t resS 2 3)).all SC.sole && true)) ((nodC (reQ t resS 2 3)).all SC.plain && true) = true := by rw [nodC_sole, sole_plain' (nodC_sole _)]; rfl
  have hacc := planT_len t b (sideN 7 0) (sideN 7 1) (sideN 7 2) 2 (by decide)
  have hnext : planT t b (sideN 7 0) (sideN 7 1) (sideN 7 2) 2 ++ planP b 2 (resS t 2 3) = planT t b (sideN 7 0) (sideN 7 1) (sideN 7 2) (2 + 1) := rfl
  revert hacc hnext
  generalize planT t b (sideN 7 0) (sideN 7 1) (sideN 7 2) 2 = acc
  intro hacc hnext
  rw [← hnext] at hQ
  have fin : SWs Try.prog (atW w 0) (plO.drop 3) (poSt t b (nodC (sidesL 7)) ((2 : Nat) : Int) (acc ++ planP b 2 (resS t 2 3))) Q := by
    generalize acc ++ planP b 2 (resS t 2 3) = l at hQ
    cases l with
    | nil => exact SWs.doneL plL_ok Sp.mixed [] (po_c2 t resS b (nodC (sidesL 7))) rfl (bnd2 rfl hN) trivial (hQ _ rfl)
    | cons y r => exact SWs.doneL plL_ok Sp.mixed [] (po_d2 t resS b (nodC (sidesL 7)) (r.length + 1) (pairC (y :: r))) rfl (bnd2 rfl (hR (y :: r))) trivial (hQ _ rfl)
  cases acc with
  | nil =>
    refine SWs.stepL plL_ok Sp.mixed [] (po_a2 t resS b (nodC (sidesL 7))) (bnd2 rfl hN) trivial ?_
    refine SWs.enter (by kernel_rfl) ?_
    refine SWs.stepL plL_ok Sp.mixed [] (po_n72 t resS b) hB0 trivial ?_
    exact plan_inner w t b (nodC (sidesL 7)) 2 (resS t 2 3) [] (po_sd 7) hL hlen (by decide) fin
  | cons y r =>
    refine SWs.stepL plL_ok Sp.mixed [] (po_b2 t resS b (nodC (sidesL 7)) (r.length + 1) (pairC (y :: r))) (bnd2 rfl (hR (y :: r))) trivial ?_
    refine SWs.enter (by kernel_rfl) ?_
    refine SWs.stepL plL_ok Sp.mixed [] (po_r72 t resS b (r.length + 1) (pairC (y :: r))) (hB (y :: r)) trivial ?_
    exact plan_inner w t b (nodC (sidesL 7)) 2 (resS t 2 3) (y :: r) (po_sd 7) hL hlen (by omega) fin
end
theorem FinQ_mono {P : Program} {f : FuncId} {Post Post' : SV → Tab → Prop} {o : Out} {st : St} (hp : ∀ v T, Post v T → Post' v T) (h : FinQ P f Post o st) : FinQ P f Post' o st := by
  obtain ⟨h1, fn, v, h2, h3, h4⟩ := h
  exact ⟨h1, fn, v, h2, h3, hp _ _ h4⟩
theorem plan_end (t : Tr) (b : Nat → Bool) (w : World) (sd : List SC) (l : List (Nat × Nat)) : SWs Try.prog (atW w 0) ((bodyOf Try.prog fPlan).drop 6) (poSt t b sd 3 l) (FinQ Try.prog fPlan fun v T => rowIs 2 l.length 34 (pairC l) v T) := by
  cases l with
  | nil =>
    refine SWs.mono (fun o st h => FinQ_mono (fun v T hv => .inr ⟨rfl, rfl, hv⟩) h) (SWs.finvL plL_ok Sp.mixed (Post := fun v => v = .c .nils) [] (po_fn t resS b sd) rfl trivial rfl)
  | cons y r =>
    refine SWs.mono (fun o st h => FinQ_mono (fun v T hv => .inl ⟨2, none, true, hv.1, hv.2⟩) h) (SWs.fintL plL_ok Sp.mixed [] (po_fr t resS b sd (r.length + 1) (pairC (y :: r))) rfl trivial)
theorem plan_0 (t : Tr) (b : Nat → Bool) (w : World) : Sx.Fn Try.prog fPlan (atW w 0) [.agg t.cs, .c (.int 0), .agg (whC b)] [] 0 fun v T => rowIs 2 (planS t b 0).length 34 (pairC (planS t b 0)) v T := by
  refine Sx.Fn.of (nt := 51) (by kernel_rfl) rfl ?_
  refine SWs.stepL plL_ok Sp.mixed [false, false] (po_s0 t resS b) rfl trivial ?_
  refine SWs.loop (by kernel_rfl) (fun k : Nat => poSt t b (nodC (sidesL 0)) (k : Nat) (planT t b (sideN 0 0) (sideN 0 1) (sideN 0 2) k)) (fun k => 3 - k) (fun k => k ≤ 3) 0 (by decide) ?_
  intro k hk
  have : k = 0 ∨ k = 1 ∨ k = 2 ∨ k = 3 := by omega
  rcases this with rfl | rfl | rfl | rfl
  · exact place_00 t b w fun st hst => ⟨1, by decide, by decide, hst⟩
  · exact place_01 t b w fun st hst => ⟨2, by decide, by decide, hst⟩
  · exact place_02 t b w fun st hst => ⟨3, by decide, by decide, hst⟩
  · have he := plan_end t b w (nodC (sidesL 0)) (planT t b (sideN 0 0) (sideN 0 1) (sideN 0 2) 3)
    show SWs Try.prog (atW w 0) plO (poSt t b (nodC (sidesL 0)) 3 (planT t b (sideN 0 0) (sideN 0 1) (sideN 0 2) 3)) _
    change SWs Try.prog (atW w 0) _ _ (FinQ Try.prog fPlan fun v T => rowIs 2 (planT t b (sideN 0 0) (sideN 0 1) (sideN 0 2) 3).length 34 (pairC (planT t b (sideN 0 0) (sideN 0 1) (sideN 0 2) 3)) v T) at he
    have hp : planS t b 0 = planT t b (sideN 0 0) (sideN 0 1) (sideN 0 2) 3 := rfl
    rw [hp]
    revert he
    generalize planT t b (sideN 0 0) (sideN 0 1) (sideN 0 2) 3 = l
    intro he
    cases l with
    | nil => exact SWs.outL plL_ok Sp.mixed [] (po_no t resS b (nodC (sidesL 0))) (bnd2 rfl (by rw [po_sd]; rfl)) trivial he
    | cons y r => exact SWs.outL plL_ok Sp.mixed [] (po_ro t resS b (nodC (sidesL 0)) (r.length + 1) (pairC (y :: r))) (bnd2 rfl (by rw [po_sd, sole_plain' (pairC_sole (y :: r))]; rfl)) trivial he
theorem plan_1 (t : Tr) (b : Nat → Bool) (w : World) : Sx.Fn Try.prog fPlan (atW w 0) [.agg t.cs, .c (.int 1), .agg (whC b)] [] 0 fun v T => rowIs 2 (planS t b 1).length 34 (pairC (planS t b 1)) v T := by
  refine Sx.Fn.of (nt := 51) (by kernel_rfl) rfl ?_
  refine SWs.stepL plL_ok Sp.mixed [false, false] (po_s1 t resS b) rfl trivial ?_
  refine SWs.loop (by kernel_rfl) (fun k : Nat => poSt t b (nodC (sidesL 1)) (k : Nat) (planT t b (sideN 1 0) (sideN 1 1) (sideN 1 2) k)) (fun k => 3 - k) (fun k => k ≤ 3) 0 (by decide) ?_
  intro k hk
  have : k = 0 ∨ k = 1 ∨ k = 2 ∨ k = 3 := by omega
  rcases this with rfl | rfl | rfl | rfl
  · exact place_10 t b w fun st hst => ⟨1, by decide, by decide, hst⟩
  · exact place_11 t b w fun st hst => ⟨2, by decide, by decide, hst⟩
  · exact place_12 t b w fun st hst => ⟨3, by decide, by decide, hst⟩
  · have he := plan_end t b w (nodC (sidesL 1)) (planT t b (sideN 1 0) (sideN 1 1) (sideN 1 2) 3)
    show SWs Try.prog (atW w 0) plO (poSt t b (nodC (sidesL 1)) 3 (planT t b (sideN 1 0) (sideN 1 1) (sideN 1 2) 3)) _
    change SWs Try.prog (atW w 0) _ _ (FinQ Try.prog fPlan fun v T => rowIs 2 (planT t b (sideN 1 0) (sideN 1 1) (sideN 1 2) 3).length 34 (pairC (planT t b (sideN 1 0) (sideN 1 1) (sideN 1 2) 3)) v T) at he
    have hp : planS t b 1 = planT t b (sideN 1 0) (sideN 1 1) (sideN 1 2) 3 := rfl
    rw [hp]
    revert he
    generalize planT t b (sideN 1 0) (sideN 1 1) (sideN 1 2) 3 = l
    intro he
    cases l with
    | nil => exact SWs.outL plL_ok Sp.mixed [] (po_no t resS b (nodC (sidesL 1))) (bnd2 rfl (by rw [po_sd]; rfl)) trivial he
    | cons y r => exact SWs.outL plL_ok Sp.mixed [] (po_ro t resS b (nodC (sidesL 1)) (r.length + 1) (pairC (y :: r))) (bnd2 rfl (by rw [po_sd, sole_plain' (pairC_sole (y :: r))]; rfl)) trivial he
theorem plan_2 (t : Tr) (b : Nat → Bool) (w : World) : Sx.Fn Try.prog fPlan (atW w 0) [.agg t.cs, .c (.int 2), .agg (whC b)] [] 0 fun v T => rowIs 2 (planS t b 2).length 34 (pairC (planS t b 2)) v T := by
  refine Sx.Fn.of (nt := 51) (by kernel_rfl) rfl ?_
  refine SWs.stepL plL_ok Sp.mixed [false, false] (po_s2 t resS b) rfl trivial ?_
  refine SWs.loop (by kernel_rfl) (fun k : Nat => poSt t b (nodC (sidesL 2)) (k : Nat) (planT t b (sideN 2 0) (sideN 2 1) (sideN 2 2) k)) (fun k => 3 - k) (fun k => k ≤ 3) 0 (by decide) ?_
  intro k hk
  have : k = 0 ∨ k = 1 ∨ k = 2 ∨ k = 3 := by omega
  rcases this with rfl | rfl | rfl | rfl
  · exact place_20 t b w fun st hst => ⟨1, by decide, by decide, hst⟩
  · exact place_21 t b w fun st hst => ⟨2, by decide, by decide, hst⟩
  · exact place_22 t b w fun st hst => ⟨3, by decide, by decide, hst⟩
  · have he := plan_end t b w (nodC (sidesL 2)) (planT t b (sideN 2 0) (sideN 2 1) (sideN 2 2) 3)
    show SWs Try.prog (atW w 0) plO (poSt t b (nodC (sidesL 2)) 3 (planT t b (sideN 2 0) (sideN 2 1) (sideN 2 2) 3)) _
    change SWs Try.prog (atW w 0) _ _ (FinQ Try.prog fPlan fun v T => rowIs 2 (planT t b (sideN 2 0) (sideN 2 1) (sideN 2 2) 3).length 34 (pairC (planT t b (sideN 2 0) (sideN 2 1) (sideN 2 2) 3)) v T) at he
    have hp : planS t b 2 = planT t b (sideN 2 0) (sideN 2 1) (sideN 2 2) 3 := rfl
    rw [hp]
    revert he
    generalize planT t b (sideN 2 0) (sideN 2 1) (sideN 2 2) 3 = l
    intro he
    cases l with
    | nil => exact SWs.outL plL_ok Sp.mixed [] (po_no t resS b (nodC (sidesL 2))) (bnd2 rfl (by rw [po_sd]; rfl)) trivial he
    | cons y r => exact SWs.outL plL_ok Sp.mixed [] (po_ro t resS b (nodC (sidesL 2)) (r.length + 1) (pairC (y :: r))) (bnd2 rfl (by rw [po_sd, sole_plain' (pairC_sole (y :: r))]; rfl)) trivial he
theorem plan_3 (t : Tr) (b : Nat → Bool) (w : World) : Sx.Fn Try.prog fPlan (atW w 0) [.agg t.cs, .c (.int 3), .agg (whC b)] [] 0 fun v T => rowIs 2 (planS t b 3).length 34 (pairC (planS t b 3)) v T := by
  refine Sx.Fn.of (nt := 51) (by kernel_rfl) rfl ?_
  refine SWs.stepL plL_ok Sp.mixed [false, false] (po_s3 t resS b) rfl trivial ?_
  refine SWs.loop (by kernel_rfl) (fun k : Nat => poSt t b (nodC (sidesL 3)) (k : Nat) (planT t b (sideN 3 0) (sideN 3 1) (sideN 3 2) k)) (fun k => 3 - k) (fun k => k ≤ 3) 0 (by decide) ?_
  intro k hk
  have : k = 0 ∨ k = 1 ∨ k = 2 ∨ k = 3 := by omega
  rcases this with rfl | rfl | rfl | rfl
  · exact place_30 t b w fun st hst => ⟨1, by decide, by decide, hst⟩
  · exact place_31 t b w fun st hst => ⟨2, by decide, by decide, hst⟩
  · exact place_32 t b w fun st hst => ⟨3, by decide, by decide, hst⟩
  · have he := plan_end t b w (nodC (sidesL 3)) (planT t b (sideN 3 0) (sideN 3 1) (sideN 3 2) 3)
    show SWs Try.prog (atW w 0) plO (poSt t b (nodC (sidesL 3)) 3 (planT t b (sideN 3 0) (sideN 3 1) (sideN 3 2) 3)) _
    change SWs Try.prog (atW w 0) _ _ (FinQ Try.prog fPlan fun v T => rowIs 2 (planT t b (sideN 3 0) (sideN 3 1) (sideN 3 2) 3).length 34 (pairC (planT t b (sideN 3 0) (sideN 3 1) (sideN 3 2) 3)) v T) at he
    have hp : planS t b 3 = planT t b (sideN 3 0) (sideN 3 1) (sideN 3 2) 3 := rfl
    rw [hp]
    revert he
    generalize planT t b (sideN 3 0) (sideN 3 1) (sideN 3 2) 3 = l
    intro he
    cases l with
    | nil => exact SWs.outL plL_ok Sp.mixed [] (po_no t resS b (nodC (sidesL 3))) (bnd2 rfl (by rw [po_sd]; rfl)) trivial he
    | cons y r => exact SWs.outL plL_ok Sp.mixed [] (po_ro t resS b (nodC (sidesL 3)) (r.length + 1) (pairC (y :: r))) (bnd2 rfl (by rw [po_sd, sole_plain' (pairC_sole (y :: r))]; rfl)) trivial he
theorem plan_4 (t : Tr) (b : Nat → Bool) (w : World) : Sx.Fn Try.prog fPlan (atW w 0) [.agg t.cs, .c (.int 4), .agg (whC b)] [] 0 fun v T => rowIs 2 (planS t b 4).length 34 (pairC (planS t b 4)) v T := by
  refine Sx.Fn.of (nt := 51) (by kernel_rfl) rfl ?_
  refine SWs.stepL plL_ok Sp.mixed [false, false] (po_s4 t resS b) rfl trivial ?_
  refine SWs.loop (by kernel_rfl) (fun k : Nat => poSt t b (nodC (sidesL 4)) (k : Nat) (planT t b (sideN 4 0) (sideN 4 1) (sideN 4 2) k)) (fun k => 3 - k) (fun k => k ≤ 3) 0 (by decide) ?_
  intro k hk
  have : k = 0 ∨ k = 1 ∨ k = 2 ∨ k = 3 := by omega
  rcases this with rfl | rfl | rfl | rfl
  · exact place_40 t b w fun st hst => ⟨1, by decide, by decide, hst⟩
  · exact place_41 t b w fun st hst => ⟨2, by decide, by decide, hst⟩
  · exact place_42 t b w fun st hst => ⟨3, by decide, by decide, hst⟩
  · have he := plan_end t b w (nodC (sidesL 4)) (planT t b (sideN 4 0) (sideN 4 1) (sideN 4 2) 3)
    show SWs Try.prog (atW w 0) plO (poSt t b (nodC (sidesL 4)) 3 (planT t b (sideN 4 0) (sideN 4 1) (sideN 4 2) 3)) _
    change SWs Try.prog (atW w 0) _ _ (FinQ Try.prog fPlan fun v T => rowIs 2 (planT t b (sideN 4 0) (sideN 4 1) (sideN 4 2) 3).length 34 (pairC (planT t b (sideN 4 0) (sideN 4 1) (sideN 4 2) 3)) v T) at he
    have hp : planS t b 4 = planT t b (sideN 4 0) (sideN 4 1) (sideN 4 2) 3 := rfl
    rw [hp]
    revert he
    generalize planT t b (sideN 4 0) (sideN 4 1) (sideN 4 2) 3 = l
    intro he
    cases l with
    | nil => exact SWs.outL plL_ok Sp.mixed [] (po_no t resS b (nodC (sidesL 4))) (bnd2 rfl (by rw [po_sd]; rfl)) trivial he
    | cons y r => exact SWs.outL plL_ok Sp.mixed [] (po_ro t resS b (nodC (sidesL 4)) (r.length + 1) (pairC (y :: r))) (bnd2 rfl (by rw [po_sd, sole_plain' (pairC_sole (y :: r))]; rfl)) trivial he
theorem plan_5 (t : Tr) (b : Nat → Bool) (w : World) : Sx.Fn Try.prog fPlan (atW w 0) [.agg t.cs, .c (.int 5), .agg (whC b)] [] 0 fun v T => rowIs 2 (planS t b 5).length 34 (pairC (planS t b 5)) v T := by
  refine Sx.Fn.of (nt := 51) (by kernel_rfl) rfl ?_
  refine SWs.stepL plL_ok Sp.mixed [false, false] (po_s5 t resS b) rfl trivial ?_
  refine SWs.loop (by kernel_rfl) (fun k : Nat => poSt t b (nodC (sidesL 5)) (k : Nat) (planT t b (sideN 5 0) (sideN 5 1) (sideN 5 2) k)) (fun k => 3 - k) (fun k => k ≤ 3) 0 (by decide) ?_
  intro k hk
  have : k = 0 ∨ k = 1 ∨ k = 2 ∨ k = 3 := by omega
  rcases this with rfl | rfl | rfl | rfl
  · exact place_50 t b w fun st hst => ⟨1, by decide, by decide, hst⟩
  · exact place_51 t b w fun st hst => ⟨2, by decide, by decide, hst⟩
  · exact place_52 t b w fun st hst => ⟨3, by decide, by decide, hst⟩
  · have he := plan_end t b w (nodC (sidesL 5)) (planT t b (sideN 5 0) (sideN 5 1) (sideN 5 2) 3)
    show SWs Try.prog (atW w 0) plO (poSt t b (nodC (sidesL 5)) 3 (planT t b (sideN 5 0) (sideN 5 1) (sideN 5 2) 3)) _
    change SWs Try.prog (atW w 0) _ _ (FinQ Try.prog fPlan fun v T => rowIs 2 (planT t b (sideN 5 0) (sideN 5 1) (sideN 5 2) 3).length 34 (pairC (planT t b (sideN 5 0) (sideN 5 1) (sideN 5 2) 3)) v T) at he
    have hp : planS t b 5 = planT t b (sideN 5 0) (sideN 5 1) (sideN 5 2) 3 := rfl
    rw [hp]
    revert he
    generalize planT t b (sideN 5 0) (sideN 5 1) (sideN 5 2) 3 = l
    intro he
    cases l with
    | nil => exact SWs.outL plL_ok Sp.mixed [] (po_no t resS b (nodC (sidesL 5))) (bnd2 rfl (by rw [po_sd]; rfl)) trivial he
    | cons y r => exact SWs.outL plL_ok Sp.mixed [] (po_ro t resS b (nodC (sidesL 5)) (r.length + 1) (pairC (y :: r))) (bnd2 rfl (by rw [po_sd, sole_plain' (pairC_sole (y :: r))]; rfl)) trivial he
theorem plan_6 (t : Tr) (b : Nat → Bool) (w : World) : Sx.Fn Try.prog fPlan (atW w 0) [.agg t.cs, .c (.int 6), .agg (whC b)] [] 0 fun v T => rowIs 2 (planS t b 6).length 34 (pairC (planS t b 6)) v T := by
  refine Sx.Fn.of (nt := 51) (by kernel_rfl) rfl ?_
  refine SWs.stepL plL_ok Sp.mixed [false, false] (po_s6 t resS b) rfl trivial ?_
  refine SWs.loop (by kernel_rfl) (fun k : Nat => poSt t b (nodC (sidesL 6)) (k : Nat) (planT t b (sideN 6 0) (sideN 6 1) (sideN 6 2) k)) (fun k => 3 - k) (fun k => k ≤ 3) 0 (by decide) ?_
  intro k hk
  have : k = 0 ∨ k = 1 ∨ k = 2 ∨ k = 3 := by omega
  rcases this with rfl | rfl | rfl | rfl
  · exact place_60 t b w fun st hst => ⟨1, by decide, by decide, hst⟩
  · exact place_61 t b w fun st hst => ⟨2, by decide, by decide, hst⟩
  · exact place_62 t b w fun st hst => ⟨3, by decide, by decide, hst⟩
  · have he := plan_end t b w (nodC (sidesL 6)) (planT t b (sideN 6 0) (sideN 6 1) (sideN 6 2) 3)
    show SWs Try.prog (atW w 0) plO (poSt t b (nodC (sidesL 6)) 3 (planT t b (sideN 6 0) (sideN 6 1) (sideN 6 2) 3)) _
    change SWs Try.prog (atW w 0) _ _ (FinQ Try.prog fPlan fun v T => rowIs 2 (planT t b (sideN 6 0) (sideN 6 1) (sideN 6 2) 3).length 34 (pairC (planT t b (sideN 6 0) (sideN 6 1) (sideN 6 2) 3)) v T) at he
    have hp : planS t b 6 = planT t b (sideN 6 0) (sideN 6 1) (sideN 6 2) 3 := rfl
    rw [hp]
    revert he
    generalize planT t b (sideN 6 0) (sideN 6 1) (sideN 6 2) 3 = l
    intro he
    cases l with
    | nil => exact SWs.outL plL_ok Sp.mixed [] (po_no t resS b (nodC (sidesL 6))) (bnd2 rfl (by rw [po_sd]; rfl)) trivial he
    | cons y r => exact SWs.outL plL_ok Sp.mixed [] (po_ro t resS b (nodC (sidesL 6)) (r.length + 1) (pairC (y :: r))) (bnd2 rfl (by rw [po_sd, sole_plain' (pairC_sole (y :: r))]; rfl)) trivial he
theorem plan_7 (t : Tr) (b : Nat → Bool) (w : World) : Sx.Fn Try.prog fPlan (atW w 0) [.agg t.cs, .c (.int 7), .agg (whC b)] [] 0 fun v T => rowIs 2 (planS t b 7).length 34 (pairC (planS t b 7)) v T := by
  refine Sx.Fn.of (nt := 51) (by kernel_rfl) rfl ?_
  refine SWs.stepL plL_ok Sp.mixed [false, false] (po_s7 t resS b) rfl trivial ?_
  refine SWs.loop (by kernel_rfl) (fun k : Nat => poSt t b (nodC (sidesL 7)) (k : Nat) (planT t b (sideN 7 0) (sideN 7 1) (sideN 7 2) k)) (fun k => 3 - k) (fun k => k ≤ 3) 0 (by decide) ?_
  intro k hk
  have : k = 0 ∨ k = 1 ∨ k = 2 ∨ k = 3 := by omega
  rcases this with rfl | rfl | rfl | rfl
  · exact place_70 t b w fun st hst => ⟨1, by decide, by decide, hst⟩
  · exact place_71 t b w fun st hst => ⟨2, by decide, by decide, hst⟩
  · exact place_72 t b w fun st hst => ⟨3, by decide, by decide, hst⟩
  · have he := plan_end t b w (nodC (sidesL 7)) (planT t b (sideN 7 0) (sideN 7 1) (sideN 7 2) 3)
    show SWs Try.prog (atW w 0) plO (poSt t b (nodC (sidesL 7)) 3 (planT t b (sideN 7 0) (sideN 7 1) (sideN 7 2) 3)) _
    change SWs Try.prog (atW w 0) _ _ (FinQ Try.prog fPlan fun v T => rowIs 2 (planT t b (sideN 7 0) (sideN 7 1) (sideN 7 2) 3).length 34 (pairC (planT t b (sideN 7 0) (sideN 7 1) (sideN 7 2) 3)) v T) at he
    have hp : planS t b 7 = planT t b (sideN 7 0) (sideN 7 1) (sideN 7 2) 3 := rfl
    rw [hp]
    revert he
    generalize planT t b (sideN 7 0) (sideN 7 1) (sideN 7 2) 3 = l
    intro he
    cases l with
    | nil => exact SWs.outL plL_ok Sp.mixed [] (po_no t resS b (nodC (sidesL 7))) (bnd2 rfl (by rw [po_sd]; rfl)) trivial he
    | cons y r => exact SWs.outL plL_ok Sp.mixed [] (po_ro t resS b (nodC (sidesL 7)) (r.length + 1) (pairC (y :: r))) (bnd2 rfl (by rw [po_sd, sole_plain' (pairC_sole (y :: r))]; rfl)) trivial he
end Go.Proofs.Ytkpdkfeklecehaa.Ld
