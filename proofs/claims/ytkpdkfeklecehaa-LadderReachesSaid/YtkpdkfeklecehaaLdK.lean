/-
  For whom boxes are made: what the walk answers.
-/
import Derived.Test.YtkpdkfeklecehaaLdF
namespace Go.Proofs.Ytkpdkfeklecehaa.Ld
open Go.RowKit Go.Proofs.Ytkpdkfeklecehaa.Sx Go.Proofs.Ytkpdkfeklecehaa.Pw Go.Proofs.Ytkpdkfeklecehaa.Vw
set_option linter.unusedVariables false
set_option linter.unusedSimpArgs false
set_option maxRecDepth 10000

theorem resS_lt (t : Tr) : ∀ d n x, x ∈ resS t d n → 2 ^ d ≤ n + 1 → x < n + 2 ^ d
  | 0, n, x, h, _ => by
    unfold resS at h
    cases hk : keyN t n != 0 with
    | true => rw [hk, cond_true, List.mem_singleton] at h; omega
    | false => rw [hk] at h; simp at h
  | d + 1, n, x, h, hd => by
    have hp : 1 ≤ 2 ^ d := Nat.one_le_two_pow
    rw [Nat.pow_succ] at hd ⊢
    unfold resS at h
    cases hk : keyN t n != 0 with
    | true => rw [hk, cond_true, List.mem_singleton] at h; omega
    | false =>
      rw [hk, cond_false, List.mem_append] at h
      rcases h with h | h
      · have := resS_lt t d _ x h (by omega); omega
      · have := resS_lt t d _ x h (by omega); omega
/-- Is a node not left out? -/
def selP (b : Nat → Bool) (n : Nat) : Bool := bif Nat.beq (n % 2) 0 then !b (n / 2) else true
def planP (b : Nat → Bool) (p : Nat) (L : List Nat) : List (Nat × Nat) := (L.filter (selP b)).map fun n => (p, n)
def pairC : List (Nat × Nat) → List SC
  | [] => []
  | x :: l => [.int (Int.ofNat x.1), .int (Int.ofNat x.2)] ++ pairC l
theorem pairC_len : ∀ l, (pairC l).length = l.length * 2
  | [] => rfl
  | x :: l => by
    show ([SC.int (Int.ofNat x.1), SC.int (Int.ofNat x.2)] ++ pairC l).length = _
    rw [List.length_append, pairC_len l]
    simp only [List.length_cons, List.length_nil]
    omega
theorem pairC_app : ∀ (l m : List (Nat × Nat)), pairC (l ++ m) = pairC l ++ pairC m
  | [], m => rfl
  | x :: l, m => by
    show [SC.int (Int.ofNat x.1), SC.int (Int.ofNat x.2)] ++ pairC (l ++ m) = [SC.int (Int.ofNat x.1), SC.int (Int.ofNat x.2)] ++ pairC l ++ pairC m
    rw [pairC_app l m, List.append_assoc]
theorem pairC_sole : ∀ l, (pairC l).all SC.sole = true
  | [] => rfl
  | x :: l => by
    show ([SC.int (Int.ofNat x.1), SC.int (Int.ofNat x.2)] ++ pairC l).all SC.sole = true
    rw [List.all_append, pairC_sole l]; rfl
theorem sole_plain' {cs : List SC} (h : cs.all SC.sole = true) : cs.all SC.plain = true := by
  rw [List.all_eq_true] at h ⊢
  intro x hx
  have := h x hx
  cases x <;> first | rfl | (simp [SC.sole] at this; done) | (simp only [SC.sole, List.isEmpty_iff] at this; subst this; rfl)
def piSt (t : Tr) (b : Nat → Bool) (sd rs : List SC) (p : Int) (n : Nat) (i : Int) : List (Nat × Nat) → St
  | [] => piN t b sd rs p n i
  | x :: l => piR t b sd rs p n i (l.length + 1) (pairC (x :: l))
def poSt (t : Tr) (b : Nat → Bool) (sd : List SC) (p : Int) : List (Nat × Nat) → St
  | [] => poN t b sd p
  | x :: l => poR t b sd p (l.length + 1) (pairC (x :: l))
theorem planP_take (b : Nat → Bool) (p : Nat) (L : List Nat) {i : Nat} (hi : i < L.length) : planP b p (L.take (i + 1)) = bif selP b L[i] then planP b p (L.take i) ++ [(p, L[i])] else planP b p (L.take i) := by
  unfold planP
  rw [List.take_succ_eq_append_getElem hi, List.filter_append, List.map_append]
  cases h : selP b L[i] <;> simp [h]
theorem rsAt_eq (L : List Nat) {i : Nat} (hi : i < L.length) : (nodC L).getD (0 + (i : Int).toNat * 1) .nilp = .int (Int.ofNat L[i]) := by
  rw [Int.toNat_natCast, show 0 + i * 1 = i by omega, List.getD_eq_getElem?_getD]
  unfold nodC
  rw [List.getElem?_map, List.getElem?_eq_getElem hi]; rfl
theorem lt15 {P : Nat → Prop} (h : P 0 ∧ P 1 ∧ P 2 ∧ P 3 ∧ P 4 ∧ P 5 ∧ P 6 ∧ P 7 ∧ P 8 ∧ P 9 ∧ P 10 ∧ P 11 ∧ P 12 ∧ P 13 ∧ P 14) {i : Nat} (hi : i < 15) : P i := by
  obtain ⟨h0, h1, h2, h3, h4, h5, h6, h7, h8, h9, h10, h11, h12, h13, h14⟩ := h
  have : i = 0 ∨ i = 1 ∨ i = 2 ∨ i = 3 ∨ i = 4 ∨ i = 5 ∨ i = 6 ∨ i = 7 ∨ i = 8 ∨ i = 9 ∨ i = 10 ∨ i = 11 ∨ i = 12 ∨ i = 13 ∨ i = 14 := by omega
  rcases this with rfl | rfl | rfl | rfl | rfl | rfl | rfl | rfl | rfl | rfl | rfl | rfl | rfl | rfl | rfl <;> assumption
theorem wrapN' (n : Nat) (hn : n < 15) : IntKind.i64.wrap ((Int.ofNat n).tdiv 2) = ((n / 2 : Nat) : Int) :=
  lt15 (P := fun n => IntKind.i64.wrap ((Int.ofNat n).tdiv 2) = ((n / 2 : Nat) : Int)) ⟨rfl, rfl, rfl, rfl, rfl, rfl, rfl, rfl, rfl, rfl, rfl, rfl, rfl, rfl, rfl⟩ hn
theorem wrapI (i : Nat) (hi : i < 4611686018427387903) : IntKind.i64.wrap ((i : Int) + 1) = ((i + 1 : Nat) : Int) := by rw [IntKind.wrap_i64]; omega
theorem tmod_odd (n : Nat) (hn : n < 15) : ((Int.ofNat n).tmod 2 != 0) = !(Nat.beq (n % 2) 0) :=
  lt15 (P := fun n => ((Int.ofNat n).tmod 2 != 0) = !(Nat.beq (n % 2) 0)) ⟨rfl, rfl, rfl, rfl, rfl, rfl, rfl, rfl, rfl, rfl, rfl, rfl, rfl, rfl, rfl⟩ hn
theorem plan_body (b : Nat → Bool) (L : List Nat) {i : Nat} (hi : i < L.length) (hx : L[i] < 15) :
    pi0 (nodC L) L.length i = true ∧ ((rsAt (nodC L) i).tmod 2 != 0) = !(Nat.beq (L[i] % 2) 0) ∧ (∀ o, ((rsAt (nodC L) i).tmod 2 != 0) = o → pi1 (nodC L) L.length i o = true) ∧
      (((rsAt (nodC L) i).tmod 2 != 0) = false → pi2 b (nodC L) L.length i = true) ∧ piW b (nodC L) i = b (L[i] / 2) ∧ ∀ p, piX (nodC L) p i = [.int p, .int (Int.ofNat L[i])] := by
  have hr : rsAt (nodC L) i = Int.ofNat L[i] := by unfold rsAt; rw [rsAt_eq L hi]; rfl
  have h0 : pi0 (nodC L) L.length i = true := by
    unfold pi0
    rw [rsAt_eq L hi]
    refine bnd2 (bnd2 (ty_eq rfl (decide_eq_true (by omega))) ?_) ?_
    · rw [Int.toNat_natCast, show Nat.blt i L.length = true by rw [Nat.blt_eq]; exact hi]; rfl
    · rw [Int.toNat_natCast, show Nat.blt (0 + i * 1) (nodC L).length = true by rw [Nat.blt_eq, nodC_len]; omega]; rfl
  have h1 : ∀ o, ((rsAt (nodC L) i).tmod 2 != 0) = o → pi1 (nodC L) L.length i o = true := fun o ho => tg_eq h0 ho
  have hh : ∀ n : Nat, n < 15 → IntKind.i64.wrap ((Int.ofNat n).tdiv 2) = ((n / 2 : Nat) : Int) := fun n hn => by
    rw [wrapN' n hn]
  have hH : piH (nodC L) i = ((L[i] / 2 : Nat) : Int) := by unfold piH; rw [hr]; exact hh _ hx
  have hw : ∀ n, n < 8 → (whC b).getD (0 + n * 1) .nilp = .bool (b n) := fun n hn => by
    have : n = 0 ∨ n = 1 ∨ n = 2 ∨ n = 3 ∨ n = 4 ∨ n = 5 ∨ n = 6 ∨ n = 7 := by omega
    rcases this with rfl | rfl | rfl | rfl | rfl | rfl | rfl | rfl <;> rfl
  refine ⟨h0, ?_, h1, fun ho => ?_, ?_, fun p => by unfold piX; rw [hr]⟩
  · rw [hr]
    generalize L[i] = n at hx
    exact tmod_odd n hx
  · unfold pi2
    rw [hH, Int.toNat_natCast, hw _ (by omega)]
    refine bnd2 (bnd2 (h1 false ho) ?_) ?_
    · rw [decide_eq_true (by omega), show Nat.blt (L[i] / 2) 8 = true by rw [Nat.blt_eq]; omega]; rfl
    · rw [show Nat.blt (0 + L[i] / 2 * 1) 8 = true by rw [Nat.blt_eq]; omega]; rfl
  · unfold piW
    rw [hH, Int.toNat_natCast, hw _ (by omega)]; rfl
/-- The nodes of one place. -/
theorem plan_inner (w : World) {Q : Out → St → Prop} (t : Tr) (b : Nat → Bool) (sd : List SC) (p : Nat) (L : List Nat) (acc : List (Nat × Nat)) (hsd : sd.all SC.plain = true) (hL : ∀ x ∈ L, x < 15) (hlen : L.length ≤ 8) (hacc : acc.length ≤ 100)
    (hQ : Q .norm (poSt t b sd p (acc ++ planP b p L))) : SWs Try.prog (atW w 0) ((blockB (plO.drop 2)).drop 2) (piSt t b sd (nodC L) p L.length 0 acc) Q := by
  have h0 : piSt t b sd (nodC L) p L.length 0 acc = piSt t b sd (nodC L) p L.length ((0 : Nat) : Int) (acc ++ planP b p (L.take 0)) := by
    show _ = piSt t b sd (nodC L) p L.length 0 (acc ++ [])
    rw [List.append_nil]
  have hpN : plN sd (nodC L) = true := by unfold plN; rw [hsd, sole_plain' (nodC_sole L)]; rfl
  have hpR : ∀ l, plR sd (nodC L) (pairC l) = true := fun l => by unfold plR; rw [hsd, sole_plain' (nodC_sole L), sole_plain' (pairC_sole l)]; rfl
  rw [h0]
  refine SWs.loop (by kernel_rfl) (fun i : Nat => piSt t b sd (nodC L) p L.length i (acc ++ planP b p (L.take i))) (fun i => L.length - i) (fun i => i ≤ L.length) 0 (Nat.zero_le _) ?_
  intro i hi
  by_cases hlt : i < L.length
  · obtain ⟨_, hodd, h1, h2, hW, hx⟩ := plan_body b L hlt (hL _ (List.getElem_mem hlt))
    have hw : IntKind.i64.wrap ((i : Int) + 1) = ((i + 1 : Nat) : Int) := by rw [wrapI i (by omega)]
    have htk := planP_take b p L hlt
    have hl2 : (acc ++ planP b p (L.take i)).length ≤ 108 := by
      have : (planP b p (L.take i)).length ≤ i := by
        unfold planP
        rw [List.length_map]
        refine Nat.le_trans (List.length_filter_le _ _) ?_
        rw [List.length_take]; omega
      rw [List.length_append]; omega
    have hnext : acc ++ planP b p (L.take (i + 1)) = bif selP b L[i] then (acc ++ planP b p (L.take i)) ++ [(p, L[i])] else acc ++ planP b p (L.take i) := by
      rw [htk]; cases selP b L[i] <;> simp
    generalize acc ++ planP b p (L.take i) = l at hl2 hnext
    -- what stands behind the round
    have stay : selP b L[i] = false → ∀ st, st = piSt t b sd (nodC L) p L.length (IntKind.i64.wrap ((i : Int) + 1)) l → ∃ a', a' ≤ L.length ∧ L.length - a' < L.length - i ∧ st = piSt t b sd (nodC L) p L.length (a' : Nat) (acc ++ planP b p (L.take a')) := fun hs st hst =>
      ⟨i + 1, hlt, by omega, by rw [hst, hnext, hs, hw]; rfl⟩
    have more : selP b L[i] = true → ∀ st, st = piSt t b sd (nodC L) p L.length (IntKind.i64.wrap ((i : Int) + 1)) (l ++ [(p, L[i])]) → ∃ a', a' ≤ L.length ∧ L.length - a' < L.length - i ∧ st = piSt t b sd (nodC L) p L.length (a' : Nat) (acc ++ planP b p (L.take a')) := fun hs st hst =>
      ⟨i + 1, hlt, by omega, by rw [hst, hnext, hs, hw]; rfl⟩
    have hcell : ∀ y r, (pairC (y :: r)).take ((r.length + 1) * 2) ++ piX (nodC L) p i = pairC ((y :: r) ++ [(p, L[i])]) := fun y r => by
      rw [hx, pairC_app, List.take_of_length_le (by rw [pairC_len]; exact Nat.le_refl _)]; rfl
    have hZ : ∀ y r, (y :: r : List (Nat × Nat)).length ≤ 108 → piZ (r.length + 1) (pairC (y :: r)) = true := fun y r h => by
      have h : r.length + 1 ≤ 108 := h
      unfold piZ
      rw [show Nat.ble (r.length + 1 + 1) maxLen = true by rw [Nat.ble_eq]; unfold maxLen; omega, show Nat.ble ((r.length + 1 + 1) * 16) 140737488355328 = true by rw [Nat.ble_eq]; omega, show Nat.ble ((r.length + 1) * 2) (pairC (y :: r)).length = true by rw [Nat.ble_eq, pairC_len]; exact Nat.le_refl _]; rfl
    have hR1 : ∀ y r, piR t b sd (nodC L) p L.length (IntKind.i64.wrap ((i : Int) + 1)) (r.length + 1 + 1) (pairC ((y :: r) ++ [(p, L[i])])) = piSt t b sd (nodC L) p L.length (IntKind.i64.wrap ((i : Int) + 1)) ((y :: r) ++ [(p, L[i])]) := fun y r => by
      show _ = piR _ _ _ _ _ _ _ ((r ++ [(p, L[i])]).length + 1) _
      rw [List.length_append]; rfl
    have hN1 : piX (nodC L) p i = pairC [(p, L[i])] := by rw [hx]; rfl
    cases ho : Nat.beq (L[i] % 2) 0 with
    | false =>
      have hs : selP b L[i] = true := by unfold selP; rw [ho]; rfl
      have g1 := h1 true (by rw [hodd, ho]; rfl)
      cases l with
      | nil => exact SWs.roundL plL_ok Sp.mixed [true, true, true] (pi_n1 t resS b sd (nodC L) p L.length i) rfl (bnd2 g1 hpN) trivial (more hs _ (by rw [hN1]; rfl))
      | cons y r => exact SWs.roundL plL_ok Sp.mixed [true, true, true] (pi_r1 t resS b sd (nodC L) p L.length i (r.length + 1) (pairC (y :: r))) rfl (bnd2 (bnd2 g1 (hZ y r hl2)) (by rw [hcell]; exact hpR _)) trivial (more hs _ (by rw [hcell]; exact hR1 y r))
    | true =>
      have g2 := h2 (by rw [hodd, ho]; rfl)
      cases hb : b (L[i] / 2) with
      | false =>
        have hs : selP b L[i] = true := by unfold selP; rw [ho, hb]; rfl
        have g3 : ty_ (pi2 b (nodC L) L.length i) (!piW b (nodC L) i) = true := ty_eq g2 (by rw [hW, hb]; rfl)
        cases l with
        | nil => exact SWs.roundL plL_ok Sp.mixed [true, false, true] (pi_n2 t resS b sd (nodC L) p L.length i) rfl (bnd2 g3 hpN) trivial (more hs _ (by rw [hN1]; rfl))
        | cons y r => exact SWs.roundL plL_ok Sp.mixed [true, false, true] (pi_r2 t resS b sd (nodC L) p L.length i (r.length + 1) (pairC (y :: r))) rfl (bnd2 (bnd2 g3 (hZ y r hl2)) (by rw [hcell]; exact hpR _)) trivial (more hs _ (by rw [hcell]; exact hR1 y r))
      | true =>
        have hs : selP b L[i] = false := by unfold selP; rw [ho, hb]; rfl
        have g3 : tn (pi2 b (nodC L) L.length i) (!piW b (nodC L) i) = true := tn_eq g2 (by rw [hW, hb]; rfl)
        cases l with
        | nil => exact SWs.roundL plL_ok Sp.mixed [true, false, false] (pi_n3 t resS b sd (nodC L) p L.length i) rfl (bnd2 g3 hpN) trivial (stay hs _ rfl)
        | cons y r => exact SWs.roundL plL_ok Sp.mixed [true, false, false] (pi_r3 t resS b sd (nodC L) p L.length i (r.length + 1) (pairC (y :: r))) rfl (bnd2 g3 (hpR _)) trivial (stay hs _ rfl)
  · obtain rfl : i = L.length := by omega
    rw [List.take_length]
    generalize acc ++ planP b p L = l at hQ
    have hf : tn true (decide (((L.length : Nat) : Int) < (L.length : Int))) = true := tn_eq rfl (decide_eq_false (by omega))
    cases l with
    | nil => exact SWs.outL plL_ok Sp.mixed [false] (pi_no t resS b sd (nodC L) p L.length L.length) (bnd2 hf (by rw [hsd]; rfl)) trivial ⟨_, Weak.refl _ _, hQ⟩
    | cons y r => exact SWs.outL plL_ok Sp.mixed [false] (pi_ro t resS b sd (nodC L) p L.length L.length (r.length + 1) (pairC (y :: r))) (bnd2 hf (by rw [hsd, sole_plain' (pairC_sole (y :: r))]; rfl)) trivial ⟨_, Weak.refl _ _, hQ⟩
end Go.Proofs.Ytkpdkfeklecehaa.Ld
