/-
  There are never fewer admins than the threshold.
-/
import Derived.Test.YtjjnmafoakoenaaVwP
namespace Go.Proofs.Ytjjnmafoakoenaa.Vw
open Go.RowKit Go.Proofs.Ytjjnmafoakoenaa.Sx Go.Proofs.Ytjjnmafoakoenaa.Pw
set_option linter.unusedVariables false
set_option linter.unusedSimpArgs false

/-- A view of some members, of any number up to eight. -/
def memIn (m : Int) : Bool := decide (0 ≤ m) && decide (m ≤ 8)
def someS : Con := pureConB (fun | [.c (.int m), .c (.int a), .c (.int k)] => memIn m | _ => true) fun | [.c (.int m), .c (.int a), .c (.int k)] => some (.agg (someV m.toNat a k).cs) | _ => none
theorem someS_ok : ConOK Try.prog fSome someS := by
  refine pureConB_ok (fn := Try.f18) (by kernel_rfl) rfl rfl fun args v hok h => ?_
  split at h <;> try (cases h; done)
  rename_i m a k
  simp only [Option.some.injEq] at h; subst h
  simp only [memIn, Bool.and_eq_true, decide_eq_true_eq] at hok
  refine ⟨rfl, rfl, fun w => ?_⟩
  have := some_fn m.toNat (by omega) a k w
  rw [show (Int.ofNat m.toNat) = m from Int.toNat_of_nonneg hok.1] at this
  exact this

abbrev fFew : Nat := 5
abbrev fL (Q : Vi → Int → List Ope → AQ) : List (Nat × Con) := [(fSome, someS), (fApp, appG Q), (fKnown, knownC)]
theorem fL_ok {Q : Vi → Int → List Ope → AQ} (hQ : Q = applyQ) : LibOK Try.prog (fL Q) := LibOK.cons someS_ok (LibOK.cons (appG_ok hQ) (LibOK.cons known_ok (LibOK.nil _)))
def fewA (m a k : Int) (off n : Nat) : List SV := [.c (.int m), .c (.int a), .c (.int k), .c (.slc 0 off 5 n none)]
def fewI (u : Vi) (i n : Int) : St := ⟨[(9, .c (.ptr 0 0)), (13, .c (.int n)), (14, .c (.int i))], [(0, some ⟨u.cs, tView, false, true⟩)], 1, 91⟩
def fewCut0 : Cut := ⟨[(9, false), (13, true), (14, true)], [(165, 0, true)], 1⟩
def fewCut : Cut := ⟨[(9, false), (13, true), (14, true)], [(0, 0, true)], 1⟩
section
variable (Q : Vi → Int → List Ope → AQ) (m a k : Int) (off n : Nat) (cells : List SC) (ty : TypeId)
theorem few_1 : (xfunL Try.prog (fL Q) 1000 fFew (fewA m a k off n) [(0, some ⟨cells, ty, true, false⟩)] 1 [true]).map (fun q => (q.1, q.2.1, q.2.2.1)) = some (tg true (decide (m < 1)) true, [], .c (.bool true)) := by kernel_rfl
theorem few_2 : (xfunL Try.prog (fL Q) 1000 fFew (fewA m a k off n) [(0, some ⟨cells, ty, true, false⟩)] 1 [false, true]).map (fun q => (q.1, q.2.1, q.2.2.1)) = some (tg (tg true (decide (m < 1)) false) (decide (m > 8)) true, [], .c (.bool true)) := by kernel_rfl
theorem few_3 : (xfunL Try.prog (fL Q) 1000 fFew (fewA m a k off n) [(0, some ⟨cells, ty, true, false⟩)] 1 [false, false, true]).map (fun q => (q.1, q.2.1, q.2.2.1)) = some (tg (tg (tg true (decide (m < 1)) false) (decide (m > 8)) false) (decide (a < 1)) true, [], .c (.bool true)) := by kernel_rfl
def few4 : Bool := tg (tg (tg true (decide (m < 1)) false) (decide (m > 8)) false) (decide (a < 1)) false
theorem few_4 : (xfunL Try.prog (fL Q) 1000 fFew (fewA m a k off n) [(0, some ⟨cells, ty, true, false⟩)] 1 [false, false, false, true]).map (fun q => (q.1, q.2.1, q.2.2.1)) = some (tg (few4 m a) (decide (a > m)) true, [], .c (.bool true)) := by kernel_rfl
theorem few_5 : (xfunL Try.prog (fL Q) 1000 fFew (fewA m a k off n) [(0, some ⟨cells, ty, true, false⟩)] 1 [false, false, false, false, true]).map (fun q => (q.1, q.2.1, q.2.2.1)) = some (tg (tg (few4 m a) (decide (a > m)) false) (decide (k < 1)) true, [], .c (.bool true)) := by kernel_rfl
theorem few_6 : (xfunL Try.prog (fL Q) 1000 fFew (fewA m a k off n) [(0, some ⟨cells, ty, true, false⟩)] 1 [false, false, false, false, false, true]).map (fun q => (q.1, q.2.1, q.2.2.1)) = some (tg (tg (tg (few4 m a) (decide (a > m)) false) (decide (k < 1)) false) (decide (k > a)) true, [], .c (.bool true)) := by kernel_rfl
def few7 : Bool := tg (tg (tg (few4 m a) (decide (a > m)) false) (decide (k < 1)) false) (decide (k > a)) false
theorem few_7 : (xfunL Try.prog (fL Q) 1000 fFew (fewA m a k off n) [(0, some ⟨cells, ty, true, false⟩)] 1 [false, false, false, false, false, false, true]).map (fun q => (q.1, q.2.1, q.2.2.1)) = some (ty_ (few7 m a k) (decide ((n : Int) > 4)), [], .c (.bool true)) := by kernel_rfl
def few8 : Bool := bnd (bnd (tn (few7 m a k) (decide ((n : Int) > 4))) (memIn m)) (apOb (rbO off n cells ty))
theorem few_8 : (xfunL Try.prog (fL Q) 1000 fFew (fewA m a k off n) [(0, some ⟨cells, ty, true, false⟩)] 1 [false, false, false, false, false, false, false, true]).map (fun q => (q.1, q.2.1, q.2.2.1)) =
  some (ty_ (few8 m a k off n cells ty) ((Q (Vi.of (someV m.toNat a k).cs) 0 (opsL (rbO off n cells ty))).e != 0), [], .c (.bool true)) := by kernel_rfl
theorem few_9 : stepL Try.prog (fL Q) 0 1000 8 (bodyOf Try.prog fFew) ⟨argTmps (fewA m a k off n) 0, [(0, some ⟨cells, ty, true, false⟩)], 1, 91⟩ [false, false, false, false, false, false, false, false] [] fewCut0 =
  some (tn (few8 m a k off n cells ty) ((Q (Vi.of (someV m.toNat a k).cs) 0 (opsL (rbO off n cells ty))).e != 0), [], fewI (Q (Vi.of (someV m.toNat a k).cs) 0 (opsL (rbO off n cells ty))).v 0 0) := by kernel_rfl
theorem few_no (u : Vi) (x : Int) (i : Nat) (hi : i < 8) : stepL Try.prog (fL Q) 0 1000 4 (loopB ((bodyOf Try.prog fFew).drop 8)) (fewI u i x) [true, false] [] fewCut = some (tn true (u.ad i), [], fewI u (i + 1) x) := by
  revert i
  refine all8 ?_ ?_ ?_ ?_ ?_ ?_ ?_ ?_ <;> kernel_rfl
theorem few_yes (u : Vi) (x : Int) (i : Nat) (hi : i < 8) : stepL Try.prog (fL Q) 0 1000 4 (loopB ((bodyOf Try.prog fFew).drop 8)) (fewI u i x) [true, true, false] [] fewCut = some (tn (ty_ true (u.ad i)) (u.t.sg i == 0), [], fewI u (i + 1) (IntKind.i64.wrap (x + 1))) := by
  revert i
  refine all8 ?_ ?_ ?_ ?_ ?_ ?_ ?_ ?_ <;> kernel_rfl
end

theorem few_10 (Q : Vi → Int → List Ope → AQ) (u : Vi) (x : Int) : exitL Try.prog (fL Q) 0 1000 4 (loopB ((bodyOf Try.prog fFew).drop 8)) (fewI u 8 x) [false] [] fewCut = some (0, true, [], fewI u 8 x) := by kernel_rfl
theorem few_11 (Q : Vi → Int → List Ope → AQ) (u : Vi) (x : Int) : (Sx.finL Try.prog (fL Q) fFew 1000 100 ((bodyOf Try.prog fFew).drop 9) (fewI u 8 x) [true, true, true]).map (fun q => (q.1, q.2.1, q.2.2.1)) = some (tg (tg (tg true (decide (x ≥ 1)) true) (decide (u.k ≥ 1)) true) (decide (x ≥ u.k)) true, [], .c (.bool true)) := by kernel_rfl
theorem sg_adm {u : Vi} (h : isVS u = true) {i : Nat} (hi : i < 8) (ha : u.ad i = true) : u.t.sg i ≠ 0 := by
  have hI := (isVS_ok h).1
  have hm : memT u.t i = true := by
    cases hm : memT u.t i with
    | true => rfl
    | false =>
      exfalso
      unfold isVS at h
      simp only [Bool.and_eq_true, decide_eq_true_eq] at h
      have h4 : u.k ≤ admS u := h.2.2.2.2
      unfold admS at h4
      rw [allMem_no hi ha hm] at h4
      have := hI.k
      simp only [cond_false] at h4
      omega
  intro h0
  have ht := hI.t
  unfold isTS at ht
  simp only [Bool.and_eq_true] at ht
  have hl := leaves_le ht.1 hi
  unfold leafOk at hl
  rw [h0] at hl
  simp [memT, nz, h0] at hm hl
  exact hm hl.2.2
theorem few_gen {Q : Vi → Int → List Ope → AQ} (hQ : Q = applyQ) (m a k : Int) (r : RB) (hr : RBok r) (ho : okOps r = true) (w : World) : Sx.Fn Try.prog fFew (atW w 0) [.c (.int m), .c (.int a), .c (.int k), .c (.slc 0 r.off 5 r.n none)] [(0, some r.b)] 1 fun x _ => x = .c (.bool true) := by
  obtain ⟨off, n, cells, ty, tail, own⟩ := r
  obtain ⟨hown, htail, hsole⟩ := hr
  simp only at hown htail
  subst hown htail
  have hr : RBok (rbO off n cells ty) := ⟨rfl, rfl, hsole⟩
  cases h1 : decide (m < 1) with
  | true => exact Fn.xvL (fL_ok hQ) Sp.mixed [true] (few_1 Q m a k off n cells ty) (tg_eq rfl h1) trivial rfl
  | false =>
  cases h2 : decide (m > 8) with
  | true => exact Fn.xvL (fL_ok hQ) Sp.mixed [false, true] (few_2 Q m a k off n cells ty) (tg_eq (tg_eq rfl h1) h2) trivial rfl
  | false =>
  cases h3 : decide (a < 1) with
  | true => exact Fn.xvL (fL_ok hQ) Sp.mixed [false, false, true] (few_3 Q m a k off n cells ty) (tg_eq (tg_eq (tg_eq rfl h1) h2) h3) trivial rfl
  | false =>
  have f4 : few4 m a = true := tg_eq (tg_eq (tg_eq rfl h1) h2) h3
  cases h4 : decide (a > m) with
  | true => exact Fn.xvL (fL_ok hQ) Sp.mixed [false, false, false, true] (few_4 Q m a k off n cells ty) (tg_eq f4 h4) trivial rfl
  | false =>
  cases h5 : decide (k < 1) with
  | true => exact Fn.xvL (fL_ok hQ) Sp.mixed [false, false, false, false, true] (few_5 Q m a k off n cells ty) (tg_eq (tg_eq f4 h4) h5) trivial rfl
  | false =>
  cases h6 : decide (k > a) with
  | true => exact Fn.xvL (fL_ok hQ) Sp.mixed [false, false, false, false, false, true] (few_6 Q m a k off n cells ty) (tg_eq (tg_eq (tg_eq f4 h4) h5) h6) trivial rfl
  | false =>
  have f7 : few7 m a k = true := tg_eq (tg_eq (tg_eq f4 h4) h5) h6
  cases h7 : decide ((n : Int) > 4) with
  | true => exact Fn.xvL (fL_ok hQ) Sp.mixed [false, false, false, false, false, false, true] (few_7 Q m a k off n cells ty) (ty_eq f7 h7) trivial rfl
  | false =>
  have hm : memIn m = true := by
    rw [decide_eq_false_iff_not] at h1 h2
    unfold memIn
    rw [decide_eq_true (by omega), decide_eq_true (by omega)]; rfl
  have f8 : few8 m a k off n cells ty = true := bnds (bnds (tn_eq f7 h7) hm) (apOb_eq hr ho)
  by_cases he : (Q (Vi.of (someV m.toNat a k).cs) 0 (opsL (rbO off n cells ty))).e = 0
  · have hv : isVS (Q (Vi.of (someV m.toNat a k).cs) 0 (opsL (rbO off n cells ty))).v = true := by
      rw [hQ] at he ⊢
      exact (applyQ_good he).1
    have h9 := few_9 Q m a k off n cells ty
    have h0 : ((Q (Vi.of (someV m.toNat a k).cs) 0 (opsL (rbO off n cells ty))).e != 0) = false := by rw [he]; rfl
    refine Sx.Fn.of (nt := 91) (by kernel_rfl) rfl ?_
    refine SWs.stepL (fL_ok hQ) Sp.mixed (fuel := 1000) (n := 8) _ h9 (tn_eq f8 h0) trivial ?_
    generalize (Q (Vi.of (someV m.toNat a k).cs) 0 (opsL (rbO off n cells ty))).v = u at hv
    refine SWs.loop (by kernel_rfl) (fun i : Nat => fewI u i (cnt u i)) (fun i => 8 - i) (fun i => i ≤ 8) 0 (by omega) ?_
    rintro i hi
    by_cases h8 : i = 8
    · subst h8
      refine SWs.outL (fL_ok hQ) Sp.mixed [false] (few_10 Q u (cnt u 8)) rfl trivial ?_
      have hk : u.k ≤ admS u ∧ 1 ≤ u.k := by
        have h := hv
        unfold isVS k1 at h
        simp only [Bool.and_eq_true, decide_eq_true_eq] at h
        exact ⟨h.2.2.2.2, h.2.2.2.1⟩
      have hc : admS u = cnt u 8 := by
        unfold admS at hk ⊢
        cases hA : allMem u 8 with
        | true => rfl
        | false => rw [hA] at hk; simp only [cond_false] at hk; omega
      exact SWs.finvL (fL_ok hQ) Sp.mixed [true, true, true] (few_11 Q u (cnt u 8)) (tg_eq (tg_eq (tg_eq rfl (decide_eq_true (by omega))) (decide_eq_true (by omega))) (decide_eq_true (by omega))) trivial rfl
    · have hi' : i < 8 := by omega
      have hb := cnt_bd u i
      cases ha : u.ad i with
      | false =>
        refine SWs.roundL (fL_ok hQ) Sp.mixed [true, false] (few_no Q u _ i hi') rfl (tn_eq rfl ha) trivial ⟨i + 1, by omega, by omega, ?_⟩
        have e : cnt u (i + 1) = cnt u i := by show (bif u.ad i then cnt u i + 1 else cnt u i) = cnt u i; rw [ha]; rfl
        simp only [e]; rfl
      | true =>
        have hs : (u.t.sg i == 0) = false := by have := sg_adm hv hi' ha; simpa using this
        refine SWs.roundL (fL_ok hQ) Sp.mixed [true, true, false] (few_yes Q u _ i hi') rfl (tn_eq (ty_eq rfl ha) hs) trivial ⟨i + 1, by omega, by omega, ?_⟩
        have e : cnt u (i + 1) = cnt u i + 1 := by show (bif u.ad i then cnt u i + 1 else cnt u i) = cnt u i + 1; rw [ha]; rfl
        have ew : IntKind.i64.wrap (cnt u i + 1) = cnt u i + 1 := wrapN (by omega) (by omega)
        simp only [e, ew]; rfl
  · exact Fn.xvL (fL_ok hQ) Sp.mixed [false, false, false, false, false, false, false, true] (few_8 Q m a k off n cells ty) (ty_eq f8 (by unfold bne; simpa using he)) trivial rfl
theorem viewFew_fn (m a k : Int) (r : RB) (hr : RBok r) (ho : okOps r = true) (w : World) : Sx.Fn Try.prog fFew (atW w 0) [.c (.int m), .c (.int a), .c (.int k), .c (.slc 0 r.off 5 r.n none)] [(0, some r.b)] 1 fun x _ => x = .c (.bool true) := few_gen rfl m a k r hr ho w

end Go.Proofs.Ytjjnmafoakoenaa.Vw
