/-
  Operations at once are what they are one by one.
-/
import Derived.Test.YtjjnmafoakoenaaVwV
namespace Go.Proofs.Ytjjnmafoakoenaa.Vw
open Go.RowKit Go.Proofs.Ytjjnmafoakoenaa.Sx Go.Proofs.Ytjjnmafoakoenaa.Pw
set_option linter.unusedVariables false
set_option linter.unusedSimpArgs false
set_option maxRecDepth 10000

/-! What an operation does to a view does not ask who came and went. -/
theorem opR_ind (v : Vi) (f : Int) (a g a' g' : Nat → Bool) (o : Ope) : (opR ⟨v, f, a, g⟩ o).1 = (opR ⟨v, f, a', g'⟩ o).1 ∧ (opR ⟨v, f, a, g⟩ o).2.v = (opR ⟨v, f, a', g'⟩ o).2.v := by
  unfold opR
  cases o.kind == 1 with
  | true =>
    simp only [cond_true]
    unfold addR
    cases isS o.sg with
    | false => exact ⟨rfl, rfl⟩
    | true =>
    cases isS o.sl with
    | false => exact ⟨rfl, rfl⟩
    | true =>
    simp only [Bool.not_true, cond_false]
    cases fstF (fun i => v.t.sg i == o.sg) 8 with
    | some i => exact ⟨rfl, rfl⟩
    | none =>
    simp only
    cases fstF (fun i => ezs (v.t.sg i) (v.t.sl i)) 8 with
    | none => exact ⟨rfl, rfl⟩
    | some i => exact ⟨rfl, rfl⟩
  | false =>
  simp only [cond_false]
  cases o.kind == 2 with
  | true =>
    simp only [cond_true]
    unfold remR
    cases memI v o.who with
    | false => exact ⟨rfl, rfl⟩
    | true =>
    cases h : o.who == f with
    | true => (simp only [h, Bool.not_true, cond_false, cond_true]; first | exact ⟨rfl, rfl⟩ | exact ⟨trivial, rfl⟩ | trivial)
    | false => (simp only [h, Bool.not_true, cond_false]; first | exact ⟨rfl, rfl⟩ | exact ⟨trivial, rfl⟩ | trivial)
  | false =>
  simp only [cond_false]
  have adm : ∀ b, (admR ⟨v, f, a, g⟩ o.who b).1 = (admR ⟨v, f, a', g'⟩ o.who b).1 ∧ (admR ⟨v, f, a, g⟩ o.who b).2.v = (admR ⟨v, f, a', g'⟩ o.who b).2.v := fun b => by
    unfold admR
    cases memI v o.who with
    | false => exact ⟨rfl, rfl⟩
    | true =>
    cases h : v.ad o.who.toNat == b with
    | true => (simp only [h, Bool.not_true, cond_false, cond_true]; first | exact ⟨rfl, rfl⟩ | exact ⟨trivial, rfl⟩ | trivial)
    | false => (simp only [h, Bool.not_true, cond_false]; first | exact ⟨rfl, rfl⟩ | exact ⟨trivial, rfl⟩ | trivial)
  cases o.kind == 3 with
  | true => exact adm true
  | false =>
  simp only [cond_false]
  cases o.kind == 4 with
  | true => exact adm false
  | false =>
  simp only [cond_false]
  unfold limR
  cases decide (o.k < 1) with
  | true => exact ⟨rfl, rfl⟩
  | false =>
  simp only [cond_false]
  cases decide (o.k > 8) with
  | true => exact ⟨rfl, rfl⟩
  | false => exact ⟨rfl, rfl⟩
theorem vcs_len (v : Vi) : v.cs.length = 73 := rfl
theorem chg_inj {c c' : Chg'} (h : c.cs = c'.cs) : c.v.cs = c'.v.cs ∧ c.fr = c'.fr := by
  unfold Chg'.cs at h
  have h1 := List.append_inj h rfl
  refine ⟨h1.1, ?_⟩
  have := h1.2
  simp only [List.cons.injEq, SC.int.injEq] at this
  exact this.1
theorem opR_sim {c c' : Chg'} (hv : c.v.cs = c'.v.cs) (hf : c.fr = c'.fr) (o : Ope) : (opR c o).1 = (opR c' o).1 ∧ (opR c o).2.v.cs = (opR c' o).2.v.cs := by
  obtain ⟨v, f, a, g⟩ := c
  obtain ⟨v', f', a', g'⟩ := c'
  simp only at hv hf
  subst hf
  have h1 := opR_ind v f a g a' g' o
  have hc : Chg'.cs ⟨v, f, a', g'⟩ = Chg'.cs ⟨v', f, a', g'⟩ := by unfold Chg'.cs; simp only [hv]
  have h2 := opR_of ⟨v, f, a', g'⟩ o
  have h3 := opR_of ⟨v', f, a', g'⟩ o
  rw [hc] at h2
  refine ⟨by rw [h1.1, ← h2.1, h3.1], ?_⟩
  rw [h1.2]
  exact (chg_inj (h2.2.symm.trans h3.2)).1
theorem opR_fr {c : Chg'} (o : Ope) : (opR c o).2.fr = c.fr := by
  unfold opR addR remR admR limR
  cases o.kind == 1 with
  | true =>
    simp only [cond_true]
    cases isS o.sg with
    | false => rfl
    | true =>
    cases isS o.sl with
    | false => rfl
    | true =>
    simp only [Bool.not_true, cond_false]
    cases fstF (fun i => c.v.t.sg i == o.sg) 8 with
    | some i => rfl
    | none =>
    simp only
    cases fstF (fun i => ezs (c.v.t.sg i) (c.v.t.sl i)) 8 with
    | none => rfl
    | some i => rfl
  | false =>
  simp only [cond_false]
  cases o.kind == 2 with
  | true =>
    cases memI c.v o.who with
    | false => rfl
    | true =>
    cases h : o.who == c.fr with
    | true => simp only [h, Bool.not_true, cond_false, cond_true]
    | false => simp only [h, Bool.not_true, cond_false, cond_true]; rfl
  | false =>
  simp only [cond_false]
  cases o.kind == 3 with
  | true =>
    cases memI c.v o.who with
    | false => rfl
    | true =>
    cases h : c.v.ad o.who.toNat == true with
    | true => simp only [h, Bool.not_true, cond_false, cond_true]
    | false => simp only [h, Bool.not_true, cond_false, cond_true]; rfl
  | false =>
  simp only [cond_false]
  cases o.kind == 4 with
  | true =>
    cases memI c.v o.who with
    | false => rfl
    | true =>
    cases h : c.v.ad o.who.toNat == false with
    | true => simp only [h, Bool.not_true, cond_false, cond_true]
    | false => simp only [h, Bool.not_true, cond_false, cond_true]; rfl
  | false =>
  simp only [cond_false]
  cases decide (o.k < 1) with
  | true => rfl
  | false =>
  simp only [cond_false]
  cases decide (o.k > 8) with
  | true => rfl
  | false => rfl
/-- One operation that is done. -/
theorem one_ok {w : Vi} {o : Ope} (h : (applyQ (Vi.of w.cs) 0 [o]).e = 0) : opOk o = true ∧ (opR (startC (Vi.of w.cs) 0) o).1 = 0 ∧ (applyQ (Vi.of w.cs) 0 [o]).v = (opR (startC (Vi.of w.cs) 0) o).2.v ∧ isVS (applyQ (Vi.of w.cs) 0 [o]).v = true := by
  obtain ⟨_, _, h3, _, h5, _, h7⟩ := applyQ_ok h
  have hg := applyQ_good h
  have hr : (opR (startC (Vi.of w.cs) 0) o).1 = 0 ∧ runL [o] (startC (Vi.of w.cs) 0) = (0, (opR (startC (Vi.of w.cs) 0) o).2) := by
    unfold runL at h5 ⊢
    cases hE : (opR (startC (Vi.of w.cs) 0) o).1 == 0 with
    | true => exact ⟨by simpa using hE, rfl⟩
    | false =>
      rw [hE] at h5
      simp only [cond_false] at h5
      rw [h5] at hE; cases hE
  refine ⟨?_, hr.1, ?_, hg.1⟩
  · simp only [List.any_cons, List.any_nil, Bool.or_false] at h3
    cases ho : opOk o with
    | true => rfl
    | false => rw [ho] at h3; cases h3
  · rw [h7, hr.2]
theorem eqVi_cs {u v : Vi} (h : u.cs = v.cs) : eqVi u v = true := by
  have h1 : eqVi u v = eqVi (Vi.of u.cs) (Vi.of v.cs) := by kernel_rfl
  rw [h1, h]; exact eqVi_self _

/-! The walk. -/
abbrev fTurns : Nat := 9
abbrev tuL (Q : Vi → Int → List Ope → AQ) : List (Nat × Con) := [(fSome, someS), (fApp, appG Q), (frApp, rappG Q), (fKnown, knownC)]
theorem tuL_ok {Q : Vi → Int → List Ope → AQ} (hQ : Q = applyQ) : LibOK Try.prog (tuL Q) := LibOK.cons someS_ok (LibOK.cons (appG_ok hQ) (LibOK.cons (rappG_ok hQ) (LibOK.cons known_ok (LibOK.nil _))))
def tuA (m a : Int) (off n : Nat) : List SV := [.c (.int m), .c (.int a), .c (.slc 0 off 5 n none)]
def tuI (r : RB) (v w : Vi) (i : Int) : St := ⟨[(2, .c (.slc 0 r.off 5 r.n none)), (7, .c (.ptr 1 0)), (8, .c (.ptr 2 0)), (9, .c (.int i))], [(0, some r.b), (1, some ⟨v.cs, tView, false, true⟩), (2, some ⟨w.cs, tView, false, true⟩)], 3, 81⟩
def tuCut (a b : Nat) : Cut := ⟨[(2, false), (7, false), (8, false), (9, true)], [(0, 0, true), (a, 1, true), (b, 2, true)], 3⟩
/-- One operation of the row. -/
def rS (r : RB) (i : Nat) : RB := ⟨r.off + i * 5, (IntKind.i64.wrap ((i : Int) + 1)).toNat - i, ⟨r.b.cells, r.b.ty, true, false⟩⟩
def slO (r : RB) (i : Nat) (acc : Bool) : Bool := bnd acc (decide (0 ≤ (i : Int)) && (decide (0 ≤ IntKind.i64.wrap ((i : Int) + 1)) && (Nat.ble i (IntKind.i64.wrap ((i : Int) + 1)).toNat && (Nat.ble (IntKind.i64.wrap ((i : Int) + 1)).toNat r.n && true))))
def tu5 (m a : Int) (n : Nat) : Bool := tn (tg (tg (tg (tg true (decide (m < 1)) false) (decide (m > 8)) false) (decide (a < 1)) false) (decide (a > m)) false) (decide ((n : Int) > 4))
section
variable (Q : Vi → Int → List Ope → AQ) (m a : Int) (off n : Nat) (cells : List SC) (ty : TypeId)
theorem tu_1 : (xfunL Try.prog (tuL Q) 1000 fTurns (tuA m a off n) [(0, some ⟨cells, ty, true, false⟩)] 1 [true]).map (fun q => (q.1, q.2.1, q.2.2.1)) = some (tg true (decide (m < 1)) true, [], .c (.bool true)) := by kernel_rfl
theorem tu_2 : (xfunL Try.prog (tuL Q) 1000 fTurns (tuA m a off n) [(0, some ⟨cells, ty, true, false⟩)] 1 [false, true]).map (fun q => (q.1, q.2.1, q.2.2.1)) = some (tg (tg true (decide (m < 1)) false) (decide (m > 8)) true, [], .c (.bool true)) := by kernel_rfl
theorem tu_3 : (xfunL Try.prog (tuL Q) 1000 fTurns (tuA m a off n) [(0, some ⟨cells, ty, true, false⟩)] 1 [false, false, true]).map (fun q => (q.1, q.2.1, q.2.2.1)) = some (tg (tg (tg true (decide (m < 1)) false) (decide (m > 8)) false) (decide (a < 1)) true, [], .c (.bool true)) := by kernel_rfl
theorem tu_4 : (xfunL Try.prog (tuL Q) 1000 fTurns (tuA m a off n) [(0, some ⟨cells, ty, true, false⟩)] 1 [false, false, false, true]).map (fun q => (q.1, q.2.1, q.2.2.1)) = some (tg (tg (tg (tg true (decide (m < 1)) false) (decide (m > 8)) false) (decide (a < 1)) false) (decide (a > m)) true, [], .c (.bool true)) := by kernel_rfl
theorem tu_5 : (xfunL Try.prog (tuL Q) 1000 fTurns (tuA m a off n) [(0, some ⟨cells, ty, true, false⟩)] 1 [false, false, false, false, true]).map (fun q => (q.1, q.2.1, q.2.2.1)) = some (ty_ (tg (tg (tg (tg true (decide (m < 1)) false) (decide (m > 8)) false) (decide (a < 1)) false) (decide (a > m)) false) (decide ((n : Int) > 4)), [], .c (.bool true)) := by kernel_rfl
theorem tu_start : stepL Try.prog (tuL Q) 0 1000 6 (bodyOf Try.prog fTurns) ⟨argTmps (tuA m a off n) 0, [(0, some ⟨cells, ty, true, false⟩)], 1, 81⟩ [false, false, false, false, false] [] (tuCut 97 109) =
  some (bnd (bnd (tu5 m a n) (memIn m)) (pl (rbO off n cells ty)), [], tuI (rbO off n cells ty) (someV m.toNat a 1) (someV m.toNat a 1) 0) := by kernel_rfl
variable (v w : Vi) (i : Nat)
def tuE (w : Vi) (r : RB) (i : Nat) : AQ := Q (Vi.of w.cs) 0 (opsL (rS r i))
theorem tu_round : stepL Try.prog (tuL Q) 0 1000 4 (loopB ((bodyOf Try.prog fTurns).drop 6)) (tuI (rbO off n cells ty) v w i) [true, false] [] (tuCut 1 2) =
  some (bnd (tn (bnd (slO (rbO off n cells ty) i (ltO (rbO off n cells ty) i)) (rapOb (rS (rbO off n cells ty) i))) ((tuE Q w (rbO off n cells ty) i).e != 0)) (pl (rbO off n cells ty)), [], tuI (rbO off n cells ty) v (tuE Q w (rbO off n cells ty) i).v (IntKind.i64.wrap ((i : Int) + 1))) := by kernel_rfl
theorem tu_ret : retL Try.prog (tuL Q) fTurns 1000 4 (loopB ((bodyOf Try.prog fTurns).drop 6)) (tuI (rbO off n cells ty) v w i) [true, true] =
  some (ty_ (bnd (slO (rbO off n cells ty) i (ltO (rbO off n cells ty) i)) (rapOb (rS (rbO off n cells ty) i))) ((tuE Q w (rbO off n cells ty) i).e != 0), [], .c (.bool true)) := by kernel_rfl
theorem tu_out : exitL Try.prog (tuL Q) 0 1000 4 (loopB ((bodyOf Try.prog fTurns).drop 6)) (tuI (rbO off n cells ty) v w n) [false] [] (tuCut 1 2) =
  some (0, bnd (tn true (decide ((n : Int) < (n : Int)))) (pl (rbO off n cells ty)), [], tuI (rbO off n cells ty) v w n) := by kernel_rfl
theorem tu_end : (finL Try.prog (tuL Q) fTurns 1000 100 ((bodyOf Try.prog fTurns).drop 7) (tuI (rbO off n cells ty) v w n) [true, true]).map (fun q => (q.1, q.2.1, q.2.2.1)) =
  some (tg (tg (bnd true (apOb (rbO off n cells ty))) ((Q (Vi.of v.cs) 0 (opsL (rbO off n cells ty))).e == 0) true) (eqVi (Q (Vi.of v.cs) 0 (opsL (rbO off n cells ty))).v w) true, [], .c (.bool true)) := by kernel_rfl
end

theorem some_mem0_all (a k : Int) : ((List.range 8).all fun i => memI (someV (i + 1) a k) 0) = true := by kernel_rfl
theorem some_mem0 {p : Nat} (h1 : 1 ≤ p) (h8 : p ≤ 8) (a k : Int) : memI (someV p a k) 0 = true := by
  have h := List.all_eq_true.1 (some_mem0_all a k) (p - 1) (by rw [List.mem_range]; omega)
  rw [show p - 1 + 1 = p by omega] at h
  exact h
theorem opsL_take' (r : RB) (i : Nat) (hi : i < r.n) : (opsL r).take (i + 1) = (opsL r).take i ++ [opAt r i] := by
  have hl : i < (opsL r).length := by unfold opsL; simpa using hi
  have hg : (opsL r)[i]? = some (opAt r i) := by unfold opsL; simp [hi]
  rw [List.getElem?_eq_getElem hl] at hg
  rw [List.take_succ_eq_append_getElem hl, Option.some.inj hg]
theorem rS_n (r : RB) {i : Nat} (hi : i < 1000) : (rS r i) = ⟨r.off + i * 5, 1, ⟨r.b.cells, r.b.ty, true, false⟩⟩ := by
  unfold rS
  rw [wrapN (show (0 : Int) ≤ (i : Int) + 1 by omega) (by omega)]
  congr 1
  omega
theorem rS_ops (r : RB) {i : Nat} (hi : i < 1000) : opsL (rS r i) = [opAt r i] := by
  rw [rS_n r hi]
  rfl
theorem rS_ok {r : RB} (ho : okOps r = true) {i : Nat} (hi : i < r.n) (hn : r.n ≤ 1000) : okOps (rS r i) = true := by
  rw [rS_n r (by omega)]
  have hl := ho
  unfold okOps at hl ⊢
  simp only [Bool.and_eq_true, Nat.ble_eq] at hl ⊢
  refine ⟨by omega, ?_⟩
  rw [List.all_eq_true]
  intro x hx
  obtain ⟨j, hj⟩ := List.mem_iff_getElem?.1 hx
  rw [List.getElem?_take] at hj
  split at hj
  · rename_i h5
    rw [List.getElem?_drop] at hj
    have := isI_of ho (j := i * 5 + j) (by omega)
    unfold isI at this
    rw [List.getD_eq_getElem?_getD, show r.off + (i * 5 + j) = r.off + i * 5 + j by omega, hj] at this
    exact this
  · cases hj
theorem Vi.cs_of (v : Vi) : (Vi.of v.cs).cs = v.cs := (Vi.of_cs (cs := v.cs) rfl).symm
theorem turns_gen {Q : Vi → Int → List Ope → AQ} (hQ : Q = applyQ) (m a : Int) (r : RB) (hr : RBok r) (ho : okOps r = true) (w : World) : Sx.Fn Try.prog fTurns (atW w 0) [.c (.int m), .c (.int a), .c (.slc 0 r.off 5 r.n none)] [(0, some r.b)] 1 fun x _ => x = .c (.bool true) := by
  have hlen : (opsL r).length = r.n := by unfold opsL; simp
  obtain ⟨off, n, cells, ty, tail, own⟩ := r
  obtain ⟨hown, htail, hsole⟩ := hr
  simp only at hown htail
  subst hown htail
  have hr : RBok (rbO off n cells ty) := ⟨rfl, rfl, hsole⟩
  have ho : okOps (rbO off n cells ty) = true := ho
  have hlen : (opsL (rbO off n cells ty)).length = n := hlen
  have hpl := pl_eq hr
  cases h1 : decide (m < 1) with
  | true => exact Fn.xvL (tuL_ok hQ) Sp.mixed [true] (tu_1 Q m a off n cells ty) (tg_eq rfl h1) trivial rfl
  | false =>
  cases h2 : decide (m > 8) with
  | true => exact Fn.xvL (tuL_ok hQ) Sp.mixed [false, true] (tu_2 Q m a off n cells ty) (tg_eq (tg_eq rfl h1) h2) trivial rfl
  | false =>
  cases h3 : decide (a < 1) with
  | true => exact Fn.xvL (tuL_ok hQ) Sp.mixed [false, false, true] (tu_3 Q m a off n cells ty) (tg_eq (tg_eq (tg_eq rfl h1) h2) h3) trivial rfl
  | false =>
  cases h4 : decide (a > m) with
  | true => exact Fn.xvL (tuL_ok hQ) Sp.mixed [false, false, false, true] (tu_4 Q m a off n cells ty) (tg_eq (tg_eq (tg_eq (tg_eq rfl h1) h2) h3) h4) trivial rfl
  | false =>
  cases h5 : decide ((n : Int) > 4) with
  | true => exact Fn.xvL (tuL_ok hQ) Sp.mixed [false, false, false, false, true] (tu_5 Q m a off n cells ty) (ty_eq (tg_eq (tg_eq (tg_eq (tg_eq rfl h1) h2) h3) h4) h5) trivial rfl
  | false =>
  have f5 : tu5 m a n = true := tn_eq (tg_eq (tg_eq (tg_eq (tg_eq rfl h1) h2) h3) h4) h5
  rw [decide_eq_false_iff_not] at h1 h2 h3 h4 h5
  have hm : memIn m = true := by
    unfold memIn
    rw [decide_eq_true (by omega), decide_eq_true (by omega)]; rfl
  obtain ⟨q, rfl⟩ : ∃ q : Nat, a = q := ⟨a.toNat, by omega⟩
  have hvS : isVS (someV m.toNat q 1) = true := by rw [some_is (by omega) (by omega), decide_eq_true (by omega), decide_eq_true (by omega)]; rfl
  have hv0 : memI (someV m.toNat q 1) 0 = true := some_mem0 (by omega) (by omega) _ _
  refine Sx.Fn.of (nt := 81) (by kernel_rfl) rfl ?_
  refine SWs.stepL (tuL_ok hQ) Sp.mixed (fuel := 1000) (n := 6) [false, false, false, false, false] (tu_start Q m q off n cells ty) (bnds (bnds f5 hm) hpl) trivial ?_
  generalize someV m.toNat q 1 = v at hvS hv0
  have hns : n ≤ 4 := by omega
  refine SWs.loop (by kernel_rfl) (fun x : Vi × Nat => tuI (rbO off n cells ty) v x.1 x.2) (fun x => n - x.2) (fun x => x.2 ≤ n ∧ isVS x.1 = true ∧ ((opsL (rbO off n cells ty)).take x.2).any (fun o => !opOk o) = false ∧
    ∃ c : Chg', c.v.cs = x.1.cs ∧ c.fr = 0 ∧ runL ((opsL (rbO off n cells ty)).drop x.2) c = runL (opsL (rbO off n cells ty)) (startC (Vi.of v.cs) 0)) (v, 0) ⟨by simp, hvS, rfl, startC (Vi.of v.cs) 0, Vi.cs_of v, rfl, rfl⟩ ?_
  rintro ⟨u, i⟩ ⟨hi, hu, hany, c, hcv, hcf, hrun⟩
  simp only at hi hu hany hcv hrun
  by_cases hlt : i < n
  · have hops := rS_ops (rbO off n cells ty) (i := i) (by omega)
    have hS : bnd (slO (rbO off n cells ty) i (ltO (rbO off n cells ty) i)) (rapOb (rS (rbO off n cells ty) i)) = true := by
      refine bnds (bnds (ty_eq rfl (decide_eq_true (by show (i : Int) < (n : Int); omega))) ?_) ?_
      · rw [wrapN (show (0 : Int) ≤ (i : Int) + 1 by omega) (by omega), decide_eq_true (by omega), decide_eq_true (by omega), show Nat.ble i ((i : Int) + 1).toNat = true by rw [Nat.ble_eq]; omega,
          show Nat.ble ((i : Int) + 1).toNat (rbO off n cells ty).n = true by rw [Nat.ble_eq]; show ((i : Int) + 1).toNat ≤ n; omega]; rfl
      · refine rapOb_eq ?_ (rS_ok ho hlt (by show n ≤ 1000; omega)) ?_
        · rw [rS_n _ (by omega)]; exact ⟨rfl, rfl, hsole⟩
        · rw [rS_n _ (by omega)]; show 1 ≤ 1000000; omega
    by_cases he : (tuE Q u (rbO off n cells ty) i).e = 0
    · have he' := he
      unfold tuE at he'
      rw [hops, hQ] at he'
      obtain ⟨g1, g2, g3, g4⟩ := one_ok he'
      have hE : (tuE Q u (rbO off n cells ty) i).v = (applyQ (Vi.of u.cs) 0 [opAt (rbO off n cells ty) i]).v := by unfold tuE; rw [hops, hQ]
      have hsim := opR_sim (c := c) (c' := startC (Vi.of u.cs) 0) (by rw [hcv]; exact (Vi.cs_of u).symm) (by rw [hcf]; rfl) (opAt (rbO off n cells ty) i)
      refine SWs.roundL (tuL_ok hQ) Sp.mixed [true, false] (tu_round Q off n cells ty v u i) rfl (bnds (tn_eq hS (by rw [he]; rfl)) hpl) trivial ⟨((tuE Q u (rbO off n cells ty) i).v, i + 1), ⟨by simp only; omega, ?_, ?_, (opR c (opAt (rbO off n cells ty) i)).2, ?_, ?_, ?_⟩, by simp only; omega, ?_⟩
      · simp only; rw [hE]; exact g4
      · simp only
        rw [opsL_take' _ i hlt, List.any_append, hany]
        simp [g1]
      · simp only; rw [hE, g3]; exact hsim.2
      · rw [opR_fr]; exact hcf
      · simp only
        rw [opsL_drop _ i hlt] at hrun
        rw [← hrun]
        show _ = (bif (opR c (opAt (rbO off n cells ty) i)).1 == 0 then _ else _)
        rw [hsim.1, g2]; rfl
      · simp only [wrapN (show (0 : Int) ≤ (i : Int) + 1 by omega) (by omega)]
        rfl
    · exact SWs.retR (tuL_ok hQ) Sp.mixed [true, true] (tu_ret Q off n cells ty v u i) (ty_eq hS (by unfold bne; simpa using he)) trivial fun _ => rfl
  · obtain rfl : i = n := by omega
    have hnil : (opsL (rbO off i cells ty)).drop i = [] := List.drop_eq_nil_of_le (by rw [hlen]; omega)
    rw [hnil] at hrun
    have hrun : ((0 : Int), c) = runL (opsL (rbO off i cells ty)) (startC (Vi.of v.cs) 0) := hrun
    rw [List.take_of_length_le (by omega)] at hany
    refine SWs.outL (tuL_ok hQ) Sp.mixed [false] (tu_out Q off i cells ty v u) (bnds (tn_eq rfl (decide_eq_false (by omega))) hpl) trivial ?_
    have hA : admS c.v = admS u := by rw [← admS_of c.v, hcv, admS_of]
    have hK : c.v.k = u.k := by
      have e1 : c.v.k = gI c.v.cs 40 := rfl
      rw [e1, hcv]; rfl
    have hku : u.k ≤ admS u := by
      unfold isVS at hu
      simp only [Bool.and_eq_true, decide_eq_true_eq] at hu
      exact hu.2.2.2.2
    have hap : applyQ (Vi.of v.cs) 0 (opsL (rbO off i cells ty)) = ⟨c.v, c.ad, c.gn, 0⟩ := by
      unfold applyQ
      rw [isVS_of, hvS, memI_of, hv0, hany, hlen, decide_eq_false (show ¬((i : Int) > 4) by omega), ← hrun]
      unfold endQ
      simp only [Bool.not_true, cond_false]
      rw [decide_eq_false (by rw [hA, hK]; omega)]; rfl
    refine SWs.finvL (tuL_ok hQ) Sp.mixed [true, true] (tu_end Q off i cells ty v u) ?_ trivial rfl
    rw [hQ, hap]
    exact tg_eq (tg_eq (bnds rfl (apOb_eq hr ho)) rfl) (eqVi_cs hcv)
theorem viewTurns_fn (m a : Int) (r : RB) (hr : RBok r) (ho : okOps r = true) (w : World) : Sx.Fn Try.prog fTurns (atW w 0) [.c (.int m), .c (.int a), .c (.slc 0 r.off 5 r.n none)] [(0, some r.b)] 1 fun x _ => x = .c (.bool true) := turns_gen rfl m a r hr ho w

end Go.Proofs.Ytjjnmafoakoenaa.Vw
