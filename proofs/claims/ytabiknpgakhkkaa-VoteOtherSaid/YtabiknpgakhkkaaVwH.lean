/-
  The program's Apply.
-/
import Derived.Test.YtabiknpgakhkkaaVwG
namespace Go.Proofs.Ytabiknpgakhkkaa.Vw
open Go.RowKit Go.Proofs.Ytabiknpgakhkkaa.Sx Go.Proofs.Ytabiknpgakhkkaa.Pw
set_option linter.unusedVariables false
set_option linter.unusedSimpArgs false

abbrev fApp : Nat := 21
abbrev tB8 : Nat := 29
def no8 : Nat → Bool := fun _ => false
def zeroV : Vi := ⟨0, ⟨fun _ => 0, fun _ => 0, fun _ => 0⟩, no8, 0, fun _ => 0⟩
def resT (v : Vi) (a g : Nat → Bool) (e : Int) : SV := .tup [.inr v.cs, .inr (adC a), .inr (adC g), .inl (.int e)]
def AA (a : Nat → Bool) : Prop := SV.agg (adC a) = SV.agg (adC a)
def obs3 : List Prop := [AA no8, AA no8, AA no8]
theorem obs3_ok : All obs3 := ⟨rfl, rfl, rfl, trivial⟩
abbrev apL : List (Nat × Con) := [(fVIs, vIsC), (fConO, conOC), (fMem, memC), (fOp, opW), (fAdm, admC)]
theorem apL_ok : LibOK Try.prog apL := LibOK.cons vIs_ok (LibOK.cons conO_ok (LibOK.cons mem_ok (LibOK.cons opW_ok (LibOK.cons adm_ok (LibOK.nil _)))))
def rbO (off n : Nat) (cells : List SC) (ty : TypeId) : RB := ⟨off, n, ⟨cells, ty, true, false⟩⟩
def apA (v : Vi) : Bool := !isVS (Vi.of v.cs)
def conOb (r : RB) : Bool := (r.b.cells.all SC.sole && true) && (okOps r && Nat.ble r.n 1000000)
theorem conOb_eq {r : RB} (h : RBok r) (ho : okOps r = true) (hn : r.n ≤ 1000000) : conOb r = true := by
  unfold conOb
  simp only [Bool.and_eq_true, Nat.ble_eq]
  exact ⟨⟨h.2.2, trivial⟩, ho, hn⟩
def apI (r : RB) (cs : List SC) (i : Int) : St := ⟨[(6, .c (.ptr 1 0)), (7, .c (.ptr 2 0)), (8, .c (.ptr 3 0)), (9, .c (.int 0)), (11, .c (.ptr 4 0)), (44, .c (.slc 0 r.off 5 r.n none)), (45, .c (.int r.n)), (46, .c (.int i))],
  [(0, some r.b), (1, some ⟨zeroV.cs, tView, false, true⟩), (2, some ⟨adC no8, tB8, false, true⟩), (3, some ⟨adC no8, tB8, false, true⟩), (4, some ⟨cs, tChange, false, true⟩)], 5, 86⟩
def apCut (a b c d : Nat) : Cut := ⟨[(6, false), (7, false), (8, false), (9, true), (11, false), (44, false), (45, true), (46, true)], [(0, 0, true), (a, 1, true), (b, 2, true), (c, 3, true), (d, 4, true)], 5⟩
def ap1 (v : Vi) (r : RB) : Bool := bnd (tg (tg true (apA v) false) (decide ((r.n : Int) > 4)) false) (conOb r)
def ap2 (v : Vi) (f : Int) (r : RB) : Bool := tn (tn (ap1 v r) (decide (idxO r ≥ 0))) (!memI (Vi.of v.cs) f)
def startC (v : Vi) (f : Int) : Chg' := ⟨v, f, no8, no8⟩
theorem ap_e1 (v : Vi) (f : Int) (off n : Nat) (cells : List SC) (ty : TypeId) (w : World) (h : apA v = true) : Sx.Fn Try.prog fApp (atW w 0) [.agg v.cs, .c (.int f), .c (.slc 0 off 5 n none)] [(0, some ⟨cells, ty, true, false⟩)] 1 fun x _ => x = resT zeroV no8 no8 1 :=
  Fn.xvL (fuel := 1000) apL_ok Sp.mixed [true] (r := resT zeroV no8 no8 1) (ob := tg true (apA v) true) (obs := obs3) (by kernel_rfl) (tg_eq rfl h) obs3_ok rfl
theorem ap_e2 (v : Vi) (f : Int) (off n : Nat) (cells : List SC) (ty : TypeId) (w : World) (h : apA v = false) (h2 : decide ((n : Int) > 4) = true) : Sx.Fn Try.prog fApp (atW w 0) [.agg v.cs, .c (.int f), .c (.slc 0 off 5 n none)] [(0, some ⟨cells, ty, true, false⟩)] 1 fun x _ => x = resT zeroV no8 no8 1 :=
  Fn.xvL (fuel := 1000) apL_ok Sp.mixed [false, true] (r := resT zeroV no8 no8 1) (ob := tg (tg true (apA v) false) (decide ((n : Int) > 4)) true) (obs := obs3) (by kernel_rfl) (tg_eq (tg_eq rfl h) h2) obs3_ok rfl
theorem ap_e3 (v : Vi) (f : Int) (off n : Nat) (cells : List SC) (ty : TypeId) (w : World) (h : ap1 v (rbO off n cells ty) = true) (h2 : decide (idxO (rbO off n cells ty) ≥ 0) = true) : Sx.Fn Try.prog fApp (atW w 0) [.agg v.cs, .c (.int f), .c (.slc 0 off 5 n none)] [(0, some ⟨cells, ty, true, false⟩)] 1 fun x _ => x = resT zeroV no8 no8 1 :=
  Fn.xvL (fuel := 1000) apL_ok Sp.mixed [false, false, true] (r := resT zeroV no8 no8 1) (ob := ty_ (ap1 v (rbO off n cells ty)) (decide (idxO (rbO off n cells ty) ≥ 0))) (obs := obs3) (by kernel_rfl) (ty_eq h h2) obs3_ok rfl
theorem ap_e4 (v : Vi) (f : Int) (off n : Nat) (cells : List SC) (ty : TypeId) (w : World) (h : ap1 v (rbO off n cells ty) = true) (h2 : decide (idxO (rbO off n cells ty) ≥ 0) = false) (h3 : (!memI (Vi.of v.cs) f) = true) : Sx.Fn Try.prog fApp (atW w 0) [.agg v.cs, .c (.int f), .c (.slc 0 off 5 n none)] [(0, some ⟨cells, ty, true, false⟩)] 1 fun x _ => x = resT zeroV no8 no8 6 :=
  Fn.xvL (fuel := 1000) apL_ok Sp.mixed [false, false, false, true] (r := resT zeroV no8 no8 6) (ob := ty_ (tn (ap1 v (rbO off n cells ty)) (decide (idxO (rbO off n cells ty) ≥ 0))) (!memI (Vi.of v.cs) f)) (obs := obs3) (by kernel_rfl) (ty_eq (tn_eq h h2) h3) obs3_ok rfl

/-- All operations, one by one. -/
def runL : List Ope → Chg' → Int × Chg'
  | [], c => (0, c)
  | o :: l, c => bif (opR c o).1 == 0 then runL l (opR c o).2 else ((opR c o).1, c)
def opsL (r : RB) : List Ope := (List.range r.n).map (opAt r)
theorem opsL_drop (r : RB) (i : Nat) (hi : i < r.n) : (opsL r).drop i = opAt r i :: (opsL r).drop (i + 1) := by
  have hl : i < (opsL r).length := by unfold opsL; simpa using hi
  have hg : (opsL r)[i]? = some (opAt r i) := by unfold opsL; simp [hi]
  rw [List.getElem?_eq_getElem hl] at hg
  rw [List.drop_eq_getElem_cons hl, Option.some.inj hg]
/-- What Apply answers. -/
def endR (q : Int × Chg') : SV := bif q.1 == 0 then (bif decide (admS q.2.v < q.2.v.k) then resT zeroV no8 no8 7 else resT q.2.v q.2.ad q.2.gn 0) else resT zeroV no8 no8 q.1
def applyR (v : Vi) (f : Int) (l : List Ope) : SV := bif !isVS v then resT zeroV no8 no8 1 else bif decide ((l.length : Int) > 4) then resT zeroV no8 no8 1 else bif l.any (fun o => !opOk o) then resT zeroV no8 no8 1 else
  bif !memI v f then resT zeroV no8 no8 6 else endR (runL l (startC v f))
theorem isVS_of (v : Vi) : isVS (Vi.of v.cs) = isVS v := by kernel_rfl
theorem admS_of (v : Vi) : admS (Vi.of v.cs) = admS v := by kernel_rfl
theorem any_odd (r : RB) : (opsL r).any (fun o => !opOk o) = decide (idxO r ≥ 0) := by
  unfold idxO idxV
  cases h : fstF (oddF r) r.n with
  | none =>
    have : (opsL r).any (fun o => !opOk o) = false := by
      rw [List.any_eq_false]
      intro o ho
      unfold opsL at ho
      obtain ⟨j, hj, rfl⟩ := List.mem_map.1 ho
      have := fstF_none h j (by simpa using hj)
      unfold oddF at this
      rw [this]; simp
    rw [this]; rfl
  | some i =>
    obtain ⟨h1, h2, _⟩ := fstF_some h
    have : (opsL r).any (fun o => !opOk o) = true := by
      rw [List.any_eq_true]
      refine ⟨opAt r i, ?_, h2⟩
      unfold opsL
      exact List.mem_map.2 ⟨i, by simpa using h1, rfl⟩
    rw [this]
    exact (decide_eq_true (by simp only; omega)).symm

def ltO (r : RB) (i : Nat) : Bool := ty_ true (decide ((i : Int) < (r.n : Int)))
def opE (r : RB) (c : Chg') (i : Nat) : Int := (opR (Chg'.of c.cs) (opAt r i)).1
def neE (r : RB) (c : Chg') (i : Nat) : Bool := opE r c i != 0
theorem ap_round (off n : Nat) (cells : List SC) (ty : TypeId) (c : Chg') (i : Nat) : stepL Try.prog apL 0 1000 4 (loopB ((bodyOf Try.prog fApp).drop 5)) (apI (rbO off n cells ty) c.cs i) [true, false] [] (apCut 1 2 3 4) =
    some (bnd (tn (ldO (rbO off n cells ty) i (ltO (rbO off n cells ty) i)) (neE (rbO off n cells ty) c i)) (pl (rbO off n cells ty)), [], apI (rbO off n cells ty) (opR (Chg'.of c.cs) (opAt (rbO off n cells ty) i)).2.cs (IntKind.i64.wrap ((i : Int) + 1))) := by kernel_rfl
theorem ap_no (off n : Nat) (cells : List SC) (ty : TypeId) (c : Chg') (i : Nat) : retL Try.prog apL fApp 1000 4 (loopB ((bodyOf Try.prog fApp).drop 5)) (apI (rbO off n cells ty) c.cs i) [true, true] =
    some (ty_ (ldO (rbO off n cells ty) i (ltO (rbO off n cells ty) i)) (neE (rbO off n cells ty) c i), obs3, resT zeroV no8 no8 (opE (rbO off n cells ty) c i)) := by kernel_rfl
theorem ap_start (v : Vi) (f : Int) (off n : Nat) (cells : List SC) (ty : TypeId) : stepL Try.prog apL 0 1000 5 (bodyOf Try.prog fApp) ⟨argTmps [.agg v.cs, .c (.int f), .c (.slc 0 off 5 n none)] 0, [(0, some ⟨cells, ty, true, false⟩)], 1, 86⟩ [false, false, false, false] [] (apCut 5 9 13 113) =
    some (bnd (ap2 v f (rbO off n cells ty)) (pl (rbO off n cells ty)), [], apI (rbO off n cells ty) (startC v f).cs 0) := by kernel_rfl
theorem ap_out (off n : Nat) (cells : List SC) (ty : TypeId) (c : Chg') : exitL Try.prog apL 0 1000 2 (loopB ((bodyOf Try.prog fApp).drop 5)) (apI (rbO off n cells ty) c.cs n) [false] [] (apCut 1 2 3 4) =
    some (1, bnd (tn true (decide ((n : Int) < (n : Int)))) (pl (rbO off n cells ty)), [], apI (rbO off n cells ty) c.cs n) := by kernel_rfl
def admLt (c : Chg') : Bool := decide (admS (Vi.of c.v.cs) < c.v.k)
theorem ap_end1 (off n : Nat) (cells : List SC) (ty : TypeId) (c : Chg') : (finL Try.prog apL fApp 1000 100 ((bodyOf Try.prog fApp).drop 6) (apI (rbO off n cells ty) c.cs n) [true]).map (fun q => (q.1, q.2.1, q.2.2.1)) =
    some (ty_ true (admLt c), obs3, resT zeroV no8 no8 7) := by kernel_rfl
theorem ap_end2 (off n : Nat) (cells : List SC) (ty : TypeId) (c : Chg') : (finL Try.prog apL fApp 1000 100 ((bodyOf Try.prog fApp).drop 6) (apI (rbO off n cells ty) c.cs n) [false]).map (fun q => (q.1, q.2.1, q.2.2.1)) =
    some (tn true (admLt c), [AA c.ad, AA c.gn, AA c.gn], resT c.v c.ad c.gn 0) := by kernel_rfl

theorem apply_fn (v : Vi) (f : Int) (r : RB) (hr : RBok r) (ho : okOps r = true) (w : World) : Sx.Fn Try.prog fApp (atW w 0) [.agg v.cs, .c (.int f), .c (.slc 0 r.off 5 r.n none)] [(0, some r.b)] 1 fun x _ => x = applyR v f (opsL r) := by
  have hlen : (opsL r).length = r.n := by unfold opsL; simp
  obtain ⟨off, n, cells, ty, tail, own⟩ := r
  obtain ⟨hown, htail, hsole⟩ := hr
  simp only at hown htail
  subst hown htail
  have hr : RBok (rbO off n cells ty) := ⟨rfl, rfl, hsole⟩
  have ho : okOps (rbO off n cells ty) = true := ho
  have hlen : (opsL (rbO off n cells ty)).length = n := hlen
  have hpl := pl_eq hr
  show Sx.Fn Try.prog fApp (atW w 0) [.agg v.cs, .c (.int f), .c (.slc 0 off 5 n none)] [(0, some ⟨cells, ty, true, false⟩)] 1 fun x _ => x = applyR v f (opsL (rbO off n cells ty))
  unfold applyR
  rw [hlen, any_odd]
  cases h1 : isVS v with
  | false => exact ap_e1 v f off n cells ty w (by unfold apA; rw [isVS_of, h1]; rfl)
  | true =>
  have hA : apA v = false := by unfold apA; rw [isVS_of, h1]; rfl
  cases h2 : decide ((n : Int) > 4) with
  | true => exact ap_e2 v f off n cells ty w hA h2
  | false =>
  have hn : n ≤ 4 := by rw [decide_eq_false_iff_not] at h2; omega
  have hB : ap1 v (rbO off n cells ty) = true := bnd_eq (tg_eq (tg_eq rfl hA) h2) (conOb_eq hr ho (by show n ≤ 1000000; omega))
  cases h3 : decide (idxO (rbO off n cells ty) ≥ 0) with
  | true => exact ap_e3 v f off n cells ty w hB h3
  | false =>
  cases h4 : memI v f with
  | false => exact ap_e4 v f off n cells ty w hB h3 (by rw [memI_of, h4]; rfl)
  | true =>
  have hC : ap2 v f (rbO off n cells ty) = true := tn_eq (tn_eq hB h3) (by rw [memI_of, h4]; rfl)
  refine Sx.Fn.of (nt := 86) (by kernel_rfl) rfl ?_
  refine SWs.stepL apL_ok Sp.mixed [false, false, false, false] (ap_start v f off n cells ty) (bnd_eq hC hpl) trivial ?_
  simp only [Bool.not_true, cond_false]
  refine SWs.loop (by kernel_rfl) (fun q : Chg' × Nat => apI (rbO off n cells ty) q.1.cs q.2) (fun q => n - q.2) (fun q => q.2 ≤ n ∧ runL ((opsL (rbO off n cells ty)).drop q.2) q.1 = runL (opsL (rbO off n cells ty)) (startC v f)) (startC v f, 0) ⟨by omega, rfl⟩ ?_
  rintro ⟨c, i⟩ ⟨hi, hrun⟩
  simp only at hi hrun
  by_cases hlt : i < n
  · have hO : ldO (rbO off n cells ty) i (ltO (rbO off n cells ty) i) = true := by
      rw [ldO_eq ho hlt]; exact ty_eq rfl (decide_eq_true (by show (i : Int) < (n : Int); omega))
    rw [opsL_drop _ i hlt] at hrun
    have hof := opR_of c (opAt (rbO off n cells ty) i)
    cases hE : (opR c (opAt (rbO off n cells ty) i)).1 == 0 with
    | true =>
      refine SWs.roundL apL_ok Sp.mixed [true, false] (ap_round off n cells ty c i) rfl (bnd_eq (tn_eq hO (by unfold neE opE bne; rw [hof.1, hE]; rfl)) hpl) trivial ⟨((opR c (opAt (rbO off n cells ty) i)).2, i + 1), ⟨by simp only; omega, ?_⟩, by simp only; omega, ?_⟩
      · simp only
        rw [← hrun]
        show _ = (bif (opR c (opAt (rbO off n cells ty) i)).1 == 0 then _ else _)
        rw [hE]; rfl
      · simp only [hof.2, wrapN (show (0 : Int) ≤ (i : Int) + 1 by omega) (by omega)]
        rfl
    | false =>
      refine SWs.retR apL_ok Sp.mixed [true, true] (ap_no off n cells ty c i) (ty_eq hO (by unfold neE opE bne; rw [hof.1, hE]; rfl)) obs3_ok fun _ => ?_
      have : runL (opAt (rbO off n cells ty) i :: (opsL (rbO off n cells ty)).drop (i + 1)) c = ((opR c (opAt (rbO off n cells ty) i)).1, c) := by
        show (bif (opR c (opAt (rbO off n cells ty) i)).1 == 0 then _ else _) = _
        rw [hE]; rfl
      rw [← hrun, this]
      unfold endR opE
      rw [hof.1]
      simp only [hE, cond_false]
  · obtain rfl : i = n := by omega
    have hnil : (opsL (rbO off i cells ty)).drop i = [] := List.drop_eq_nil_of_le (by rw [hlen]; omega)
    rw [hnil] at hrun
    have hrun : ((0 : Int), c) = runL (opsL (rbO off i cells ty)) (startC v f) := hrun
    refine SWs.outL apL_ok Sp.mixed [false] (ap_out off i cells ty c) (bnd_eq (tn_eq rfl (decide_eq_false (by omega))) hpl) trivial ?_
    have hlt' : admLt c = decide (admS c.v < c.v.k) := by unfold admLt; rw [admS_of]
    rw [← hrun]
    unfold endR
    simp only [BEq.rfl, cond_true]
    cases hk : decide (admS c.v < c.v.k) with
    | true => exact SWs.finvL apL_ok Sp.mixed [true] (ap_end1 off i cells ty c) (ty_eq rfl (by rw [hlt', hk])) obs3_ok rfl
    | false => exact SWs.finvL apL_ok Sp.mixed [false] (ap_end2 off i cells ty c) (tn_eq rfl (by rw [hlt', hk])) ⟨rfl, rfl, rfl, trivial⟩ rfl
def appC : Con := sVal [none, none, some 5] fun ps rs => match ps, rs with | [.agg cs, .c (.int f)], [r] => some (isVi cs && okOps r, applyR (Vi.of cs) f (opsL r)) | _, _ => none
theorem resT_sole (v : Vi) (a g : Nat → Bool) (e : Int) : (resT v a g e).soleT = true := rfl
theorem endR_sole (q : Int × Chg') : (endR q).soleT = true := by
  unfold endR
  cases q.1 == 0
  · rfl
  · cases decide (admS q.2.v < q.2.v.k) <;> rfl
theorem applyR_sole (v : Vi) (f : Int) (l : List Ope) : (applyR v f l).soleT = true := by
  unfold applyR
  cases isVS v
  · rfl
  · cases decide ((l.length : Int) > 4)
    · cases l.any (fun o => !opOk o)
      · cases memI v f
        · rfl
        · exact endR_sole _
      · rfl
    · rfl
theorem app_ok : ConOK Try.prog fApp appC := by
  refine sVal_ok (fn := Try.f21) (by kernel_rfl) rfl rfl fun ps rs v h hps hrs => ?_
  split at h <;> try (cases h; done)
  rename_i cs f r
  simp only [Option.some.injEq, Prod.mk.injEq, Bool.and_eq_true] at h
  obtain ⟨⟨hv, ho⟩, rfl⟩ := h
  refine ⟨applyR_sole _ _ _, fun w => ?_⟩
  have e := Vi.of_cs hv
  generalize Vi.of cs = t at e
  subst e
  exact apply_fn t f r (hrs r (by simp)) ho w

end Go.Proofs.Ytabiknpgakhkkaa.Vw
