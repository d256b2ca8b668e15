/-
  What an admin approves; who is an admin.
-/
import Derived.Test.YtabiknpgakhkkaaGreatVwZ
set_option maxRecDepth 20000
namespace Go.Proofs.YtabiknpgakhkkaaGreat.Vt
open Go.RowKit Go.Proofs.YtabiknpgakhkkaaGreat.Sx Go.Proofs.YtabiknpgakhkkaaGreat.Pw Go.Proofs.YtabiknpgakhkkaaGreat.Vw
set_option linter.unusedVariables false
set_option linter.unusedSimpArgs false
set_option maxRecDepth 10000

abbrev fPaper : Nat := 13
abbrev frPaper : Nat := 14
def opsN (r : RB) : Bool := (r.b.cells.all SC.sole && true) && ((okOps r && Nat.ble r.n 1000000) && (((opsBy (opsL r)).map SC.u8).all SC.sole && true))
theorem opsN_eq {r : RB} (hr : RBok r) (ho : okOps r = true) (hn : r.n ≤ 1000000) : opsN r = true := by
  unfold opsN
  have : ((opsBy (opsL r)).map SC.u8).all SC.sole = true := by simp [List.all_eq_true, SC.sole]
  rw [hr.2.2, ho, this, show Nat.ble r.n 1000000 = true by rw [Nat.ble_eq]; exact hn]; rfl
def pBy (f : Int) (l : List Ope) : List UInt8 := numL f ++ opsBy l
def paperS (v : Vi) (f : Int) (l : List Ope) : Sp.H4 := Sp.deriveS (hashL (vhS v)) [118, 111, 116, 101] (pBy f l)
abbrev paL : List (Nat × Con) := [(fVHash, vhC), (fNum, Vw.numC), (fOps, opsBC), (Sp.fDer, Sp.derC)]
theorem paL_ok : LibOK Tryz.prog paL := LibOK.cons vh_ok (LibOK.cons Vw.num_ok (LibOK.cons opsB_ok (LibOK.cons Sp.der_ok (LibOK.nil _))))
abbrev rpaL : List (Nat × Con) := [(frVHash, vhC), (frNum, rnumC), (frOps, opsBC), (Sp.fJoin, Sp.joinC), (Sp.fRDer, Sp.rderC)]
theorem rpaL_ok : LibOK Tryz.prog rpaL := LibOK.cons rvh_ok (LibOK.cons rnum_ok (LibOK.cons ropsB_ok (LibOK.cons Sp.join_ok (LibOK.cons Sp.rder_ok (LibOK.nil _)))))

/-! Admins. -/
abbrev fIsA : Nat := 22
abbrev frIsA : Nat := 26
def adI (v : Vi) (n : Int) : Bool := bif decide (n ≥ 0) then (bif decide (n < 8) then v.ad n.toNat else false) else false
def isAC : Con := pureConB (fun | [.agg cs, .c (.int n)] => isVi cs | _ => true) fun | [.agg cs, .c (.int n)] => some (.c (.bool (adI (Vi.of cs) n))) | _ => none
theorem isA_at (v : Vi) (i : Nat) (hi : i < 8) : (xfunL Tryz.prog [] 1000 fIsA [.agg v.cs, .c (.int i)] [] 0 []).map (fun q => (q.1, q.2.1, q.2.2.1)) = some (true, [], .c (.bool (v.ad i))) := by
  revert i
  refine all8 ?_ ?_ ?_ ?_ ?_ ?_ ?_ ?_ <;> kernel_rfl
theorem risA_at (v : Vi) (i : Nat) (hi : i < 8) : (xfunL Tryz.prog [] 1000 frIsA [.agg v.cs, .c (.int i)] [] 0 []).map (fun q => (q.1, q.2.1, q.2.2.1)) = some (true, [], .c (.bool (v.ad i))) := by
  revert i
  refine all8 ?_ ?_ ?_ ?_ ?_ ?_ ?_ ?_ <;> kernel_rfl
theorem adI_in {v : Vi} {i : Nat} (hi : i < 8) : adI v i = v.ad i := by
  unfold adI
  rw [decide_eq_true (by omega), decide_eq_true (by omega)]; rfl
theorem isA_fn (v : Vi) (n : Int) (w : World) : Sx.Fn Tryz.prog fIsA (atW w 0) [.agg v.cs, .c (.int n)] [] 0 fun r _ => r = .c (.bool (adI v n)) := by
  cases h1 : decide (n ≥ 0) with
  | false => exact Fn.xvL (fuel := 1000) (LibOK.nil _) Sp.mixed [false] (r := .c (.bool false)) (ob := tg true (decide (n ≥ 0)) false) (obs := []) (by kernel_rfl) (tg_eq rfl h1) trivial (by unfold adI; rw [h1]; rfl)
  | true =>
    cases h2 : decide (n < 8) with
    | false => exact Fn.xvL (fuel := 1000) (LibOK.nil _) Sp.mixed [true, false] (r := .c (.bool false)) (ob := tg (tg true (decide (n ≥ 0)) true) (decide (n < 8)) false) (obs := []) (by kernel_rfl) (tg_eq (tg_eq rfl h1) h2) trivial (by unfold adI; rw [h1, h2]; rfl)
    | true =>
      rw [decide_eq_true_eq] at h1 h2
      obtain ⟨i, rfl⟩ : ∃ i : Nat, n = i := ⟨n.toNat, by omega⟩
      exact Fn.xvL (LibOK.nil _) Sp.mixed [] (isA_at v i (by omega)) rfl trivial (by rw [adI_in (by omega)])
theorem risA_fn (v : Vi) (n : Int) (w : World) : Sx.Fn Tryz.prog frIsA (atW w 0) [.agg v.cs, .c (.int n)] [] 0 fun r _ => r = .c (.bool (adI v n)) := by
  cases h1 : decide (n ≥ 0) with
  | false => exact Fn.xvL (fuel := 1000) (LibOK.nil _) Sp.mixed [false] (r := .c (.bool false)) (ob := tg true (decide (n ≥ 0)) false) (obs := []) (by kernel_rfl) (tg_eq rfl h1) trivial (by unfold adI; rw [h1]; rfl)
  | true =>
    cases h2 : decide (n < 8) with
    | false => exact Fn.xvL (fuel := 1000) (LibOK.nil _) Sp.mixed [true, false] (r := .c (.bool false)) (ob := tg (tg true (decide (n ≥ 0)) true) (decide (n < 8)) false) (obs := []) (by kernel_rfl) (tg_eq (tg_eq rfl h1) h2) trivial (by unfold adI; rw [h1, h2]; rfl)
    | true =>
      rw [decide_eq_true_eq] at h1 h2
      obtain ⟨i, rfl⟩ : ∃ i : Nat, n = i := ⟨n.toNat, by omega⟩
      exact Fn.xvL (LibOK.nil _) Sp.mixed [] (risA_at v i (by omega)) rfl trivial (by rw [adI_in (by omega)])
theorem isA_ok : ConOK Tryz.prog fIsA isAC := by
  refine pureConB_ok (fn := Tryz.f22) (by kernel_rfl) rfl rfl fun args v hok h => ?_
  split at h <;> try (cases h; done)
  rename_i cs n
  simp only [Option.some.injEq] at h; subst h
  simp only at hok
  have e := Vi.of_cs hok
  refine ⟨rfl, by rw [e]; rfl, fun w => ?_⟩
  generalize Vi.of cs = t at e
  subst e
  exact isA_fn t n w
theorem risA_ok : ConOK Tryz.prog frIsA isAC := by
  refine pureConB_ok (fn := Tryz.f26) (by kernel_rfl) rfl rfl fun args v hok h => ?_
  split at h <;> try (cases h; done)
  rename_i cs n
  simp only [Option.some.injEq] at h; subst h
  simp only at hok
  have e := Vi.of_cs hok
  refine ⟨rfl, by rw [e]; rfl, fun w => ?_⟩
  generalize Vi.of cs = t at e
  subst e
  exact risA_fn t n w

/-! What is approved. -/
def bsU (r : RB) : List SC := (opsBy (opsL r)).map SC.u8
def sU (r : RB) : List UInt8 := (((bsU r).drop 0).take (40 * r.n * 1)).map SC.asU8
def pFl (f : Int) (r : RB) : List UInt8 := [numL f, sU r].flatten
def pRow (r : RB) (m : Nat) : Bool := ((((Nat.ble (0 + 40 * r.n * 1) (bsU r).length && true) && (((bsU r).drop 0).take (40 * r.n * 1)).all SC.isU8) && true) && Nat.ble m 1073741824)
def paO (f : Int) (r : RB) : Bool := bnd (bnd true (opsN r)) (pRow r (pFl f r).length)
theorem pa_run (v : Vi) (f : Int) (off n : Nat) (cells : List SC) (ty : TypeId) : (xfunL Tryz.prog paL 1000 fPaper [.agg v.cs, .c (.int f), .c (.slc 0 off 5 n none)] [(0, some ⟨cells, ty, true, false⟩)] 1 []).map (fun q => (q.1, q.2.1, q.2.2.1)) =
  some (paO f (rbO off n cells ty), [], .agg (Sp.hc (Sp.deriveS (hashL (vhS (Vi.of v.cs))) [118, 111, 116, 101] (pFl f (rbO off n cells ty))))) := by kernel_rfl
def jOk (l : List UInt8) : Bool := (Nat.ble (0 + l.length * 1) (l.map SC.u8).length && true) && ((Sp.rd 0 l.length ⟨l.map SC.u8, tB, true, true⟩).all SC.isU8 && Nat.ble l.length 1073741824)
theorem rpa_run (v : Vi) (f : Int) (off n : Nat) (cells : List SC) (ty : TypeId) : (xfunL Tryz.prog rpaL 1000 frPaper [.agg v.cs, .c (.int f), .c (.slc 0 off 5 n none)] [(0, some ⟨cells, ty, true, false⟩)] 1 []).map (fun q => (q.1, q.2.1, q.2.2.1)) =
  some (bnd (paO f (rbO off n cells ty)) (jOk (pFl f (rbO off n cells ty))), [], .agg (Sp.hc (Sp.deriveS (hashL (vhS (Vi.of v.cs))) [118, 111, 116, 101] (Sp.rdB 0 (pFl f (rbO off n cells ty)).length ⟨(pFl f (rbO off n cells ty)).map SC.u8, tB, true, true⟩)))) := by kernel_rfl
theorem vhS_of (v : Vi) : vhS (Vi.of v.cs) = vhS v := by kernel_rfl
theorem bsU_len (r : RB) : (bsU r).length = 40 * r.n := by
  unfold bsU
  rw [List.length_map, opsBy_len]
  unfold opsL; simp
theorem sU_eq (r : RB) : sU r = opsBy (opsL r) := by
  unfold sU
  have hl := bsU_len r
  rw [List.drop_zero, List.take_of_length_le (by omega)]
  unfold bsU
  rw [List.map_map]
  exact List.map_id'' (fun _ => rfl) _
theorem pFl_eq (f : Int) (r : RB) : pFl f r = pBy f (opsL r) := by
  unfold pFl pBy
  rw [sU_eq]; simp
theorem pBy_len (f : Int) (r : RB) : (pBy f (opsL r)).length = 8 + 40 * r.n := by
  unfold pBy
  rw [List.length_append, opsBy_len]
  unfold opsL
  rw [List.length_map, List.length_range]
  rfl
theorem paO_eq {f : Int} {r : RB} (hr : RBok r) (ho : okOps r = true) (hn : r.n ≤ 1000000) : paO f r = true := by
  have hl := bsU_len r
  refine bnds (bnds rfl (opsN_eq hr ho hn)) ?_
  unfold pRow
  rw [pFl_eq, pBy_len, List.drop_zero, List.take_of_length_le (by omega)]
  have : (bsU r).all SC.isU8 = true := by unfold bsU; exact Sp.isU8s _
  rw [this]
  simp only [Bool.and_eq_true, Nat.ble_eq, and_true, true_and]
  omega
theorem jOk_eq {l : List UInt8} (h : l.length ≤ 1073741824) : jOk l = true := by
  unfold jOk
  rw [Sp.rd_own, Sp.isU8s]
  simp only [Bool.and_eq_true, Nat.ble_eq, and_true, true_and, List.length_map]
  omega
def paC (P : Vi → Int → List Ope → Sp.H4) : Con := sVal [none, none, some 5] fun ps rs => match ps, rs with | [.agg cs, .c (.int f)], [r] => some (isVi cs && (okOps r && Nat.ble r.n 1000000), .agg (Sp.hc (P (Vi.of cs) f (opsL r)))) | _, _ => none
theorem pa_fn (v : Vi) (f : Int) (r : RB) (hr : RBok r) (ho : okOps r = true) (hn : r.n ≤ 1000000) (w : World) : Sx.Fn Tryz.prog fPaper (atW w 0) [.agg v.cs, .c (.int f), .c (.slc 0 r.off 5 r.n none)] [(0, some r.b)] 1 fun x _ => x = .agg (Sp.hc (paperS v f (opsL r))) := by
  obtain ⟨off, n, cells, ty, tail, own⟩ := r
  obtain ⟨hown, htail, hsole⟩ := hr
  simp only at hown htail
  subst hown htail
  refine Fn.xvL paL_ok Sp.mixed [] (pa_run v f off n cells ty) (paO_eq (r := rbO off n cells ty) ⟨rfl, rfl, hsole⟩ ho hn) trivial ?_
  rw [vhS_of, pFl_eq]; rfl
theorem rpa_fn (v : Vi) (f : Int) (r : RB) (hr : RBok r) (ho : okOps r = true) (hn : r.n ≤ 1000000) (w : World) : Sx.Fn Tryz.prog frPaper (atW w 0) [.agg v.cs, .c (.int f), .c (.slc 0 r.off 5 r.n none)] [(0, some r.b)] 1 fun x _ => x = .agg (Sp.hc (paperS v f (opsL r))) := by
  obtain ⟨off, n, cells, ty, tail, own⟩ := r
  obtain ⟨hown, htail, hsole⟩ := hr
  simp only at hown htail hn
  subst hown htail
  refine Fn.xvL rpaL_ok Sp.mixed [] (rpa_run v f off n cells ty) (bnds (paO_eq (r := rbO off n cells ty) ⟨rfl, rfl, hsole⟩ ho hn) (jOk_eq ?_)) trivial ?_
  · rw [pFl_eq, pBy_len]; show 8 + 40 * n ≤ 1073741824; omega
  · rw [vhS_of, pFl_eq, Sp.rdB_own]; rfl
theorem pa_okG {f : FuncId} {fn : Func} (hf : Tryz.prog.funcs[f]? = some fn) (hn : (fn.name == "runtime.NumGoroutine") = false) (hb : fn.body.isNone = false)
    (h : ∀ (v : Vi) (i : Int) (r : RB), RBok r → okOps r = true → r.n ≤ 1000000 → ∀ w, Sx.Fn Tryz.prog f (atW w 0) [.agg v.cs, .c (.int i), .c (.slc 0 r.off 5 r.n none)] [(0, some r.b)] 1 fun x _ => x = .agg (Sp.hc (paperS v i (opsL r)))) {P : Vi → Int → List Ope → Sp.H4} (hP : P = paperS) : ConOK Tryz.prog f (paC P) := by
  subst hP
  refine sVal_ok hf hn hb fun ps rs v h' hps hrs => ?_
  split at h' <;> try (cases h'; done)
  rename_i cs i r
  simp only [Option.some.injEq, Prod.mk.injEq, Bool.and_eq_true, Nat.ble_eq] at h'
  obtain ⟨⟨hv, ho, hn⟩, rfl⟩ := h'
  refine ⟨rfl, fun w => ?_⟩
  have e := Vi.of_cs hv
  generalize Vi.of cs = t at e
  subst e
  exact h t i r (hrs r (by simp)) ho hn w
theorem pa_ok {P : Vi → Int → List Ope → Sp.H4} (hP : P = paperS) : ConOK Tryz.prog fPaper (paC P) := pa_okG (fn := Tryz.f13) (by kernel_rfl) rfl rfl pa_fn hP
theorem rpa_ok {P : Vi → Int → List Ope → Sp.H4} (hP : P = paperS) : ConOK Tryz.prog frPaper (paC P) := pa_okG (fn := Tryz.f14) (by kernel_rfl) rfl rfl rpa_fn hP

end Go.Proofs.YtabiknpgakhkkaaGreat.Vt
