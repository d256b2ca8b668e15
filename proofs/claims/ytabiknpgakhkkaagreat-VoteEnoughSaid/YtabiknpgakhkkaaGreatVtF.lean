/-
  Whether votes approve operations: the program's Check. Whether votes approve operations: the document's Check. The document's approvals.
-/
import Derived.Test.YtabiknpgakhkkaaGreatVtB
import Derived.Test.YtabiknpgakhkkaaGreatSgB
set_option maxRecDepth 20000
section
namespace Go.Proofs.YtabiknpgakhkkaaGreat.Vt
open Go.RowKit Go.Proofs.YtabiknpgakhkkaaGreat.Sx Go.Proofs.YtabiknpgakhkkaaGreat.Pw Go.Proofs.YtabiknpgakhkkaaGreat.Vw
set_option linter.unusedVariables false
set_option linter.unusedSimpArgs false
set_option maxRecDepth 10000

/-! Rows of votes. -/
structure Vot where
  ad : Int
  E : Int
  S : Int
def vtAt (r : RB) (i : Nat) : Vot := ⟨gI r.b.cells (r.off + i * 3), gI r.b.cells (r.off + i * 3 + 1), gI r.b.cells (r.off + i * 3 + 1 + 1)⟩
def vtL (r : RB) : List Vot := (List.range r.n).map (vtAt r)
def okVt (r : RB) : Bool := Nat.ble (r.off + r.n * 3) r.b.cells.length && ((r.b.cells.drop r.off).take (r.n * 3)).all SC.isInt
def lt3 (r : RB) (i : Nat) : Bool := ty_ true (decide ((i : Int) < (r.n : Int)))
def ix3 (r : RB) (i : Nat) (acc : Bool) : Bool := bnd acc (decide (0 ≤ (i : Int)) && (Nat.blt (i : Int).toNat r.n && true))
def ld3 (r : RB) (i : Nat) (acc : Bool) : Bool := bnd (ix3 r i acc) (Nat.ble (r.off + i * 3 + 3) r.b.cells.length && (isI r.b.cells (r.off + i * 3) && (isI r.b.cells (r.off + i * 3 + 1) && (isI r.b.cells (r.off + i * 3 + 1 + 1) && true))))
theorem isI3 {r : RB} (h : okVt r = true) {j : Nat} (hj : j < r.n * 3) : isI r.b.cells (r.off + j) = true := by
  unfold okVt at h
  simp only [Bool.and_eq_true, Nat.ble_eq, List.all_eq_true] at h
  have hlt : r.off + j < r.b.cells.length := by omega
  unfold isI
  rw [List.getD, List.getElem?_eq_getElem hlt]
  refine h.2 _ ?_
  have hs : ((r.b.cells.drop r.off).take (r.n * 3))[j]? = some r.b.cells[r.off + j] := by
    rw [List.getElem?_take, if_pos (by omega), List.getElem?_drop, List.getElem?_eq_getElem (by omega)]
  exact List.mem_of_getElem? hs
theorem ix3_eq {r : RB} {i : Nat} {acc : Bool} (ha : acc = true) (hi : i < r.n) : ix3 r i acc = true := by
  refine bnds ha ?_
  rw [decide_eq_true (by omega), show Nat.blt (i : Int).toNat r.n = true by rw [Nat.blt_eq, Int.toNat_natCast]; exact hi]; rfl
theorem ld3_eq {r : RB} (h : okVt r = true) {i : Nat} {acc : Bool} (ha : acc = true) (hi : i < r.n) : ld3 r i acc = true := by
  have h0 : isI r.b.cells (r.off + i * 3) = true := isI3 h (by omega)
  have h1 : isI r.b.cells (r.off + i * 3 + 1) = true := isI3 (j := i * 3 + 1) h (by omega)
  have h2 : isI r.b.cells (r.off + i * 3 + 1 + 1) = true := isI3 (j := i * 3 + 1 + 1) h (by omega)
  unfold okVt at h
  simp only [Bool.and_eq_true, Nat.ble_eq] at h
  refine bnds (ix3_eq ha hi) ?_
  rw [h0, h1, h2, show Nat.ble (r.off + i * 3 + 3) r.b.cells.length = true by rw [Nat.ble_eq]; omega]; rfl
theorem vtL_drop (r : RB) (i : Nat) (hi : i < r.n) : (vtL r).drop i = vtAt r i :: (vtL r).drop (i + 1) := by
  have hl : i < (vtL r).length := by unfold vtL; simpa using hi
  have hg : (vtL r)[i]? = some (vtAt r i) := by unfold vtL; simp [hi]
  rw [List.getElem?_eq_getElem hl] at hg
  rw [List.drop_eq_getElem_cons hl, Option.some.inj hg]

/-! What Check answers. -/
def chkL (v : Vi) (H : List UInt8) : List Vot → Int → Int
  | [], _ => 0
  | x :: l, last => bif !adI v x.ad then 6 else bif decide (x.ad ≤ last) then 6 else bif !Sg.verS (v.t.sg x.ad.toNat) H x.E x.S then 4 else chkL v H l x.ad
def chkR (Q : Vi → Int → List Ope → AQ) (P : Vi → Int → List Ope → Sp.H4) (v : Vi) (f : Int) (l : List Ope) (m : List Vot) : Int :=
  bif l.isEmpty then (bif m.isEmpty then 0 else 8) else bif (Q v f l).e != 0 then (Q v f l).e else bif chkL v (hashL (P v f l)) m (-1) != 0 then chkL v (hashL (P v f l)) m (-1) else bif decide ((m.length : Int) < v.k) then 8 else 0

abbrev ckL (Q : Vi → Int → List Ope → AQ) (P : Vi → Int → List Ope → Sp.H4) : List (Nat × Con) := [(fApp, appG Q), (fPaper, paC P), (fIsA, isAC), (Sg.fVer, Sg.verC)]
theorem ckL_ok : LibOK Tryz.prog (ckL applyQ paperS) := LibOK.cons (appG_ok rfl) (LibOK.cons (pa_ok rfl) (LibOK.cons isA_ok (LibOK.cons Sg.ver_ok (LibOK.nil _))))
def ckI (r : RB) (v : Vi) (H : List SC) (l i : Int) : St := ⟨[(3, .c (.slc 0 r.off 3 r.n none)), (4, .c (.ptr 1 0)), (13, .c (.ptr 2 0)), (14, .c (.int l)), (44, .c (.slc 0 r.off 3 r.n none)), (45, .c (.int r.n)), (46, .c (.int i))], [(0, some r.b), (1, some ⟨v.cs, tView, false, true⟩), (2, some ⟨H, tHash, false, true⟩)], 3, 83⟩
def ckCut (a b c : Nat) : Cut := ⟨[(3, false), (4, false), (13, false), (14, true), (44, false), (45, true), (46, true)], [(a, 0, true), (b, 1, true), (c, 2, true)], 3⟩
def ckT (o1 n1 : Nat) (c1 : List SC) (t1 : TypeId) (o2 n2 : Nat) (c2 : List SC) (t2 : TypeId) : Tab := [(0, some ⟨c1, t1, true, false⟩), (1, some ⟨c2, t2, true, false⟩)]
def ckA (v : Vi) (f : Int) (o1 n1 o2 n2 : Nat) : List SV := [.agg v.cs, .c (.int f), .c (.slc 0 o1 5 n1 none), .c (.slc 1 o2 3 n2 none)]
def n0 (n1 : Nat) : Bool := (n1 : Int) == 0
def plH (r : RB) (H : Sp.H4) : Bool := r.b.cells.all SC.plain && ((Sp.hc H).all SC.plain && true)
def sgX (v : Vi) (a : Int) : Int := gI v.cs (0 + 1 + 0 + a.toNat * 2 + 0)
def sgO (v : Vi) (a : Int) (acc : Bool) : Bool := bnd (bnd acc (decide (0 ≤ a) && Nat.blt a.toNat 8)) (Nat.blt (0 + 1 + 0 + a.toNat * 2 + 0) v.cs.length && isI v.cs (0 + 1 + 0 + a.toNat * 2 + 0))
section
variable (Q : Vi → Int → List Ope → AQ) (P : Vi → Int → List Ope → Sp.H4) (v : Vi) (f : Int) (o1 n1 : Nat) (c1 : List SC) (t1 : TypeId) (o2 n2 : Nat) (c2 : List SC) (t2 : TypeId)
def ckE : AQ := Q (Vi.of v.cs) f (opsL (rbO o1 n1 c1 t1))
def ckH : Sp.H4 := P (Vi.of v.cs) f (opsL (rbO o1 n1 c1 t1))
def ck3 : Bool := bnd (tn (tg true (n0 n1) false) (n0 n1)) (apOb (rbO o1 n1 c1 t1))
theorem ck_bad : (xfunL Tryz.prog (ckL Q P) 1000 fChk (ckA v f o1 n1 o2 n2) (ckT o1 n1 c1 t1 o2 n2 c2 t2) 2 [false, false, false, true]).map (fun q => (q.1, q.2.1, q.2.2.1)) =
  some (ty_ (ck3 o1 n1 c1 t1) ((ckE Q v f o1 n1 c1 t1).e != 0), [], .c (.int (ckE Q v f o1 n1 c1 t1).e)) := by kernel_rfl
theorem ck_start : stepL Tryz.prog (ckL Q P) 0 1000 11 (bodyOf Tryz.prog fChk) ⟨argTmps (ckA v f o1 n1 o2 n2) 0, ckT o1 n1 c1 t1 o2 n2 c2 t2, 2, 83⟩ [false, false, false, false] [] (ckCut 1 2 130) =
  some (bnd (bnd (tn (ck3 o1 n1 c1 t1) ((ckE Q v f o1 n1 c1 t1).e != 0)) (paOk (rbO o1 n1 c1 t1))) (plH (rbO o2 n2 c2 t2) (ckH P v f o1 n1 c1 t1)), [], ckI (rbO o2 n2 c2 t2) v (Sp.hc (ckH P v f o1 n1 c1 t1)) (-1) 0) := by kernel_rfl
end
section
variable (Q : Vi → Int → List Ope → AQ) (P : Vi → Int → List Ope → Sp.H4) (v : Vi) (off n : Nat) (cells : List SC) (ty : TypeId) (H : Sp.H4) (l : Int) (i : Nat)
def ck4 : Bool := tg (ld3 (rbO off n cells ty) i (lt3 (rbO off n cells ty) i)) (!adI (Vi.of v.cs) (vtAt (rbO off n cells ty) i).ad) false
def ck5 : Bool := sgO v (vtAt (rbO off n cells ty) i).ad (tn (ck4 v off n cells ty i) (decide ((vtAt (rbO off n cells ty) i).ad ≤ l)))
def ckV : Bool := !Sg.verS (sgX v (vtAt (rbO off n cells ty) i).ad) (hashL H) (vtAt (rbO off n cells ty) i).E (vtAt (rbO off n cells ty) i).S
theorem ck_round : stepL Tryz.prog (ckL Q P) 0 1000 4 (loopB ((bodyOf Tryz.prog fChk).drop 11)) (ckI (rbO off n cells ty) v (Sp.hc H) l i) [true, false, false, false] [] (ckCut 0 1 2) =
  some (bnd (tn (ck5 v off n cells ty l i) (ckV v off n cells ty H i)) (plH (rbO off n cells ty) H), [], ckI (rbO off n cells ty) v (Sp.hc H) (vtAt (rbO off n cells ty) i).ad (IntKind.i64.wrap ((i : Int) + 1))) := by kernel_rfl
theorem ck_r1 : retL Tryz.prog (ckL Q P) fChk 1000 4 (loopB ((bodyOf Tryz.prog fChk).drop 11)) (ckI (rbO off n cells ty) v (Sp.hc H) l i) [true, true, true] =
  some (tg (ld3 (rbO off n cells ty) i (lt3 (rbO off n cells ty) i)) (!adI (Vi.of v.cs) (vtAt (rbO off n cells ty) i).ad) true, [], .c (.int 6)) := by kernel_rfl
theorem ck_r2 : retL Tryz.prog (ckL Q P) fChk 1000 4 (loopB ((bodyOf Tryz.prog fChk).drop 11)) (ckI (rbO off n cells ty) v (Sp.hc H) l i) [true, false, true] =
  some (ty_ (ck4 v off n cells ty i) (decide ((vtAt (rbO off n cells ty) i).ad ≤ l)), [], .c (.int 6)) := by kernel_rfl
theorem ck_r3 : retL Tryz.prog (ckL Q P) fChk 1000 4 (loopB ((bodyOf Tryz.prog fChk).drop 11)) (ckI (rbO off n cells ty) v (Sp.hc H) l i) [true, false, false, true] =
  some (ty_ (ck5 v off n cells ty l i) (ckV v off n cells ty H i), [], .c (.int 4)) := by kernel_rfl
theorem ck_out : exitL Tryz.prog (ckL Q P) 0 1000 4 (loopB ((bodyOf Tryz.prog fChk).drop 11)) (ckI (rbO off n cells ty) v (Sp.hc H) l n) [false] [] (ckCut 0 1 2) =
  some (0, bnd (tn true (decide ((n : Int) < (n : Int)))) (plH (rbO off n cells ty) H), [], ckI (rbO off n cells ty) v (Sp.hc H) l n) := by kernel_rfl
theorem ck_e1 : (finL Tryz.prog (ckL Q P) fChk 1000 100 ((bodyOf Tryz.prog fChk).drop 12) (ckI (rbO off n cells ty) v (Sp.hc H) l n) [true]).map (fun q => (q.1, q.2.1, q.2.2.1)) =
  some (ty_ true (decide ((n : Int) < v.k)), [], .c (.int 8)) := by kernel_rfl
theorem ck_e2 : (finL Tryz.prog (ckL Q P) fChk 1000 100 ((bodyOf Tryz.prog fChk).drop 12) (ckI (rbO off n cells ty) v (Sp.hc H) l n) [false]).map (fun q => (q.1, q.2.1, q.2.2.1)) =
  some (tn true (decide ((n : Int) < v.k)), [], .c (.int 0)) := by kernel_rfl
end

theorem sgX_eq (v : Vi) (i : Nat) : sgX v (i : Int) = (Vi.of v.cs).t.sg i := by
  unfold sgX
  rw [Int.toNat_natCast, show 0 + 1 + 0 + i * 2 + 0 = 1 + 2 * i by omega]; rfl
theorem sg_isI (v : Vi) : ((List.range 8).all fun i => isI v.cs (1 + 2 * i)) = true := rfl
theorem sgO_eq (v : Vi) {i : Nat} {acc : Bool} (hi : i < 8) (ha : acc = true) : sgO v (i : Int) acc = true := by
  have h : isI v.cs (1 + 2 * i) = true := List.all_eq_true.1 (sg_isI v) i (by rw [List.mem_range]; exact hi)
  unfold sgO
  rw [Int.toNat_natCast, show 0 + 1 + 0 + i * 2 + 0 = 1 + 2 * i by omega]
  refine bnds (bnds ha ?_) ?_
  · rw [decide_eq_true (by omega), show Nat.blt i 8 = true by rw [Nat.blt_eq]; exact hi]; rfl
  · rw [h, show Nat.blt (1 + 2 * i) v.cs.length = true by rw [Nat.blt_eq, show v.cs.length = 73 from rfl]; omega]; rfl
theorem adI_yes {v : Vi} {a : Int} (h : adI v a = true) : ∃ i : Nat, a = i ∧ i < 8 := by
  unfold adI at h
  cases h1 : decide (a ≥ 0) with
  | false => rw [h1] at h; cases h
  | true =>
  cases h2 : decide (a < 8) with
  | false => rw [h1, h2] at h; cases h
  | true =>
    rw [decide_eq_true_eq] at h1 h2
    exact ⟨a.toNat, by omega, by omega⟩
theorem plH_eq {r : RB} (hr : RBok r) (H : Sp.H4) : plH r H = true := by
  unfold plH
  rw [sole_plain hr.2.2]; rfl
theorem opsL_isE (off n : Nat) (cells : List SC) (ty : TypeId) : (opsL (rbO off (n + 1) cells ty)).isEmpty = false := by
  unfold opsL
  show ((List.range (n + 1)).map _).isEmpty = false
  rw [List.range_succ]; simp
theorem vtL_len (r : RB) : (vtL r).length = r.n := by unfold vtL; simp
theorem chk_fn (v : Vi) (f : Int) (r q : RB) (hr : RBok r) (ho : okOps r = true) (hn : r.n ≤ 1000000) (hq : RBok q) (oq : okVt q = true) (hqn : q.n ≤ 1000000) (w : World) :
    Sx.Fn Tryz.prog fChk (atW w 0) [.agg v.cs, .c (.int f), .c (.slc 0 r.off 5 r.n none), .c (.slc 1 q.off 3 q.n none)] [(0, some r.b), (1, some q.b)] 2 fun x _ => x = .c (.int (chkR applyQ paperS (Vi.of v.cs) f (opsL r) (vtL q))) := by
  obtain ⟨o1, n1, c1, t1, tail1, own1⟩ := r
  obtain ⟨o2, n2, c2, t2, tail2, own2⟩ := q
  obtain ⟨a1, a2, a3⟩ := hr
  obtain ⟨b1, b2, b3⟩ := hq
  simp only at a1 a2 b1 b2 hn hqn
  subst a1 a2 b1 b2
  have hr : RBok (rbO o1 n1 c1 t1) := ⟨rfl, rfl, a3⟩
  have hq : RBok (rbO o2 n2 c2 t2) := ⟨rfl, rfl, b3⟩
  have ho : okOps (rbO o1 n1 c1 t1) = true := ho
  have oq : okVt (rbO o2 n2 c2 t2) = true := oq
  show Sx.Fn Tryz.prog fChk (atW w 0) (ckA v f o1 n1 o2 n2) (ckT o1 n1 c1 t1 o2 n2 c2 t2) 2 fun x _ => x = .c (.int (chkR applyQ paperS (Vi.of v.cs) f (opsL (rbO o1 n1 c1 t1)) (vtL (rbO o2 n2 c2 t2))))
  have hlen : (vtL (rbO o2 n2 c2 t2)).length = n2 := vtL_len _
  cases n1 with
  | zero =>
    cases n2 with
    | zero => exact Fn.xvL (LibOK.nil _) Sp.mixed [] (chk0_run v f o1 o2 c1 c2 t1 t2) rfl trivial rfl
    | succ k =>
      refine Fn.xvL (LibOK.nil _) Sp.mixed [true, true] (chk1_run v f o1 o2 (k + 1) c1 c2 t1 t2) (ty_eq rfl (decide_eq_true (by omega))) trivial ?_
      unfold chkR
      rw [show (opsL (rbO o1 0 c1 t1)).isEmpty = true from rfl]
      cases hv : vtL (rbO o2 (k + 1) c2 t2) with
      | nil => rw [hv] at hlen; simp at hlen
      | cons => rfl
  | succ k1 =>
  have h0 : n0 (k1 + 1) = false := by unfold n0; simp; omega
  have h3 : ck3 o1 (k1 + 1) c1 t1 = true := bnds (tn_eq (tg_eq rfl h0) h0) (apOb_eq hr ho)
  have hR : chkR applyQ paperS (Vi.of v.cs) f (opsL (rbO o1 (k1 + 1) c1 t1)) (vtL (rbO o2 n2 c2 t2)) = (bif (ckE applyQ v f o1 (k1 + 1) c1 t1).e != 0 then (ckE applyQ v f o1 (k1 + 1) c1 t1).e else bif chkL (Vi.of v.cs) (hashL (ckH paperS v f o1 (k1 + 1) c1 t1)) (vtL (rbO o2 n2 c2 t2)) (-1) != 0 then chkL (Vi.of v.cs) (hashL (ckH paperS v f o1 (k1 + 1) c1 t1)) (vtL (rbO o2 n2 c2 t2)) (-1) else bif decide (((vtL (rbO o2 n2 c2 t2)).length : Int) < v.k) then 8 else 0) := by
    unfold chkR
    rw [opsL_isE]; rfl
  rw [hR]
  cases he : (ckE applyQ v f o1 (k1 + 1) c1 t1).e != 0 with
  | true => exact Fn.xvL ckL_ok Sp.mixed [false, false, false, true] (ck_bad applyQ paperS v f o1 (k1 + 1) c1 t1 o2 n2 c2 t2) (ty_eq h3 he) trivial rfl
  | false =>
  simp only [cond_false]
  refine Sx.Fn.of (nt := 83) (by kernel_rfl) rfl ?_
  refine SWs.stepL ckL_ok Sp.mixed [false, false, false, false] (ck_start applyQ paperS v f o1 (k1 + 1) c1 t1 o2 n2 c2 t2) (bnds (bnds (tn_eq h3 he) (paOk_eq hr ho hn)) (plH_eq hq _)) trivial ?_
  generalize ckH paperS v f o1 (k1 + 1) c1 t1 = H
  refine SWs.loop (by kernel_rfl) (fun x : Int × Nat => ckI (rbO o2 n2 c2 t2) v (Sp.hc H) x.1 x.2) (fun x => n2 - x.2) (fun x => x.2 ≤ n2 ∧ chkL (Vi.of v.cs) (hashL H) ((vtL (rbO o2 n2 c2 t2)).drop x.2) x.1 = chkL (Vi.of v.cs) (hashL H) (vtL (rbO o2 n2 c2 t2)) (-1)) (-1, 0) ⟨by simp, rfl⟩ ?_
  rintro ⟨l, i⟩ ⟨hi, hrun⟩
  simp only at hi hrun
  by_cases hlt : i < n2
  · rw [vtL_drop _ i hlt] at hrun
    have hld := ld3_eq oq (acc := lt3 (rbO o2 n2 c2 t2) i) (ty_eq rfl (decide_eq_true (by show (i : Int) < (n2 : Int); omega))) hlt
    replace hrun : (bif !adI (Vi.of v.cs) (vtAt (rbO o2 n2 c2 t2) i).ad then 6 else bif decide ((vtAt (rbO o2 n2 c2 t2) i).ad ≤ l) then 6 else bif !Sg.verS ((Vi.of v.cs).t.sg (vtAt (rbO o2 n2 c2 t2) i).ad.toNat) (hashL H) (vtAt (rbO o2 n2 c2 t2) i).E (vtAt (rbO o2 n2 c2 t2) i).S then 4 else chkL (Vi.of v.cs) (hashL H) ((vtL (rbO o2 n2 c2 t2)).drop (i + 1)) (vtAt (rbO o2 n2 c2 t2) i).ad) = chkL (Vi.of v.cs) (hashL H) (vtL (rbO o2 n2 c2 t2)) (-1) := hrun
    cases hA : adI (Vi.of v.cs) (vtAt (rbO o2 n2 c2 t2) i).ad with
    | false =>
      rw [hA] at hrun
      refine SWs.retR ckL_ok Sp.mixed [true, true, true] (ck_r1 applyQ paperS v o2 n2 c2 t2 H l i) (tg_eq hld (by rw [hA]; rfl)) trivial fun _ => ?_
      rw [← hrun]; rfl
    | true =>
    obtain ⟨j, hj, hj8⟩ := adI_yes hA
    rw [hA] at hrun
    simp only [Bool.not_true, cond_false] at hrun
    have h4 : ck4 v o2 n2 c2 t2 i = true := tg_eq hld (by rw [hA]; rfl)
    cases hL : decide ((vtAt (rbO o2 n2 c2 t2) i).ad ≤ l) with
    | true =>
      rw [hL] at hrun
      refine SWs.retR ckL_ok Sp.mixed [true, false, true] (ck_r2 applyQ paperS v o2 n2 c2 t2 H l i) (ty_eq h4 hL) trivial fun _ => ?_
      rw [← hrun]; rfl
    | false =>
    rw [hL] at hrun
    simp only [cond_false] at hrun
    have h5 : ck5 v o2 n2 c2 t2 l i = true := by
      unfold ck5
      rw [hj]
      exact sgO_eq v hj8 (tn_eq h4 (by rw [← hj]; exact hL))
    have hV : ckV v o2 n2 c2 t2 H i = !Sg.verS ((Vi.of v.cs).t.sg (vtAt (rbO o2 n2 c2 t2) i).ad.toNat) (hashL H) (vtAt (rbO o2 n2 c2 t2) i).E (vtAt (rbO o2 n2 c2 t2) i).S := by
      unfold ckV
      rw [hj, sgX_eq, Int.toNat_natCast]
    rw [← hV] at hrun
    cases hW : ckV v o2 n2 c2 t2 H i with
    | true =>
      rw [hW] at hrun
      refine SWs.retR ckL_ok Sp.mixed [true, false, false, true] (ck_r3 applyQ paperS v o2 n2 c2 t2 H l i) (ty_eq h5 hW) trivial fun _ => ?_
      rw [← hrun]; rfl
    | false =>
      rw [hW] at hrun
      refine SWs.roundL ckL_ok Sp.mixed [true, false, false, false] (ck_round applyQ paperS v o2 n2 c2 t2 H l i) rfl (bnds (tn_eq h5 hW) (plH_eq hq _)) trivial ⟨((vtAt (rbO o2 n2 c2 t2) i).ad, i + 1), ⟨by simp only; omega, hrun⟩, by simp only; omega, ?_⟩
      simp only [wrapN (show (0 : Int) ≤ (i : Int) + 1 by omega) (by omega)]
      rfl
  · obtain rfl : i = n2 := by omega
    rw [List.drop_eq_nil_of_le (by omega)] at hrun
    have hrun : (0 : Int) = chkL (Vi.of v.cs) (hashL H) (vtL (rbO o2 i c2 t2)) (-1) := hrun
    refine SWs.outL ckL_ok Sp.mixed [false] (ck_out applyQ paperS v o2 i c2 t2 H l) (bnds (tn_eq rfl (decide_eq_false (by omega))) (plH_eq hq _)) trivial ?_
    rw [← hrun, hlen]
    cases hk : decide ((i : Int) < v.k) with
    | true => exact SWs.finvL ckL_ok Sp.mixed [true] (ck_e1 applyQ paperS v o2 i c2 t2 H l) (ty_eq rfl hk) trivial rfl
    | false => exact SWs.finvL ckL_ok Sp.mixed [false] (ck_e2 applyQ paperS v o2 i c2 t2 H l) (tn_eq rfl hk) trivial rfl
def chkC (K : Vi → Int → List Ope → List Vot → Int) : Con := sVal [none, none, some 5, some 3] fun ps rs => match ps, rs with | [.agg cs, .c (.int f)], [r, q] => some (isVi cs && (okOps r && (Nat.ble r.n 1000000 && (okVt q && Nat.ble q.n 1000000))), .c (.int (K (Vi.of cs) f (opsL r) (vtL q)))) | _, _ => none
theorem chk_okG {g : FuncId} {fn : Func} (hf : Tryz.prog.funcs[g]? = some fn) (hn : (fn.name == "runtime.NumGoroutine") = false) (hb : fn.body.isNone = false)
    (h : ∀ (v : Vi) (f : Int) (r q : RB), RBok r → okOps r = true → r.n ≤ 1000000 → RBok q → okVt q = true → q.n ≤ 1000000 → ∀ w, Sx.Fn Tryz.prog g (atW w 0) [.agg v.cs, .c (.int f), .c (.slc 0 r.off 5 r.n none), .c (.slc 1 q.off 3 q.n none)] [(0, some r.b), (1, some q.b)] 2 fun x _ => x = .c (.int (chkR applyQ paperS (Vi.of v.cs) f (opsL r) (vtL q))))
    {K : Vi → Int → List Ope → List Vot → Int} (hK : K = chkR applyQ paperS) : ConOK Tryz.prog g (chkC K) := by
  subst hK
  refine sVal_ok hf hn hb fun ps rs v h' hps hrs => ?_
  split at h' <;> try (cases h'; done)
  rename_i cs i r q
  simp only [Option.some.injEq, Prod.mk.injEq, Bool.and_eq_true, Nat.ble_eq] at h'
  obtain ⟨⟨hv, ho, hn, oq, hqn⟩, rfl⟩ := h'
  refine ⟨rfl, fun w => ?_⟩
  have e := Vi.of_cs hv
  have := h (Vi.of cs) i r q (hrs r (by simp)) ho hn (hrs q (by simp)) oq hqn w
  rw [← e] at this
  exact this
theorem chk_ok {K : Vi → Int → List Ope → List Vot → Int} (hK : K = chkR applyQ paperS) : ConOK Tryz.prog fChk (chkC K) := chk_okG (fn := Tryz.f15) (by kernel_rfl) rfl rfl chk_fn hK

end Go.Proofs.YtabiknpgakhkkaaGreat.Vt
end

section
namespace Go.Proofs.YtabiknpgakhkkaaGreat.Vt
open Go.RowKit Go.Proofs.YtabiknpgakhkkaaGreat.Sx Go.Proofs.YtabiknpgakhkkaaGreat.Pw Go.Proofs.YtabiknpgakhkkaaGreat.Vw
set_option linter.unusedVariables false
set_option linter.unusedSimpArgs false
set_option maxRecDepth 10000

abbrev frChk : Nat := 16
abbrev rckL (Q : Vi → Int → List Ope → AQ) (P : Vi → Int → List Ope → Sp.H4) : List (Nat × Con) := [(frApp, rappG Q), (frPaper, paC P), (frIsA, isAC), (Sg.frVer, Sg.verC)]
theorem rckL_ok : LibOK Tryz.prog (rckL applyQ paperS) := LibOK.cons (rappG_ok rfl) (LibOK.cons (rpa_ok rfl) (LibOK.cons risA_ok (LibOK.cons Sg.rver_ok (LibOK.nil _))))
def rckI (r : RB) (v : Vi) (H : List SC) (i : Int) : St := ⟨[(3, .c (.slc 0 r.off 3 r.n none)), (4, .c (.ptr 1 0)), (13, .c (.ptr 2 0)), (14, .c (.int i))], [(0, some r.b), (1, some ⟨v.cs, tView, false, true⟩), (2, some ⟨H, tHash, false, true⟩)], 3, 92⟩
def rckCut (a b c : Nat) : Cut := ⟨[(3, false), (4, false), (13, false), (14, true)], [(a, 0, true), (b, 1, true), (c, 2, true)], 3⟩
section
variable (Q : Vi → Int → List Ope → AQ) (P : Vi → Int → List Ope → Sp.H4) (v : Vi) (f : Int) (o1 n1 : Nat) (c1 : List SC) (t1 : TypeId) (o2 n2 : Nat) (c2 : List SC) (t2 : TypeId)
theorem rck0_run : (xfunL Tryz.prog (rckL Q P) 1000 frChk (ckA v f o1 0 o2 0) (ckT o1 0 c1 t1 o2 0 c2 t2) 2 []).map (fun q => (q.1, q.2.1, q.2.2.1)) = some (true, [], .c (.int 0)) := by kernel_rfl
theorem rck1_run : (xfunL Tryz.prog (rckL Q P) 1000 frChk (ckA v f o1 0 o2 n2) (ckT o1 0 c1 t1 o2 n2 c2 t2) 2 [true, true]).map (fun q => (q.1, q.2.1, q.2.2.1)) = some (ty_ true (decide ((n2 : Int) > 0)), [], .c (.int 8)) := by kernel_rfl
def rck3 : Bool := bnd (tn true (n0 n1)) (rapOb (rbO o1 n1 c1 t1))
theorem rck_bad : (xfunL Tryz.prog (rckL Q P) 1000 frChk (ckA v f o1 n1 o2 n2) (ckT o1 n1 c1 t1 o2 n2 c2 t2) 2 [false, true]).map (fun q => (q.1, q.2.1, q.2.2.1)) =
  some (ty_ (rck3 o1 n1 c1 t1) ((ckE Q v f o1 n1 c1 t1).e != 0), [], .c (.int (ckE Q v f o1 n1 c1 t1).e)) := by kernel_rfl
theorem rck_start : stepL Tryz.prog (rckL Q P) 0 1000 8 (bodyOf Tryz.prog frChk) ⟨argTmps (ckA v f o1 n1 o2 n2) 0, ckT o1 n1 c1 t1 o2 n2 c2 t2, 2, 92⟩ [false, false] [] (rckCut 1 2 110) =
  some (bnd (bnd (tn (rck3 o1 n1 c1 t1) ((ckE Q v f o1 n1 c1 t1).e != 0)) (paOk (rbO o1 n1 c1 t1))) (plH (rbO o2 n2 c2 t2) (ckH P v f o1 n1 c1 t1)), [], rckI (rbO o2 n2 c2 t2) v (Sp.hc (ckH P v f o1 n1 c1 t1)) 0) := by kernel_rfl
end
def lk3 (r : RB) (o : Nat) (acc : Bool) : Bool := bnd acc (Nat.blt o r.b.cells.length && isI r.b.cells o)
def f0 (r : RB) (i : Nat) (acc : Bool) : Bool := lk3 r (r.off + i * 3) (ix3 r i acc)
def pv (i : Nat) : Nat := (IntKind.i64.wrap ((i : Int) - 1)).toNat
def fp (r : RB) (i : Nat) (acc : Bool) : Bool := lk3 r (r.off + pv i * 3) (bnd acc (decide (0 ≤ IntKind.i64.wrap ((i : Int) - 1)) && (Nat.blt (pv i) r.n && true)))
def l2s (r : RB) (i : Nat) (acc : Bool) : Bool := bnd (ix3 r i acc) (Nat.ble (r.off + i * 3 + 1 + 2) r.b.cells.length && (isI r.b.cells (r.off + i * 3 + 1) && (isI r.b.cells (r.off + i * 3 + 1 + 1) && true)))
section
variable (Q : Vi → Int → List Ope → AQ) (P : Vi → Int → List Ope → Sp.H4) (v : Vi) (off n : Nat) (cells : List SC) (ty : TypeId) (H : Sp.H4) (i : Nat)
def ra1 (b : Bool) : Bool := tg (f0 (rbO off n cells ty) i (lt3 (rbO off n cells ty) i)) (!adI (Vi.of v.cs) (vtAt (rbO off n cells ty) i).ad) b
def ra2 (b : Bool) : Bool := tg (ra1 v off n cells ty i false) (decide ((i : Int) > 0)) b
def ra3 : Bool := f0 (rbO off n cells ty) i (fp (rbO off n cells ty) i (ra2 v off n cells ty i true))
def raP : Bool := decide (gI cells (off + pv i * 3) ≥ (vtAt (rbO off n cells ty) i).ad)
def ra6 (acc : Bool) : Bool := l2s (rbO off n cells ty) i (sgO v (vtAt (rbO off n cells ty) i).ad (f0 (rbO off n cells ty) i acc))
theorem rck_round : stepL Tryz.prog (rckL Q P) 0 1000 4 (loopB ((bodyOf Tryz.prog frChk).drop 8)) (rckI (rbO off n cells ty) v (Sp.hc H) i) [true, false, true, false, false] [] (rckCut 0 1 2) =
  some (bnd (tn (ra6 v off n cells ty i (tn (ra3 v off n cells ty i) (raP off n cells ty i))) (ckV v off n cells ty H i)) (plH (rbO off n cells ty) H), [], rckI (rbO off n cells ty) v (Sp.hc H) (IntKind.i64.wrap ((i : Int) + 1))) := by kernel_rfl
theorem rck_round0 : stepL Tryz.prog (rckL Q P) 0 1000 4 (loopB ((bodyOf Tryz.prog frChk).drop 8)) (rckI (rbO off n cells ty) v (Sp.hc H) i) [true, false, false, false, false] [] (rckCut 0 1 2) =
  some (bnd (tn (ra6 v off n cells ty i (ra2 v off n cells ty i false)) (ckV v off n cells ty H i)) (plH (rbO off n cells ty) H), [], rckI (rbO off n cells ty) v (Sp.hc H) (IntKind.i64.wrap ((i : Int) + 1))) := by kernel_rfl
theorem rck_r1 : retL Tryz.prog (rckL Q P) frChk 1000 4 (loopB ((bodyOf Tryz.prog frChk).drop 8)) (rckI (rbO off n cells ty) v (Sp.hc H) i) [true, true, true] = some (ra1 v off n cells ty i true, [], .c (.int 6)) := by kernel_rfl
theorem rck_r2 : retL Tryz.prog (rckL Q P) frChk 1000 4 (loopB ((bodyOf Tryz.prog frChk).drop 8)) (rckI (rbO off n cells ty) v (Sp.hc H) i) [true, false, true, true] = some (ty_ (ra3 v off n cells ty i) (raP off n cells ty i), [], .c (.int 6)) := by kernel_rfl
theorem rck_r3 : retL Tryz.prog (rckL Q P) frChk 1000 4 (loopB ((bodyOf Tryz.prog frChk).drop 8)) (rckI (rbO off n cells ty) v (Sp.hc H) i) [true, false, true, false, true] = some (ty_ (ra6 v off n cells ty i (tn (ra3 v off n cells ty i) (raP off n cells ty i))) (ckV v off n cells ty H i), [], .c (.int 4)) := by kernel_rfl
theorem rck_r4 : retL Tryz.prog (rckL Q P) frChk 1000 4 (loopB ((bodyOf Tryz.prog frChk).drop 8)) (rckI (rbO off n cells ty) v (Sp.hc H) i) [true, false, false, false, true] = some (ty_ (ra6 v off n cells ty i (ra2 v off n cells ty i false)) (ckV v off n cells ty H i), [], .c (.int 4)) := by kernel_rfl
theorem rck_out : exitL Tryz.prog (rckL Q P) 0 1000 4 (loopB ((bodyOf Tryz.prog frChk).drop 8)) (rckI (rbO off n cells ty) v (Sp.hc H) n) [false] [] (rckCut 0 1 2) =
  some (0, bnd (tn true (decide ((n : Int) < (n : Int)))) (plH (rbO off n cells ty) H), [], rckI (rbO off n cells ty) v (Sp.hc H) n) := by kernel_rfl
theorem rck_e1 : (finL Tryz.prog (rckL Q P) frChk 1000 100 ((bodyOf Tryz.prog frChk).drop 9) (rckI (rbO off n cells ty) v (Sp.hc H) n) [true]).map (fun q => (q.1, q.2.1, q.2.2.1)) = some (ty_ true (decide ((n : Int) < v.k)), [], .c (.int 8)) := by kernel_rfl
theorem rck_e2 : (finL Tryz.prog (rckL Q P) frChk 1000 100 ((bodyOf Tryz.prog frChk).drop 9) (rckI (rbO off n cells ty) v (Sp.hc H) n) [false]).map (fun q => (q.1, q.2.1, q.2.2.1)) = some (tn true (decide ((n : Int) < v.k)), [], .c (.int 0)) := by kernel_rfl
end
theorem lk3_eq {r : RB} (h : okVt r = true) {j : Nat} {acc : Bool} (ha : acc = true) (hj : j < r.n * 3) : lk3 r (r.off + j) acc = true := by
  have hi := isI3 h hj
  unfold okVt at h
  simp only [Bool.and_eq_true, Nat.ble_eq] at h
  refine bnds ha ?_
  rw [hi, show Nat.blt (r.off + j) r.b.cells.length = true by rw [Nat.blt_eq]; omega]; rfl
theorem f0_eq {r : RB} (h : okVt r = true) {i : Nat} {acc : Bool} (ha : acc = true) (hi : i < r.n) : f0 r i acc = true := lk3_eq h (ix3_eq ha hi) (by omega)
theorem pv_eq {i : Nat} (h0 : 0 < i) (hi : i < 1000000) : pv i = i - 1 := by
  unfold pv
  rw [wrapN (show (0 : Int) ≤ (i : Int) - 1 by omega) (by omega)]; omega
theorem fp_eq {r : RB} (h : okVt r = true) {i : Nat} {acc : Bool} (ha : acc = true) (h0 : 0 < i) (hi : i < r.n) (hn : r.n ≤ 1000000) : fp r i acc = true := by
  unfold fp
  rw [pv_eq h0 (by omega)]
  refine lk3_eq h (bnds ha ?_) (by omega)
  rw [wrapN (show (0 : Int) ≤ (i : Int) - 1 by omega) (by omega), decide_eq_true (by omega), show Nat.blt (i - 1) r.n = true by rw [Nat.blt_eq]; omega]; rfl
theorem l2s_eq {r : RB} (h : okVt r = true) {i : Nat} {acc : Bool} (ha : acc = true) (hi : i < r.n) : l2s r i acc = true := by
  have h1 : isI r.b.cells (r.off + i * 3 + 1) = true := isI3 (j := i * 3 + 1) h (by omega)
  have h2 : isI r.b.cells (r.off + i * 3 + 1 + 1) = true := isI3 (j := i * 3 + 1 + 1) h (by omega)
  unfold okVt at h
  simp only [Bool.and_eq_true, Nat.ble_eq] at h
  refine bnds (ix3_eq ha hi) ?_
  rw [h1, h2, show Nat.ble (r.off + i * 3 + 1 + 2) r.b.cells.length = true by rw [Nat.ble_eq]; omega]; rfl

theorem rchk_fn (v : Vi) (f : Int) (r q : RB) (hr : RBok r) (ho : okOps r = true) (hn : r.n ≤ 1000000) (hq : RBok q) (oq : okVt q = true) (hqn : q.n ≤ 1000000) (w : World) :
    Sx.Fn Tryz.prog frChk (atW w 0) [.agg v.cs, .c (.int f), .c (.slc 0 r.off 5 r.n none), .c (.slc 1 q.off 3 q.n none)] [(0, some r.b), (1, some q.b)] 2 fun x _ => x = .c (.int (chkR applyQ paperS (Vi.of v.cs) f (opsL r) (vtL q))) := by
  obtain ⟨o1, n1, c1, t1, tail1, own1⟩ := r
  obtain ⟨o2, n2, c2, t2, tail2, own2⟩ := q
  obtain ⟨a1, a2, a3⟩ := hr
  obtain ⟨b1, b2, b3⟩ := hq
  simp only at a1 a2 b1 b2 hn hqn
  subst a1 a2 b1 b2
  have hr : RBok (rbO o1 n1 c1 t1) := ⟨rfl, rfl, a3⟩
  have hq : RBok (rbO o2 n2 c2 t2) := ⟨rfl, rfl, b3⟩
  have ho : okOps (rbO o1 n1 c1 t1) = true := ho
  have oq : okVt (rbO o2 n2 c2 t2) = true := oq
  show Sx.Fn Tryz.prog frChk (atW w 0) (ckA v f o1 n1 o2 n2) (ckT o1 n1 c1 t1 o2 n2 c2 t2) 2 fun x _ => x = .c (.int (chkR applyQ paperS (Vi.of v.cs) f (opsL (rbO o1 n1 c1 t1)) (vtL (rbO o2 n2 c2 t2))))
  have hlen : (vtL (rbO o2 n2 c2 t2)).length = n2 := vtL_len _
  cases n1 with
  | zero =>
    cases n2 with
    | zero => exact Fn.xvL rckL_ok Sp.mixed [] (rck0_run applyQ paperS v f o1 c1 t1 o2 c2 t2) rfl trivial rfl
    | succ k =>
      refine Fn.xvL rckL_ok Sp.mixed [true, true] (rck1_run applyQ paperS v f o1 c1 t1 o2 (k + 1) c2 t2) (ty_eq rfl (decide_eq_true (by omega))) trivial ?_
      unfold chkR
      rw [show (opsL (rbO o1 0 c1 t1)).isEmpty = true from rfl]
      cases hv : vtL (rbO o2 (k + 1) c2 t2) with
      | nil => rw [hv] at hlen; simp at hlen
      | cons => rfl
  | succ k1 =>
  have h0 : n0 (k1 + 1) = false := by unfold n0; simp; omega
  have h3 : rck3 o1 (k1 + 1) c1 t1 = true := bnds (tn_eq rfl h0) (rapOb_eq hr ho hn)
  have hR : chkR applyQ paperS (Vi.of v.cs) f (opsL (rbO o1 (k1 + 1) c1 t1)) (vtL (rbO o2 n2 c2 t2)) = (bif (ckE applyQ v f o1 (k1 + 1) c1 t1).e != 0 then (ckE applyQ v f o1 (k1 + 1) c1 t1).e else bif chkL (Vi.of v.cs) (hashL (ckH paperS v f o1 (k1 + 1) c1 t1)) (vtL (rbO o2 n2 c2 t2)) (-1) != 0 then chkL (Vi.of v.cs) (hashL (ckH paperS v f o1 (k1 + 1) c1 t1)) (vtL (rbO o2 n2 c2 t2)) (-1) else bif decide (((vtL (rbO o2 n2 c2 t2)).length : Int) < v.k) then 8 else 0) := by
    unfold chkR
    rw [opsL_isE]; rfl
  rw [hR]
  cases he : (ckE applyQ v f o1 (k1 + 1) c1 t1).e != 0 with
  | true => exact Fn.xvL rckL_ok Sp.mixed [false, true] (rck_bad applyQ paperS v f o1 (k1 + 1) c1 t1 o2 n2 c2 t2) (ty_eq h3 he) trivial rfl
  | false =>
  simp only [cond_false]
  refine Sx.Fn.of (nt := 92) (by kernel_rfl) rfl ?_
  refine SWs.stepL rckL_ok Sp.mixed [false, false] (rck_start applyQ paperS v f o1 (k1 + 1) c1 t1 o2 n2 c2 t2) (bnds (bnds (tn_eq h3 he) (paOk_eq hr ho hn)) (plH_eq hq _)) trivial ?_
  generalize ckH paperS v f o1 (k1 + 1) c1 t1 = H
  refine SWs.loop (by kernel_rfl) (fun x : Int × Nat => rckI (rbO o2 n2 c2 t2) v (Sp.hc H) x.2) (fun x => n2 - x.2) (fun x => x.2 ≤ n2 ∧ (x.2 = 0 → x.1 = -1) ∧ (0 < x.2 → x.1 = (vtAt (rbO o2 n2 c2 t2) (x.2 - 1)).ad) ∧ chkL (Vi.of v.cs) (hashL H) ((vtL (rbO o2 n2 c2 t2)).drop x.2) x.1 = chkL (Vi.of v.cs) (hashL H) (vtL (rbO o2 n2 c2 t2)) (-1)) (-1, 0) ⟨by simp, fun _ => rfl, fun h => absurd h (by simp), rfl⟩ ?_
  rintro ⟨l, i⟩ ⟨hi, hl0, hl1, hrun⟩
  simp only at hi hrun hl0 hl1
  by_cases hlt : i < n2
  · rw [vtL_drop _ i hlt] at hrun
    have hld : f0 (rbO o2 n2 c2 t2) i (lt3 (rbO o2 n2 c2 t2) i) = true := f0_eq oq (ty_eq rfl (decide_eq_true (by show (i : Int) < (n2 : Int); omega))) hlt
    replace hrun : (bif !adI (Vi.of v.cs) (vtAt (rbO o2 n2 c2 t2) i).ad then 6 else bif decide ((vtAt (rbO o2 n2 c2 t2) i).ad ≤ l) then 6 else bif !Sg.verS ((Vi.of v.cs).t.sg (vtAt (rbO o2 n2 c2 t2) i).ad.toNat) (hashL H) (vtAt (rbO o2 n2 c2 t2) i).E (vtAt (rbO o2 n2 c2 t2) i).S then 4 else chkL (Vi.of v.cs) (hashL H) ((vtL (rbO o2 n2 c2 t2)).drop (i + 1)) (vtAt (rbO o2 n2 c2 t2) i).ad) = chkL (Vi.of v.cs) (hashL H) (vtL (rbO o2 n2 c2 t2)) (-1) := hrun
    cases hA : adI (Vi.of v.cs) (vtAt (rbO o2 n2 c2 t2) i).ad with
    | false =>
      rw [hA] at hrun
      refine SWs.retR rckL_ok Sp.mixed [true, true, true] (rck_r1 applyQ paperS v o2 n2 c2 t2 H i) (tg_eq hld (by rw [hA]; rfl)) trivial fun _ => ?_
      rw [← hrun]; rfl
    | true =>
    obtain ⟨j, hj, hj8⟩ := adI_yes hA
    rw [hA] at hrun
    simp only [Bool.not_true, cond_false] at hrun
    have h1 : ra1 v o2 n2 c2 t2 i false = true := tg_eq hld (by rw [hA]; rfl)
    have hV : ckV v o2 n2 c2 t2 H i = !Sg.verS ((Vi.of v.cs).t.sg (vtAt (rbO o2 n2 c2 t2) i).ad.toNat) (hashL H) (vtAt (rbO o2 n2 c2 t2) i).E (vtAt (rbO o2 n2 c2 t2) i).S := by
      unfold ckV
      rw [hj, sgX_eq, Int.toNat_natCast]
    have h6 : ∀ acc, acc = true → ra6 v o2 n2 c2 t2 i acc = true := fun acc ha => by
      unfold ra6
      rw [hj]
      exact l2s_eq oq (sgO_eq v hj8 (f0_eq oq ha hlt)) hlt
    rw [← hV] at hrun
    have go : ∀ (hrun : chkL (Vi.of v.cs) (hashL H) ((vtL (rbO o2 n2 c2 t2)).drop (i + 1)) (vtAt (rbO o2 n2 c2 t2) i).ad = chkL (Vi.of v.cs) (hashL H) (vtL (rbO o2 n2 c2 t2)) (-1)), ∃ y : Int × Nat, (y.2 ≤ n2 ∧ (y.2 = 0 → y.1 = -1) ∧ (0 < y.2 → y.1 = (vtAt (rbO o2 n2 c2 t2) (y.2 - 1)).ad) ∧ chkL (Vi.of v.cs) (hashL H) ((vtL (rbO o2 n2 c2 t2)).drop y.2) y.1 = chkL (Vi.of v.cs) (hashL H) (vtL (rbO o2 n2 c2 t2)) (-1)) ∧ n2 - y.2 < n2 - i ∧ rckI (rbO o2 n2 c2 t2) v (Sp.hc H) (IntKind.i64.wrap ((i : Int) + 1)) = rckI (rbO o2 n2 c2 t2) v (Sp.hc H) y.2 := fun hrun =>
      ⟨((vtAt (rbO o2 n2 c2 t2) i).ad, i + 1), ⟨by simp only; omega, fun h => absurd h (by simp), fun _ => rfl, hrun⟩, by simp only; omega, by simp only [wrapN (show (0 : Int) ≤ (i : Int) + 1 by omega) (by omega)]; rfl⟩
    by_cases hz : i = 0
    · have hL : decide ((vtAt (rbO o2 n2 c2 t2) i).ad ≤ l) = false := by
        rw [hl0 hz, hj]; exact decide_eq_false (by omega)
      rw [hL] at hrun
      simp only [cond_false] at hrun
      have h2 : ra2 v o2 n2 c2 t2 i false = true := tg_eq h1 (decide_eq_false (by omega))
      cases hW : ckV v o2 n2 c2 t2 H i with
      | true =>
        rw [hW] at hrun
        refine SWs.retR rckL_ok Sp.mixed [true, false, false, false, true] (rck_r4 applyQ paperS v o2 n2 c2 t2 H i) (ty_eq (h6 _ h2) hW) trivial fun _ => ?_
        rw [← hrun]; rfl
      | false =>
        rw [hW] at hrun
        exact SWs.roundL rckL_ok Sp.mixed [true, false, false, false, false] (rck_round0 applyQ paperS v o2 n2 c2 t2 H i) rfl (bnds (tn_eq (h6 _ h2) hW) (plH_eq hq _)) trivial (go hrun)
    · have h2 : ra2 v o2 n2 c2 t2 i true = true := tg_eq h1 (decide_eq_true (by omega))
      have h3 : ra3 v o2 n2 c2 t2 i = true := f0_eq oq (fp_eq oq h2 (by omega) hlt hqn) hlt
      have hP : raP o2 n2 c2 t2 i = decide ((vtAt (rbO o2 n2 c2 t2) i).ad ≤ l) := by
        rw [hl1 (by omega)]
        unfold raP
        rw [pv_eq (by omega) (by omega)]
        rfl
      rw [← hP] at hrun
      cases hL : raP o2 n2 c2 t2 i with
      | true =>
        rw [hL] at hrun
        refine SWs.retR rckL_ok Sp.mixed [true, false, true, true] (rck_r2 applyQ paperS v o2 n2 c2 t2 H i) (ty_eq h3 hL) trivial fun _ => ?_
        rw [← hrun]; rfl
      | false =>
      rw [hL] at hrun
      simp only [cond_false] at hrun
      cases hW : ckV v o2 n2 c2 t2 H i with
      | true =>
        rw [hW] at hrun
        refine SWs.retR rckL_ok Sp.mixed [true, false, true, false, true] (rck_r3 applyQ paperS v o2 n2 c2 t2 H i) (ty_eq (h6 _ (tn_eq h3 hL)) hW) trivial fun _ => ?_
        rw [← hrun]; rfl
      | false =>
        rw [hW] at hrun
        exact SWs.roundL rckL_ok Sp.mixed [true, false, true, false, false] (rck_round applyQ paperS v o2 n2 c2 t2 H i) rfl (bnds (tn_eq (h6 _ (tn_eq h3 hL)) hW) (plH_eq hq _)) trivial (go hrun)
  · obtain rfl : i = n2 := by omega
    rw [List.drop_eq_nil_of_le (by omega)] at hrun
    have hrun : (0 : Int) = chkL (Vi.of v.cs) (hashL H) (vtL (rbO o2 i c2 t2)) (-1) := hrun
    refine SWs.outL rckL_ok Sp.mixed [false] (rck_out applyQ paperS v o2 i c2 t2 H) (bnds (tn_eq rfl (decide_eq_false (by omega))) (plH_eq hq _)) trivial ?_
    rw [← hrun, hlen]
    cases hk : decide ((i : Int) < v.k) with
    | true => exact SWs.finvL rckL_ok Sp.mixed [true] (rck_e1 applyQ paperS v o2 i c2 t2 H) (ty_eq rfl hk) trivial rfl
    | false => exact SWs.finvL rckL_ok Sp.mixed [false] (rck_e2 applyQ paperS v o2 i c2 t2 H) (tn_eq rfl hk) trivial rfl
theorem rchk_ok {K : Vi → Int → List Ope → List Vot → Int} (hK : K = chkR applyQ paperS) : ConOK Tryz.prog frChk (chkC K) := chk_okG (fn := Tryz.f16) (by kernel_rfl) rfl rfl rchk_fn hK

end Go.Proofs.YtabiknpgakhkkaaGreat.Vt
end

section
namespace Go.Proofs.YtabiknpgakhkkaaGreat.Vt
open Go.RowKit Go.Proofs.YtabiknpgakhkkaaGreat.Sx Go.Proofs.YtabiknpgakhkkaaGreat.Pw Go.Proofs.YtabiknpgakhkkaaGreat.Vw
set_option linter.unusedVariables false
set_option linter.unusedSimpArgs false
set_option maxRecDepth 10000

abbrev frApr : Nat := 11
abbrev raL (Q : Vi → Int → List Ope → AQ) (P : Vi → Int → List Ope → Sp.H4) : List (Nat × Con) := [(frApp, rappG Q), (frPaper, paC P), (frIsA, isAC), (Sg.frSign, Sg.rsignC)]
theorem raL_ok : LibOK Tryz.prog (raL applyQ paperS) := LibOK.cons (rappG_ok rfl) (LibOK.cons (rpa_ok rfl) (LibOK.cons risA_ok (LibOK.cons Sg.rsign_ok (LibOK.nil _))))
def vtT (x : Vot) (e : Int) : SV := .tup [.inr [.int x.ad, .int x.E, .int x.S], .inl (.int e)]
def zVt : Vot := ⟨0, 0, 0⟩
/-- An approval, an error. -/
def aprR (Q : Vi → Int → List Ope → AQ) (P : Vi → Int → List Ope → Sp.H4) (v : Vi) (who x y f : Int) (l : List Ope) : Vot × Int :=
  bif l.isEmpty then (zVt, 1) else bif (Q v f l).e != 0 then (zVt, (Q v f l).e) else bif !adI v who then (zVt, 6) else bif y != v.t.sg who.toNat then (zVt, 10) else (⟨who, Sg.signEE x y (hashL (P v f l)), Sg.signSS x y (hashL (P v f l))⟩, 0)
def raA (v : Vi) (who x y f : Int) (off n : Nat) : List SV := [.agg v.cs, .c (.int who), .agg [.int x, .int y], .c (.int f), .c (.slc 0 off 5 n none)]
section
variable (Q : Vi → Int → List Ope → AQ) (P : Vi → Int → List Ope → Sp.H4) (v : Vi) (who x y f : Int) (off n : Nat) (cells : List SC) (ty : TypeId)
noncomputable abbrev raX (told : List Bool) := (xfunL Tryz.prog (raL Q P) 1000 frApr (raA v who x y f off n) [(0, some ⟨cells, ty, true, false⟩)] 1 told).map (fun q => (q.1, q.2.1, q.2.2.1))
def rE : AQ := Q (Vi.of v.cs) f (opsL (rbO off n cells ty))
def rb1 : Bool := bnd (tn true (n0 n)) (rapOb (rbO off n cells ty))
def rb2 : Bool := tn (rb1 off n cells ty) ((rE Q v f off n cells ty).e != 0)
def rb3 : Bool := sgO v who (tn (rb2 Q v f off n cells ty) (!adI (Vi.of v.cs) who))
theorem ra_1 : raX Q P v who x y f off n cells ty [true] = some (ty_ true (n0 n), [], vtT zVt 1) := by kernel_rfl
theorem ra_2 : raX Q P v who x y f off n cells ty [false, true] = some (ty_ (rb1 off n cells ty) ((rE Q v f off n cells ty).e != 0), [], vtT zVt (rE Q v f off n cells ty).e) := by kernel_rfl
theorem ra_3 : raX Q P v who x y f off n cells ty [false, false, true] = some (ty_ (rb2 Q v f off n cells ty) (!adI (Vi.of v.cs) who), [], vtT zVt 6) := by kernel_rfl
theorem ra_4 : raX Q P v who x y f off n cells ty [false, false, false, true] = some (ty_ (rb3 Q v who f off n cells ty) (y != sgX v who), [], vtT zVt 10) := by kernel_rfl
theorem ra_5 : raX Q P v who x y f off n cells ty [false, false, false, false] = some (bnd (tn (rb3 Q v who f off n cells ty) (y != sgX v who)) (paOk (rbO off n cells ty)), [],
  vtT ⟨who, Sg.signEE x y (hashL (P (Vi.of v.cs) f (opsL (rbO off n cells ty)))), Sg.signSS x y (hashL (P (Vi.of v.cs) f (opsL (rbO off n cells ty))))⟩ 0) := by kernel_rfl
end

theorem apr_fn (v : Vi) (who x y f : Int) (r : RB) (hr : RBok r) (ho : okOps r = true) (hn : r.n ≤ 1000000) (w : World) : Sx.Fn Tryz.prog frApr (atW w 0) [.agg v.cs, .c (.int who), .agg [.int x, .int y], .c (.int f), .c (.slc 0 r.off 5 r.n none)] [(0, some r.b)] 1 fun u _ => u = vtT (aprR applyQ paperS (Vi.of v.cs) who x y f (opsL r)).1 (aprR applyQ paperS (Vi.of v.cs) who x y f (opsL r)).2 := by
  obtain ⟨off, n, cells, ty, tail, own⟩ := r
  obtain ⟨hown, htail, hsole⟩ := hr
  simp only at hown htail hn
  subst hown htail
  have hr : RBok (rbO off n cells ty) := ⟨rfl, rfl, hsole⟩
  have ho : okOps (rbO off n cells ty) = true := ho
  show Sx.Fn Tryz.prog frApr (atW w 0) (raA v who x y f off n) [(0, some ⟨cells, ty, true, false⟩)] 1 fun u _ => u = vtT (aprR applyQ paperS (Vi.of v.cs) who x y f (opsL (rbO off n cells ty))).1 (aprR applyQ paperS (Vi.of v.cs) who x y f (opsL (rbO off n cells ty))).2
  cases n with
  | zero => exact Fn.xvL raL_ok Sp.mixed [true] (ra_1 applyQ paperS v who x y f off 0 cells ty) (ty_eq rfl rfl) trivial rfl
  | succ k =>
  have h0 : n0 (k + 1) = false := by unfold n0; simp; omega
  have h1 : rb1 off (k + 1) cells ty = true := bnds (tn_eq rfl h0) (rapOb_eq hr ho hn)
  have hR : aprR applyQ paperS (Vi.of v.cs) who x y f (opsL (rbO off (k + 1) cells ty)) = (bif (rE applyQ v f off (k + 1) cells ty).e != 0 then (zVt, (rE applyQ v f off (k + 1) cells ty).e) else bif !adI (Vi.of v.cs) who then (zVt, 6) else bif y != (Vi.of v.cs).t.sg who.toNat then (zVt, 10) else
      (⟨who, Sg.signEE x y (hashL (paperS (Vi.of v.cs) f (opsL (rbO off (k + 1) cells ty)))), Sg.signSS x y (hashL (paperS (Vi.of v.cs) f (opsL (rbO off (k + 1) cells ty))))⟩, 0)) := by
    unfold aprR
    rw [opsL_isE]; rfl
  rw [hR]
  cases he : (rE applyQ v f off (k + 1) cells ty).e != 0 with
  | true => exact Fn.xvL raL_ok Sp.mixed [false, true] (ra_2 applyQ paperS v who x y f off (k + 1) cells ty) (ty_eq h1 he) trivial rfl
  | false =>
  have h2 : rb2 applyQ v f off (k + 1) cells ty = true := tn_eq h1 he
  cases hA : adI (Vi.of v.cs) who with
  | false => exact Fn.xvL raL_ok Sp.mixed [false, false, true] (ra_3 applyQ paperS v who x y f off (k + 1) cells ty) (ty_eq h2 (by rw [hA]; rfl)) trivial rfl
  | true =>
  obtain ⟨j, rfl, hj8⟩ := adI_yes hA
  have h3 : rb3 applyQ v j f off (k + 1) cells ty = true := sgO_eq v hj8 (tn_eq h2 (by rw [hA]; rfl))
  have hs : sgX v (j : Int) = (Vi.of v.cs).t.sg (j : Int).toNat := by rw [sgX_eq, Int.toNat_natCast]
  rw [← hs]
  cases hY : y != sgX v j with
  | true => exact Fn.xvL raL_ok Sp.mixed [false, false, false, true] (ra_4 applyQ paperS v j x y f off (k + 1) cells ty) (ty_eq h3 hY) trivial rfl
  | false => exact Fn.xvL raL_ok Sp.mixed [false, false, false, false] (ra_5 applyQ paperS v j x y f off (k + 1) cells ty) (bnds (tn_eq h3 hY) (paOk_eq hr ho hn)) trivial rfl
def aprC (A : Vi → Int → Int → Int → Int → List Ope → Vot × Int) : Con := sVal [none, none, none, none, some 5] fun ps rs => match ps, rs with | [.agg cs, .c (.int who), .agg [.int x, .int y], .c (.int f)], [r] => some (isVi cs && (okOps r && Nat.ble r.n 1000000), vtT (A (Vi.of cs) who x y f (opsL r)).1 (A (Vi.of cs) who x y f (opsL r)).2) | _, _ => none
theorem rapr_ok {A : Vi → Int → Int → Int → Int → List Ope → Vot × Int} (hA : A = aprR applyQ paperS) : ConOK Tryz.prog frApr (aprC A) := by
  subst hA
  refine sVal_ok (fn := Tryz.f11) (by kernel_rfl) rfl rfl fun ps rs v h' hps hrs => ?_
  split at h' <;> try (cases h'; done)
  rename_i cs who x y i r
  simp only [Option.some.injEq, Prod.mk.injEq, Bool.and_eq_true, Nat.ble_eq] at h'
  obtain ⟨⟨hv, ho, hn⟩, rfl⟩ := h'
  refine ⟨rfl, fun w => ?_⟩
  have e := Vi.of_cs hv
  have := apr_fn (Vi.of cs) who x y i r (hrs r (by simp)) ho hn w
  rw [← e] at this
  exact this

end Go.Proofs.YtabiknpgakhkkaaGreat.Vt
end

