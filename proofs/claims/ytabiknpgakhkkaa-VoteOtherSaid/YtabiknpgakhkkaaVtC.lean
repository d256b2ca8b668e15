/-
  Whether votes approve operations: the program's Check.
-/
import Derived.Test.YtabiknpgakhkkaaVtB
import Derived.Test.YtabiknpgakhkkaaSvA
namespace Go.Proofs.Ytabiknpgakhkkaa.Vt
open Go.RowKit Go.Proofs.Ytabiknpgakhkkaa.Sx Go.Proofs.Ytabiknpgakhkkaa.Pw Go.Proofs.Ytabiknpgakhkkaa.Vw
set_option linter.unusedVariables false
set_option linter.unusedSimpArgs false
set_option maxRecDepth 10000

/-! Rows of votes. -/
structure Vot where
  ad : Int
  E : Int
  S : Int
def vtAt (r : RB) (i : Nat) : Vot := ⟨gI r.b.cells (r.off + i * 3), gI r.b.cells (r.off + i * 3 + 1), gI r.b.cells (r.off + i * 3 + 1 + 1)⟩
def vtL (r : RB) : List Vot := (List.range r.n).map (vtAt r)
def okVt (r : RB) : Bool := Nat.ble (r.off + r.n * 3) r.b.cells.length && ((r.b.cells.drop r.off).take (r.n * 3)).all SC.isInt
def lt3 (r : RB) (i : Nat) : Bool := ty_ true (decide ((i : Int) < (r.n : Int)))
def ix3 (r : RB) (i : Nat) (acc : Bool) : Bool := bnd acc (decide (0 ≤ (i : Int)) && (Nat.blt (i : Int).toNat r.n && true))
def ld3 (r : RB) (i : Nat) (acc : Bool) : Bool := bnd (ix3 r i acc) (Nat.ble (r.off + i * 3 + 3) r.b.cells.length && (isI r.b.cells (r.off + i * 3) && (isI r.b.cells (r.off + i * 3 + 1) && (isI r.b.cells (r.off + i * 3 + 1 + 1) && true))))
theorem isI3 {r : RB} (h : okVt r = true) {j : Nat} (hj : j < r.n * 3) : isI r.b.cells (r.off + j) = true := by
  unfold okVt at h
  simp only [Bool.and_eq_true, Nat.ble_eq, List.all_eq_true] at h
  have hlt : r.off + j < r.b.cells.length := by omega
  unfold isI
  rw [List.getD, List.getElem?_eq_getElem hlt]
  refine h.2 _ ?_
  have hs : ((r.b.cells.drop r.off).take (r.n * 3))[j]? = some r.b.cells[r.off + j] := by
    rw [List.getElem?_take, if_pos (by omega), List.getElem?_drop, List.getElem?_eq_getElem (by omega)]
  exact List.mem_of_getElem? hs
theorem ix3_eq {r : RB} {i : Nat} {acc : Bool} (ha : acc = true) (hi : i < r.n) : ix3 r i acc = true := by
  refine bnds ha ?_
  rw [decide_eq_true (by omega), show Nat.blt (i : Int).toNat r.n = true by rw [Nat.blt_eq, Int.toNat_natCast]; exact hi]; rfl
theorem ld3_eq {r : RB} (h : okVt r = true) {i : Nat} {acc : Bool} (ha : acc = true) (hi : i < r.n) : ld3 r i acc = true := by
  have h0 : isI r.b.cells (r.off + i * 3) = true := isI3 h (by omega)
  have h1 : isI r.b.cells (r.off + i * 3 + 1) = true := isI3 (j := i * 3 + 1) h (by omega)
  have h2 : isI r.b.cells (r.off + i * 3 + 1 + 1) = true := isI3 (j := i * 3 + 1 + 1) h (by omega)
  unfold okVt at h
  simp only [Bool.and_eq_true, Nat.ble_eq] at h
  refine bnds (ix3_eq ha hi) ?_
  rw [h0, h1, h2, show Nat.ble (r.off + i * 3 + 3) r.b.cells.length = true by rw [Nat.ble_eq]; omega]; rfl
theorem vtL_drop (r : RB) (i : Nat) (hi : i < r.n) : (vtL r).drop i = vtAt r i :: (vtL r).drop (i + 1) := by
  have hl : i < (vtL r).length := by unfold vtL; simpa using hi
  have hg : (vtL r)[i]? = some (vtAt r i) := by unfold vtL; simp [hi]
  rw [List.getElem?_eq_getElem hl] at hg
  rw [List.drop_eq_getElem_cons hl, Option.some.inj hg]

/-! What Check answers. -/
def chkL (v : Vi) (H : List UInt8) : List Vot → Int → Int
  | [], _ => 0
  | x :: l, last => bif !adI v x.ad then 6 else bif decide (x.ad ≤ last) then 6 else bif !Sg.verS (v.t.sg x.ad.toNat) H x.E x.S then 4 else chkL v H l x.ad
def chkR (Q : Vi → Int → List Ope → AQ) (P : Vi → Int → List Ope → Sp.H4) (v : Vi) (f : Int) (l : List Ope) (m : List Vot) : Int :=
  bif l.isEmpty then (bif m.isEmpty then 0 else 8) else bif (Q v f l).e != 0 then (Q v f l).e else bif chkL v (hashL (P v f l)) m (-1) != 0 then chkL v (hashL (P v f l)) m (-1) else bif decide ((m.length : Int) < v.k) then 8 else 0

abbrev ckL (Q : Vi → Int → List Ope → AQ) (P : Vi → Int → List Ope → Sp.H4) : List (Nat × Con) := [(fApp, appG Q), (fPaper, paC P), (fIsA, isAC), (Sg.fVer, Sg.verC)]
theorem ckL_ok : LibOK Try.prog (ckL applyQ paperS) := LibOK.cons (appG_ok rfl) (LibOK.cons (pa_ok rfl) (LibOK.cons isA_ok (LibOK.cons Sg.ver_ok (LibOK.nil _))))
def ckI (r : RB) (v : Vi) (H : List SC) (l i : Int) : St := ⟨[(3, .c (.slc 0 r.off 3 r.n none)), (4, .c (.ptr 1 0)), (13, .c (.ptr 2 0)), (14, .c (.int l)), (44, .c (.slc 0 r.off 3 r.n none)), (45, .c (.int r.n)), (46, .c (.int i))], [(0, some r.b), (1, some ⟨v.cs, tView, false, true⟩), (2, some ⟨H, tHash, false, true⟩)], 3, 83⟩
def ckCut (a b c : Nat) : Cut := ⟨[(3, false), (4, false), (13, false), (14, true), (44, false), (45, true), (46, true)], [(a, 0, true), (b, 1, true), (c, 2, true)], 3⟩
def ckT (o1 n1 : Nat) (c1 : List SC) (t1 : TypeId) (o2 n2 : Nat) (c2 : List SC) (t2 : TypeId) : Tab := [(0, some ⟨c1, t1, true, false⟩), (1, some ⟨c2, t2, true, false⟩)]
def ckA (v : Vi) (f : Int) (o1 n1 o2 n2 : Nat) : List SV := [.agg v.cs, .c (.int f), .c (.slc 0 o1 5 n1 none), .c (.slc 1 o2 3 n2 none)]
def n0 (n1 : Nat) : Bool := (n1 : Int) == 0
def plH (r : RB) (H : Sp.H4) : Bool := r.b.cells.all SC.plain && ((Sp.hc H).all SC.plain && true)
def sgX (v : Vi) (a : Int) : Int := gI v.cs (0 + 1 + 0 + a.toNat * 2 + 0)
def sgO (v : Vi) (a : Int) (acc : Bool) : Bool := bnd (bnd acc (decide (0 ≤ a) && Nat.blt a.toNat 8)) (Nat.blt (0 + 1 + 0 + a.toNat * 2 + 0) v.cs.length && isI v.cs (0 + 1 + 0 + a.toNat * 2 + 0))
section
variable (Q : Vi → Int → List Ope → AQ) (P : Vi → Int → List Ope → Sp.H4) (v : Vi) (f : Int) (o1 n1 : Nat) (c1 : List SC) (t1 : TypeId) (o2 n2 : Nat) (c2 : List SC) (t2 : TypeId)
def ckE : AQ := Q (Vi.of v.cs) f (opsL (rbO o1 n1 c1 t1))
def ckH : Sp.H4 := P (Vi.of v.cs) f (opsL (rbO o1 n1 c1 t1))
def ck3 : Bool := bnd (tn (tg true (n0 n1) false) (n0 n1)) (apOb (rbO o1 n1 c1 t1))
theorem ck_bad : (xfunL Try.prog (ckL Q P) 1000 fChk (ckA v f o1 n1 o2 n2) (ckT o1 n1 c1 t1 o2 n2 c2 t2) 2 [false, false, false, true]).map (fun q => (q.1, q.2.1, q.2.2.1)) =
  some (ty_ (ck3 o1 n1 c1 t1) ((ckE Q v f o1 n1 c1 t1).e != 0), [], .c (.int (ckE Q v f o1 n1 c1 t1).e)) := by kernel_rfl
theorem ck_start : stepL Try.prog (ckL Q P) 0 1000 11 (bodyOf Try.prog fChk) ⟨argTmps (ckA v f o1 n1 o2 n2) 0, ckT o1 n1 c1 t1 o2 n2 c2 t2, 2, 83⟩ [false, false, false, false] [] (ckCut 1 2 130) =
  some (bnd (bnd (tn (ck3 o1 n1 c1 t1) ((ckE Q v f o1 n1 c1 t1).e != 0)) (paOk (rbO o1 n1 c1 t1))) (plH (rbO o2 n2 c2 t2) (ckH P v f o1 n1 c1 t1)), [], ckI (rbO o2 n2 c2 t2) v (Sp.hc (ckH P v f o1 n1 c1 t1)) (-1) 0) := by kernel_rfl
end
section
variable (Q : Vi → Int → List Ope → AQ) (P : Vi → Int → List Ope → Sp.H4) (v : Vi) (off n : Nat) (cells : List SC) (ty : TypeId) (H : Sp.H4) (l : Int) (i : Nat)
def ck4 : Bool := tg (ld3 (rbO off n cells ty) i (lt3 (rbO off n cells ty) i)) (!adI (Vi.of v.cs) (vtAt (rbO off n cells ty) i).ad) false
def ck5 : Bool := sgO v (vtAt (rbO off n cells ty) i).ad (tn (ck4 v off n cells ty i) (decide ((vtAt (rbO off n cells ty) i).ad ≤ l)))
def ckV : Bool := !Sg.verS (sgX v (vtAt (rbO off n cells ty) i).ad) (hashL H) (vtAt (rbO off n cells ty) i).E (vtAt (rbO off n cells ty) i).S
theorem ck_round : stepL Try.prog (ckL Q P) 0 1000 4 (loopB ((bodyOf Try.prog fChk).drop 11)) (ckI (rbO off n cells ty) v (Sp.hc H) l i) [true, false, false, false] [] (ckCut 0 1 2) =
  some (bnd (tn (ck5 v off n cells ty l i) (ckV v off n cells ty H i)) (plH (rbO off n cells ty) H), [], ckI (rbO off n cells ty) v (Sp.hc H) (vtAt (rbO off n cells ty) i).ad (IntKind.i64.wrap ((i : Int) + 1))) := by kernel_rfl
theorem ck_r1 : retL Try.prog (ckL Q P) fChk 1000 4 (loopB ((bodyOf Try.prog fChk).drop 11)) (ckI (rbO off n cells ty) v (Sp.hc H) l i) [true, true, true] =
  some (tg (ld3 (rbO off n cells ty) i (lt3 (rbO off n cells ty) i)) (!adI (Vi.of v.cs) (vtAt (rbO off n cells ty) i).ad) true, [], .c (.int 6)) := by kernel_rfl
theorem ck_r2 : retL Try.prog (ckL Q P) fChk 1000 4 (loopB ((bodyOf Try.prog fChk).drop 11)) (ckI (rbO off n cells ty) v (Sp.hc H) l i) [true, false, true] =
  some (ty_ (ck4 v off n cells ty i) (decide ((vtAt (rbO off n cells ty) i).ad ≤ l)), [], .c (.int 6)) := by kernel_rfl
theorem ck_r3 : retL Try.prog (ckL Q P) fChk 1000 4 (loopB ((bodyOf Try.prog fChk).drop 11)) (ckI (rbO off n cells ty) v (Sp.hc H) l i) [true, false, false, true] =
  some (ty_ (ck5 v off n cells ty l i) (ckV v off n cells ty H i), [], .c (.int 4)) := by kernel_rfl
theorem ck_out : exitL Try.prog (ckL Q P) 0 1000 4 (loopB ((bodyOf Try.prog fChk).drop 11)) (ckI (rbO off n cells ty) v (Sp.hc H) l n) [false] [] (ckCut 0 1 2) =
  some (0, bnd (tn true (decide ((n : Int) < (n : Int)))) (plH (rbO off n cells ty) H), [], ckI (rbO off n cells ty) v (Sp.hc H) l n) := by kernel_rfl
theorem ck_e1 : (finL Try.prog (ckL Q P) fChk 1000 100 ((bodyOf Try.prog fChk).drop 12) (ckI (rbO off n cells ty) v (Sp.hc H) l n) [true]).map (fun q => (q.1, q.2.1, q.2.2.1)) =
  some (ty_ true (decide ((n : Int) < v.k)), [], .c (.int 8)) := by kernel_rfl
theorem ck_e2 : (finL Try.prog (ckL Q P) fChk 1000 100 ((bodyOf Try.prog fChk).drop 12) (ckI (rbO off n cells ty) v (Sp.hc H) l n) [false]).map (fun q => (q.1, q.2.1, q.2.2.1)) =
  some (tn true (decide ((n : Int) < v.k)), [], .c (.int 0)) := by kernel_rfl
end

theorem sgX_eq (v : Vi) (i : Nat) : sgX v (i : Int) = (Vi.of v.cs).t.sg i := by
  unfold sgX
  rw [Int.toNat_natCast, show 0 + 1 + 0 + i * 2 + 0 = 1 + 2 * i by omega]; rfl
theorem sg_isI (v : Vi) : ((List.range 8).all fun i => isI v.cs (1 + 2 * i)) = true := rfl
theorem sgO_eq (v : Vi) {i : Nat} {acc : Bool} (hi : i < 8) (ha : acc = true) : sgO v (i : Int) acc = true := by
  have h : isI v.cs (1 + 2 * i) = true := List.all_eq_true.1 (sg_isI v) i (by rw [List.mem_range]; exact hi)
  unfold sgO
  rw [Int.toNat_natCast, show 0 + 1 + 0 + i * 2 + 0 = 1 + 2 * i by omega]
  refine bnds (bnds ha ?_) ?_
  · rw [decide_eq_true (by omega), show Nat.blt i 8 = true by rw [Nat.blt_eq]; exact hi]; rfl
  · rw [h, show Nat.blt (1 + 2 * i) v.cs.length = true by rw [Nat.blt_eq, show v.cs.length = 73 from rfl]; omega]; rfl
theorem adI_yes {v : Vi} {a : Int} (h : adI v a = true) : ∃ i : Nat, a = i ∧ i < 8 := by
  unfold adI at h
  cases h1 : decide (a ≥ 0) with
  | false => rw [h1] at h; cases h
  | true =>
  cases h2 : decide (a < 8) with
  | false => rw [h1, h2] at h; cases h
  | true =>
    rw [decide_eq_true_eq] at h1 h2
    exact ⟨a.toNat, by omega, by omega⟩
theorem plH_eq {r : RB} (hr : RBok r) (H : Sp.H4) : plH r H = true := by
  unfold plH
  rw [sole_plain hr.2.2]; rfl
theorem opsL_isE (off n : Nat) (cells : List SC) (ty : TypeId) : (opsL (rbO off (n + 1) cells ty)).isEmpty = false := by
  unfold opsL
  show ((List.range (n + 1)).map _).isEmpty = false
  rw [List.range_succ]; simp
theorem vtL_len (r : RB) : (vtL r).length = r.n := by unfold vtL; simp
theorem chk_fn (v : Vi) (f : Int) (r q : RB) (hr : RBok r) (ho : okOps r = true) (hn : r.n ≤ 1000000) (hq : RBok q) (oq : okVt q = true) (hqn : q.n ≤ 1000000) (w : World) :
    Sx.Fn Try.prog fChk (atW w 0) [.agg v.cs, .c (.int f), .c (.slc 0 r.off 5 r.n none), .c (.slc 1 q.off 3 q.n none)] [(0, some r.b), (1, some q.b)] 2 fun x _ => x = .c (.int (chkR applyQ paperS (Vi.of v.cs) f (opsL r) (vtL q))) := by
  obtain ⟨o1, n1, c1, t1, tail1, own1⟩ := r
  obtain ⟨o2, n2, c2, t2, tail2, own2⟩ := q
  obtain ⟨a1, a2, a3⟩ := hr
  obtain ⟨b1, b2, b3⟩ := hq
  simp only at a1 a2 b1 b2 hn hqn
  subst a1 a2 b1 b2
  have hr : RBok (rbO o1 n1 c1 t1) := ⟨rfl, rfl, a3⟩
  have hq : RBok (rbO o2 n2 c2 t2) := ⟨rfl, rfl, b3⟩
  have ho : okOps (rbO o1 n1 c1 t1) = true := ho
  have oq : okVt (rbO o2 n2 c2 t2) = true := oq
  show Sx.Fn Try.prog fChk (atW w 0) (ckA v f o1 n1 o2 n2) (ckT o1 n1 c1 t1 o2 n2 c2 t2) 2 fun x _ => x = .c (.int (chkR applyQ paperS (Vi.of v.cs) f (opsL (rbO o1 n1 c1 t1)) (vtL (rbO o2 n2 c2 t2))))
  have hlen : (vtL (rbO o2 n2 c2 t2)).length = n2 := vtL_len _
  cases n1 with
  | zero =>
    cases n2 with
    | zero => exact Fn.xvL (LibOK.nil _) Sp.mixed [] (chk0_run v f o1 o2 c1 c2 t1 t2) rfl trivial rfl
    | succ k =>
      refine Fn.xvL (LibOK.nil _) Sp.mixed [true, true] (chk1_run v f o1 o2 (k + 1) c1 c2 t1 t2) (ty_eq rfl (decide_eq_true (by omega))) trivial ?_
      unfold chkR
      rw [show (opsL (rbO o1 0 c1 t1)).isEmpty = true from rfl]
      cases hv : vtL (rbO o2 (k + 1) c2 t2) with
      | nil => rw [hv] at hlen; simp at hlen
      | cons => rfl
  | succ k1 =>
  have h0 : n0 (k1 + 1) = false := by unfold n0; simp; omega
  have h3 : ck3 o1 (k1 + 1) c1 t1 = true := bnds (tn_eq (tg_eq rfl h0) h0) (apOb_eq hr ho)
  have hR : chkR applyQ paperS (Vi.of v.cs) f (opsL (rbO o1 (k1 + 1) c1 t1)) (vtL (rbO o2 n2 c2 t2)) = (bif (ckE applyQ v f o1 (k1 + 1) c1 t1).e != 0 then (ckE applyQ v f o1 (k1 + 1) c1 t1).e else bif chkL (Vi.of v.cs) (hashL (ckH paperS v f o1 (k1 + 1) c1 t1)) (vtL (rbO o2 n2 c2 t2)) (-1) != 0 then chkL (Vi.of v.cs) (hashL (ckH paperS v f o1 (k1 + 1) c1 t1)) (vtL (rbO o2 n2 c2 t2)) (-1) else bif decide (((vtL (rbO o2 n2 c2 t2)).length : Int) < v.k) then 8 else 0) := by
    unfold chkR
    rw [opsL_isE]; rfl
  rw [hR]
  cases he : (ckE applyQ v f o1 (k1 + 1) c1 t1).e != 0 with
  | true => exact Fn.xvL ckL_ok Sp.mixed [false, false, false, true] (ck_bad applyQ paperS v f o1 (k1 + 1) c1 t1 o2 n2 c2 t2) (ty_eq h3 he) trivial rfl
  | false =>
  simp only [cond_false]
  refine Sx.Fn.of (nt := 83) (by kernel_rfl) rfl ?_
  refine SWs.stepL ckL_ok Sp.mixed [false, false, false, false] (ck_start applyQ paperS v f o1 (k1 + 1) c1 t1 o2 n2 c2 t2) (bnds (bnds (tn_eq h3 he) (paOk_eq hr ho hn)) (plH_eq hq _)) trivial ?_
  generalize ckH paperS v f o1 (k1 + 1) c1 t1 = H
  refine SWs.loop (by kernel_rfl) (fun x : Int × Nat => ckI (rbO o2 n2 c2 t2) v (Sp.hc H) x.1 x.2) (fun x => n2 - x.2) (fun x => x.2 ≤ n2 ∧ chkL (Vi.of v.cs) (hashL H) ((vtL (rbO o2 n2 c2 t2)).drop x.2) x.1 = chkL (Vi.of v.cs) (hashL H) (vtL (rbO o2 n2 c2 t2)) (-1)) (-1, 0) ⟨by simp, rfl⟩ ?_
  rintro ⟨l, i⟩ ⟨hi, hrun⟩
  simp only at hi hrun
  by_cases hlt : i < n2
  · rw [vtL_drop _ i hlt] at hrun
    have hld := ld3_eq oq (acc := lt3 (rbO o2 n2 c2 t2) i) (ty_eq rfl (decide_eq_true (by show (i : Int) < (n2 : Int); omega))) hlt
    replace hrun : (bif !adI (Vi.of v.cs) (vtAt (rbO o2 n2 c2 t2) i).ad then 6 else bif decide ((vtAt (rbO o2 n2 c2 t2) i).ad ≤ l) then 6 else bif !Sg.verS ((Vi.of v.cs).t.sg (vtAt (rbO o2 n2 c2 t2) i).ad.toNat) (hashL H) (vtAt (rbO o2 n2 c2 t2) i).E (vtAt (rbO o2 n2 c2 t2) i).S then 4 else chkL (Vi.of v.cs) (hashL H) ((vtL (rbO o2 n2 c2 t2)).drop (i + 1)) (vtAt (rbO o2 n2 c2 t2) i).ad) = chkL (Vi.of v.cs) (hashL H) (vtL (rbO o2 n2 c2 t2)) (-1) := hrun
    cases hA : adI (Vi.of v.cs) (vtAt (rbO o2 n2 c2 t2) i).ad with
    | false =>
      rw [hA] at hrun
      refine SWs.retR ckL_ok Sp.mixed [true, true, true] (ck_r1 applyQ paperS v o2 n2 c2 t2 H l i) (tg_eq hld (by rw [hA]; rfl)) trivial fun _ => ?_
      rw [← hrun]; rfl
    | true =>
    obtain ⟨j, hj, hj8⟩ := adI_yes hA
    rw [hA] at hrun
    simp only [Bool.not_true, cond_false] at hrun
    have h4 : ck4 v o2 n2 c2 t2 i = true := tg_eq hld (by rw [hA]; rfl)
    cases hL : decide ((vtAt (rbO o2 n2 c2 t2) i).ad ≤ l) with
    | true =>
      rw [hL] at hrun
      refine SWs.retR ckL_ok Sp.mixed [true, false, true] (ck_r2 applyQ paperS v o2 n2 c2 t2 H l i) (ty_eq h4 hL) trivial fun _ => ?_
      rw [← hrun]; rfl
    | false =>
    rw [hL] at hrun
    simp only [cond_false] at hrun
    have h5 : ck5 v o2 n2 c2 t2 l i = true := by
      unfold ck5
      rw [hj]
      exact sgO_eq v hj8 (tn_eq h4 (by rw [← hj]; exact hL))
    have hV : ckV v o2 n2 c2 t2 H i = !Sg.verS ((Vi.of v.cs).t.sg (vtAt (rbO o2 n2 c2 t2) i).ad.toNat) (hashL H) (vtAt (rbO o2 n2 c2 t2) i).E (vtAt (rbO o2 n2 c2 t2) i).S := by
      unfold ckV
      rw [hj, sgX_eq, Int.toNat_natCast]
    rw [← hV] at hrun
    cases hW : ckV v o2 n2 c2 t2 H i with
    | true =>
      rw [hW] at hrun
      refine SWs.retR ckL_ok Sp.mixed [true, false, false, true] (ck_r3 applyQ paperS v o2 n2 c2 t2 H l i) (ty_eq h5 hW) trivial fun _ => ?_
      rw [← hrun]; rfl
    | false =>
      rw [hW] at hrun
      refine SWs.roundL ckL_ok Sp.mixed [true, false, false, false] (ck_round applyQ paperS v o2 n2 c2 t2 H l i) rfl (bnds (tn_eq h5 hW) (plH_eq hq _)) trivial ⟨((vtAt (rbO o2 n2 c2 t2) i).ad, i + 1), ⟨by simp only; omega, hrun⟩, by simp only; omega, ?_⟩
      simp only [wrapN (show (0 : Int) ≤ (i : Int) + 1 by omega) (by omega)]
      rfl
  · obtain rfl : i = n2 := by omega
    rw [List.drop_eq_nil_of_le (by omega)] at hrun
    have hrun : (0 : Int) = chkL (Vi.of v.cs) (hashL H) (vtL (rbO o2 i c2 t2)) (-1) := hrun
    refine SWs.outL ckL_ok Sp.mixed [false] (ck_out applyQ paperS v o2 i c2 t2 H l) (bnds (tn_eq rfl (decide_eq_false (by omega))) (plH_eq hq _)) trivial ?_
    rw [← hrun, hlen]
    cases hk : decide ((i : Int) < v.k) with
    | true => exact SWs.finvL ckL_ok Sp.mixed [true] (ck_e1 applyQ paperS v o2 i c2 t2 H l) (ty_eq rfl hk) trivial rfl
    | false => exact SWs.finvL ckL_ok Sp.mixed [false] (ck_e2 applyQ paperS v o2 i c2 t2 H l) (tn_eq rfl hk) trivial rfl
def chkC (K : Vi → Int → List Ope → List Vot → Int) : Con := sVal [none, none, some 5, some 3] fun ps rs => match ps, rs with | [.agg cs, .c (.int f)], [r, q] => some (isVi cs && (okOps r && (Nat.ble r.n 1000000 && (okVt q && Nat.ble q.n 1000000))), .c (.int (K (Vi.of cs) f (opsL r) (vtL q)))) | _, _ => none
theorem chk_okG {g : FuncId} {fn : Func} (hf : Try.prog.funcs[g]? = some fn) (hn : (fn.name == "runtime.NumGoroutine") = false) (hb : fn.body.isNone = false)
    (h : ∀ (v : Vi) (f : Int) (r q : RB), RBok r → okOps r = true → r.n ≤ 1000000 → RBok q → okVt q = true → q.n ≤ 1000000 → ∀ w, Sx.Fn Try.prog g (atW w 0) [.agg v.cs, .c (.int f), .c (.slc 0 r.off 5 r.n none), .c (.slc 1 q.off 3 q.n none)] [(0, some r.b), (1, some q.b)] 2 fun x _ => x = .c (.int (chkR applyQ paperS (Vi.of v.cs) f (opsL r) (vtL q))))
    {K : Vi → Int → List Ope → List Vot → Int} (hK : K = chkR applyQ paperS) : ConOK Try.prog g (chkC K) := by
  subst hK
  refine sVal_ok hf hn hb fun ps rs v h' hps hrs => ?_
  split at h' <;> try (cases h'; done)
  rename_i cs i r q
  simp only [Option.some.injEq, Prod.mk.injEq, Bool.and_eq_true, Nat.ble_eq] at h'
  obtain ⟨⟨hv, ho, hn, oq, hqn⟩, rfl⟩ := h'
  refine ⟨rfl, fun w => ?_⟩
  have e := Vi.of_cs hv
  have := h (Vi.of cs) i r q (hrs r (by simp)) ho hn (hrs q (by simp)) oq hqn w
  rw [← e] at this
  exact this
theorem chk_ok {K : Vi → Int → List Ope → List Vot → Int} (hK : K = chkR applyQ paperS) : ConOK Try.prog fChk (chkC K) := chk_okG (fn := Try.f11) (by kernel_rfl) rfl rfl chk_fn hK

end Go.Proofs.Ytabiknpgakhkkaa.Vt
