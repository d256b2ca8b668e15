/-
  Whether votes approve operations: the document's Check.
-/
import Derived.Test.YtabiknpgakhkkaaVtC
namespace Go.Proofs.Ytabiknpgakhkkaa.Vt
open Go.RowKit Go.Proofs.Ytabiknpgakhkkaa.Sx Go.Proofs.Ytabiknpgakhkkaa.Pw Go.Proofs.Ytabiknpgakhkkaa.Vw
set_option linter.unusedVariables false
set_option linter.unusedSimpArgs false
set_option maxRecDepth 10000

abbrev frChk : Nat := 12
abbrev rckL (Q : Vi → Int → List Ope → AQ) (P : Vi → Int → List Ope → Sp.H4) : List (Nat × Con) := [(frApp, rappG Q), (frPaper, paC P), (frIsA, isAC), (Sg.frVer, Sg.verC)]
theorem rckL_ok : LibOK Try.prog (rckL applyQ paperS) := LibOK.cons (rappG_ok rfl) (LibOK.cons (rpa_ok rfl) (LibOK.cons risA_ok (LibOK.cons Sg.rver_ok (LibOK.nil _))))
def rckI (r : RB) (v : Vi) (H : List SC) (i : Int) : St := ⟨[(3, .c (.slc 0 r.off 3 r.n none)), (4, .c (.ptr 1 0)), (13, .c (.ptr 2 0)), (14, .c (.int i))], [(0, some r.b), (1, some ⟨v.cs, tView, false, true⟩), (2, some ⟨H, tHash, false, true⟩)], 3, 92⟩
def rckCut (a b c : Nat) : Cut := ⟨[(3, false), (4, false), (13, false), (14, true)], [(a, 0, true), (b, 1, true), (c, 2, true)], 3⟩
section
variable (Q : Vi → Int → List Ope → AQ) (P : Vi → Int → List Ope → Sp.H4) (v : Vi) (f : Int) (o1 n1 : Nat) (c1 : List SC) (t1 : TypeId) (o2 n2 : Nat) (c2 : List SC) (t2 : TypeId)
theorem rck0_run : (xfunL Try.prog (rckL Q P) 1000 frChk (ckA v f o1 0 o2 0) (ckT o1 0 c1 t1 o2 0 c2 t2) 2 []).map (fun q => (q.1, q.2.1, q.2.2.1)) = some (true, [], .c (.int 0)) := by kernel_rfl
theorem rck1_run : (xfunL Try.prog (rckL Q P) 1000 frChk (ckA v f o1 0 o2 n2) (ckT o1 0 c1 t1 o2 n2 c2 t2) 2 [true, true]).map (fun q => (q.1, q.2.1, q.2.2.1)) = some (ty_ true (decide ((n2 : Int) > 0)), [], .c (.int 8)) := by kernel_rfl
def rck3 : Bool := bnd (tn true (n0 n1)) (rapOb (rbO o1 n1 c1 t1))
theorem rck_bad : (xfunL Try.prog (rckL Q P) 1000 frChk (ckA v f o1 n1 o2 n2) (ckT o1 n1 c1 t1 o2 n2 c2 t2) 2 [false, true]).map (fun q => (q.1, q.2.1, q.2.2.1)) =
  some (ty_ (rck3 o1 n1 c1 t1) ((ckE Q v f o1 n1 c1 t1).e != 0), [], .c (.int (ckE Q v f o1 n1 c1 t1).e)) := by kernel_rfl
theorem rck_start : stepL Try.prog (rckL Q P) 0 1000 8 (bodyOf Try.prog frChk) ⟨argTmps (ckA v f o1 n1 o2 n2) 0, ckT o1 n1 c1 t1 o2 n2 c2 t2, 2, 92⟩ [false, false] [] (rckCut 1 2 110) =
  some (bnd (bnd (tn (rck3 o1 n1 c1 t1) ((ckE Q v f o1 n1 c1 t1).e != 0)) (paOk (rbO o1 n1 c1 t1))) (plH (rbO o2 n2 c2 t2) (ckH P v f o1 n1 c1 t1)), [], rckI (rbO o2 n2 c2 t2) v (Sp.hc (ckH P v f o1 n1 c1 t1)) 0) := by kernel_rfl
end
def lk3 (r : RB) (o : Nat) (acc : Bool) : Bool := bnd acc (Nat.blt o r.b.cells.length && isI r.b.cells o)
def f0 (r : RB) (i : Nat) (acc : Bool) : Bool := lk3 r (r.off + i * 3) (ix3 r i acc)
def pv (i : Nat) : Nat := (IntKind.i64.wrap ((i : Int) - 1)).toNat
def fp (r : RB) (i : Nat) (acc : Bool) : Bool := lk3 r (r.off + pv i * 3) (bnd acc (decide (0 ≤ IntKind.i64.wrap ((i : Int) - 1)) && (Nat.blt (pv i) r.n && true)))
def l2s (r : RB) (i : Nat) (acc : Bool) : Bool := bnd (ix3 r i acc) (Nat.ble (r.off + i * 3 + 1 + 2) r.b.cells.length && (isI r.b.cells (r.off + i * 3 + 1) && (isI r.b.cells (r.off + i * 3 + 1 + 1) && true)))
section
variable (Q : Vi → Int → List Ope → AQ) (P : Vi → Int → List Ope → Sp.H4) (v : Vi) (off n : Nat) (cells : List SC) (ty : TypeId) (H : Sp.H4) (i : Nat)
def ra1 (b : Bool) : Bool := tg (f0 (rbO off n cells ty) i (lt3 (rbO off n cells ty) i)) (!adI (Vi.of v.cs) (vtAt (rbO off n cells ty) i).ad) b
def ra2 (b : Bool) : Bool := tg (ra1 v off n cells ty i false) (decide ((i : Int) > 0)) b
def ra3 : Bool := f0 (rbO off n cells ty) i (fp (rbO off n cells ty) i (ra2 v off n cells ty i true))
def raP : Bool := decide (gI cells (off + pv i * 3) ≥ (vtAt (rbO off n cells ty) i).ad)
def ra6 (acc : Bool) : Bool := l2s (rbO off n cells ty) i (sgO v (vtAt (rbO off n cells ty) i).ad (f0 (rbO off n cells ty) i acc))
theorem rck_round : stepL Try.prog (rckL Q P) 0 1000 4 (loopB ((bodyOf Try.prog frChk).drop 8)) (rckI (rbO off n cells ty) v (Sp.hc H) i) [true, false, true, false, false] [] (rckCut 0 1 2) =
  some (bnd (tn (ra6 v off n cells ty i (tn (ra3 v off n cells ty i) (raP off n cells ty i))) (ckV v off n cells ty H i)) (plH (rbO off n cells ty) H), [], rckI (rbO off n cells ty) v (Sp.hc H) (IntKind.i64.wrap ((i : Int) + 1))) := by kernel_rfl
theorem rck_round0 : stepL Try.prog (rckL Q P) 0 1000 4 (loopB ((bodyOf Try.prog frChk).drop 8)) (rckI (rbO off n cells ty) v (Sp.hc H) i) [true, false, false, false, false] [] (rckCut 0 1 2) =
  some (bnd (tn (ra6 v off n cells ty i (ra2 v off n cells ty i false)) (ckV v off n cells ty H i)) (plH (rbO off n cells ty) H), [], rckI (rbO off n cells ty) v (Sp.hc H) (IntKind.i64.wrap ((i : Int) + 1))) := by kernel_rfl
theorem rck_r1 : retL Try.prog (rckL Q P) frChk 1000 4 (loopB ((bodyOf Try.prog frChk).drop 8)) (rckI (rbO off n cells ty) v (Sp.hc H) i) [true, true, true] = some (ra1 v off n cells ty i true, [], .c (.int 6)) := by kernel_rfl
theorem rck_r2 : retL Try.prog (rckL Q P) frChk 1000 4 (loopB ((bodyOf Try.prog frChk).drop 8)) (rckI (rbO off n cells ty) v (Sp.hc H) i) [true, false, true, true] = some (ty_ (ra3 v off n cells ty i) (raP off n cells ty i), [], .c (.int 6)) := by kernel_rfl
theorem rck_r3 : retL Try.prog (rckL Q P) frChk 1000 4 (loopB ((bodyOf Try.prog frChk).drop 8)) (rckI (rbO off n cells ty) v (Sp.hc H) i) [true, false, true, false, true] = some (ty_ (ra6 v off n cells ty i (tn (ra3 v off n cells ty i) (raP off n cells ty i))) (ckV v off n cells ty H i), [], .c (.int 4)) := by kernel_rfl
theorem rck_r4 : retL Try.prog (rckL Q P) frChk 1000 4 (loopB ((bodyOf Try.prog frChk).drop 8)) (rckI (rbO off n cells ty) v (Sp.hc H) i) [true, false, false, false, true] = some (ty_ (ra6 v off n cells ty i (ra2 v off n cells ty i false)) (ckV v off n cells ty H i), [], .c (.int 4)) := by kernel_rfl
theorem rck_out : exitL Try.prog (rckL Q P) 0 1000 4 (loopB ((bodyOf Try.prog frChk).drop 8)) (rckI (rbO off n cells ty) v (Sp.hc H) n) [false] [] (rckCut 0 1 2) =
  some (0, bnd (tn true (decide ((n : Int) < (n : Int)))) (plH (rbO off n cells ty) H), [], rckI (rbO off n cells ty) v (Sp.hc H) n) := by kernel_rfl
theorem rck_e1 : (finL Try.prog (rckL Q P) frChk 1000 100 ((bodyOf Try.prog frChk).drop 9) (rckI (rbO off n cells ty) v (Sp.hc H) n) [true]).map (fun q => (q.1, q.2.1, q.2.2.1)) = some (ty_ true (decide ((n : Int) < v.k)), [], .c (.int 8)) := by kernel_rfl
theorem rck_e2 : (finL Try.prog (rckL Q P) frChk 1000 100 ((bodyOf Try.prog frChk).drop 9) (rckI (rbO off n cells ty) v (Sp.hc H) n) [false]).map (fun q => (q.1, q.2.1, q.2.2.1)) = some (tn true (decide ((n : Int) < v.k)), [], .c (.int 0)) := by kernel_rfl
end
theorem lk3_eq {r : RB} (h : okVt r = true) {j : Nat} {acc : Bool} (ha : acc = true) (hj : j < r.n * 3) : lk3 r (r.off + j) acc = true := by
  have hi := isI3 h hj
  unfold okVt at h
  simp only [Bool.and_eq_true, Nat.ble_eq] at h
  refine bnds ha ?_
  rw [hi, show Nat.blt (r.off + j) r.b.cells.length = true by rw [Nat.blt_eq]; omega]; rfl
theorem f0_eq {r : RB} (h : okVt r = true) {i : Nat} {acc : Bool} (ha : acc = true) (hi : i < r.n) : f0 r i acc = true := lk3_eq h (ix3_eq ha hi) (by omega)
theorem pv_eq {i : Nat} (h0 : 0 < i) (hi : i < 1000000) : pv i = i - 1 := by
  unfold pv
  rw [wrapN (show (0 : Int) ≤ (i : Int) - 1 by omega) (by omega)]; omega
theorem fp_eq {r : RB} (h : okVt r = true) {i : Nat} {acc : Bool} (ha : acc = true) (h0 : 0 < i) (hi : i < r.n) (hn : r.n ≤ 1000000) : fp r i acc = true := by
  unfold fp
  rw [pv_eq h0 (by omega)]
  refine lk3_eq h (bnds ha ?_) (by omega)
  rw [wrapN (show (0 : Int) ≤ (i : Int) - 1 by omega) (by omega), decide_eq_true (by omega), show Nat.blt (i - 1) r.n = true by rw [Nat.blt_eq]; omega]; rfl
theorem l2s_eq {r : RB} (h : okVt r = true) {i : Nat} {acc : Bool} (ha : acc = true) (hi : i < r.n) : l2s r i acc = true := by
  have h1 : isI r.b.cells (r.off + i * 3 + 1) = true := isI3 (j := i * 3 + 1) h (by omega)
  have h2 : isI r.b.cells (r.off + i * 3 + 1 + 1) = true := isI3 (j := i * 3 + 1 + 1) h (by omega)
  unfold okVt at h
  simp only [Bool.and_eq_true, Nat.ble_eq] at h
  refine bnds (ix3_eq ha hi) ?_
  rw [h1, h2, show Nat.ble (r.off + i * 3 + 1 + 2) r.b.cells.length = true by rw [Nat.ble_eq]; omega]; rfl

theorem rchk_fn (v : Vi) (f : Int) (r q : RB) (hr : RBok r) (ho : okOps r = true) (hn : r.n ≤ 1000000) (hq : RBok q) (oq : okVt q = true) (hqn : q.n ≤ 1000000) (w : World) :
    Sx.Fn Try.prog frChk (atW w 0) [.agg v.cs, .c (.int f), .c (.slc 0 r.off 5 r.n none), .c (.slc 1 q.off 3 q.n none)] [(0, some r.b), (1, some q.b)] 2 fun x _ => x = .c (.int (chkR applyQ paperS (Vi.of v.cs) f (opsL r) (vtL q))) := by
  obtain ⟨o1, n1, c1, t1, tail1, own1⟩ := r
  obtain ⟨o2, n2, c2, t2, tail2, own2⟩ := q
  obtain ⟨a1, a2, a3⟩ := hr
  obtain ⟨b1, b2, b3⟩ := hq
  simp only at a1 a2 b1 b2 hn hqn
  subst a1 a2 b1 b2
  have hr : RBok (rbO o1 n1 c1 t1) := ⟨rfl, rfl, a3⟩
  have hq : RBok (rbO o2 n2 c2 t2) := ⟨rfl, rfl, b3⟩
  have ho : okOps (rbO o1 n1 c1 t1) = true := ho
  have oq : okVt (rbO o2 n2 c2 t2) = true := oq
  show Sx.Fn Try.prog frChk (atW w 0) (ckA v f o1 n1 o2 n2) (ckT o1 n1 c1 t1 o2 n2 c2 t2) 2 fun x _ => x = .c (.int (chkR applyQ paperS (Vi.of v.cs) f (opsL (rbO o1 n1 c1 t1)) (vtL (rbO o2 n2 c2 t2))))
  have hlen : (vtL (rbO o2 n2 c2 t2)).length = n2 := vtL_len _
  cases n1 with
  | zero =>
    cases n2 with
    | zero => exact Fn.xvL rckL_ok Sp.mixed [] (rck0_run applyQ paperS v f o1 c1 t1 o2 c2 t2) rfl trivial rfl
    | succ k =>
      refine Fn.xvL rckL_ok Sp.mixed [true, true] (rck1_run applyQ paperS v f o1 c1 t1 o2 (k + 1) c2 t2) (ty_eq rfl (decide_eq_true (by omega))) trivial ?_
      unfold chkR
      rw [show (opsL (rbO o1 0 c1 t1)).isEmpty = true from rfl]
      cases hv : vtL (rbO o2 (k + 1) c2 t2) with
      | nil => rw [hv] at hlen; simp at hlen
      | cons => rfl
  | succ k1 =>
  have h0 : n0 (k1 + 1) = false := by unfold n0; simp; omega
  have h3 : rck3 o1 (k1 + 1) c1 t1 = true := bnds (tn_eq rfl h0) (rapOb_eq hr ho hn)
  have hR : chkR applyQ paperS (Vi.of v.cs) f (opsL (rbO o1 (k1 + 1) c1 t1)) (vtL (rbO o2 n2 c2 t2)) = (bif (ckE applyQ v f o1 (k1 + 1) c1 t1).e != 0 then (ckE applyQ v f o1 (k1 + 1) c1 t1).e else bif chkL (Vi.of v.cs) (hashL (ckH paperS v f o1 (k1 + 1) c1 t1)) (vtL (rbO o2 n2 c2 t2)) (-1) != 0 then chkL (Vi.of v.cs) (hashL (ckH paperS v f o1 (k1 + 1) c1 t1)) (vtL (rbO o2 n2 c2 t2)) (-1) else bif decide (((vtL (rbO o2 n2 c2 t2)).length : Int) < v.k) then 8 else 0) := by
    unfold chkR
    rw [opsL_isE]; rfl
  rw [hR]
  cases he : (ckE applyQ v f o1 (k1 + 1) c1 t1).e != 0 with
  | true => exact Fn.xvL rckL_ok Sp.mixed [false, true] (rck_bad applyQ paperS v f o1 (k1 + 1) c1 t1 o2 n2 c2 t2) (ty_eq h3 he) trivial rfl
  | false =>
  simp only [cond_false]
  refine Sx.Fn.of (nt := 92) (by kernel_rfl) rfl ?_
  refine SWs.stepL rckL_ok Sp.mixed [false, false] (rck_start applyQ paperS v f o1 (k1 + 1) c1 t1 o2 n2 c2 t2) (bnds (bnds (tn_eq h3 he) (paOk_eq hr ho hn)) (plH_eq hq _)) trivial ?_
  generalize ckH paperS v f o1 (k1 + 1) c1 t1 = H
  refine SWs.loop (by kernel_rfl) (fun x : Int × Nat => rckI (rbO o2 n2 c2 t2) v (Sp.hc H) x.2) (fun x => n2 - x.2) (fun x => x.2 ≤ n2 ∧ (x.2 = 0 → x.1 = -1) ∧ (0 < x.2 → x.1 = (vtAt (rbO o2 n2 c2 t2) (x.2 - 1)).ad) ∧ chkL (Vi.of v.cs) (hashL H) ((vtL (rbO o2 n2 c2 t2)).drop x.2) x.1 = chkL (Vi.of v.cs) (hashL H) (vtL (rbO o2 n2 c2 t2)) (-1)) (-1, 0) ⟨by simp, fun _ => rfl, fun h => absurd h (by simp), rfl⟩ ?_
  rintro ⟨l, i⟩ ⟨hi, hl0, hl1, hrun⟩
  simp only at hi hrun hl0 hl1
  by_cases hlt : i < n2
  · rw [vtL_drop _ i hlt] at hrun
    have hld : f0 (rbO o2 n2 c2 t2) i (lt3 (rbO o2 n2 c2 t2) i) = true := f0_eq oq (ty_eq rfl (decide_eq_true (by show (i : Int) < (n2 : Int); omega))) hlt
    replace hrun : (bif !adI (Vi.of v.cs) (vtAt (rbO o2 n2 c2 t2) i).ad then 6 else bif decide ((vtAt (rbO o2 n2 c2 t2) i).ad ≤ l) then 6 else bif !Sg.verS ((Vi.of v.cs).t.sg (vtAt (rbO o2 n2 c2 t2) i).ad.toNat) (hashL H) (vtAt (rbO o2 n2 c2 t2) i).E (vtAt (rbO o2 n2 c2 t2) i).S then 4 else chkL (Vi.of v.cs) (hashL H) ((vtL (rbO o2 n2 c2 t2)).drop (i + 1)) (vtAt (rbO o2 n2 c2 t2) i).ad) = chkL (Vi.of v.cs) (hashL H) (vtL (rbO o2 n2 c2 t2)) (-1) := hrun
    cases hA : adI (Vi.of v.cs) (vtAt (rbO o2 n2 c2 t2) i).ad with
    | false =>
      rw [hA] at hrun
      refine SWs.retR rckL_ok Sp.mixed [true, true, true] (rck_r1 applyQ paperS v o2 n2 c2 t2 H i) (tg_eq hld (by rw [hA]; rfl)) trivial fun _ => ?_
      rw [← hrun]; rfl
    | true =>
    obtain ⟨j, hj, hj8⟩ := adI_yes hA
    rw [hA] at hrun
    simp only [Bool.not_true, cond_false] at hrun
    have h1 : ra1 v o2 n2 c2 t2 i false = true := tg_eq hld (by rw [hA]; rfl)
    have hV : ckV v o2 n2 c2 t2 H i = !Sg.verS ((Vi.of v.cs).t.sg (vtAt (rbO o2 n2 c2 t2) i).ad.toNat) (hashL H) (vtAt (rbO o2 n2 c2 t2) i).E (vtAt (rbO o2 n2 c2 t2) i).S := by
      unfold ckV
      rw [hj, sgX_eq, Int.toNat_natCast]
    have h6 : ∀ acc, acc = true → ra6 v o2 n2 c2 t2 i acc = true := fun acc ha => by
      unfold ra6
      rw [hj]
      exact l2s_eq oq (sgO_eq v hj8 (f0_eq oq ha hlt)) hlt
    rw [← hV] at hrun
    have go : ∀ (hrun : chkL (Vi.of v.cs) (hashL H) ((vtL (rbO o2 n2 c2 t2)).drop (i + 1)) (vtAt (rbO o2 n2 c2 t2) i).ad = chkL (Vi.of v.cs) (hashL H) (vtL (rbO o2 n2 c2 t2)) (-1)), ∃ y : Int × Nat, (y.2 ≤ n2 ∧ (y.2 = 0 → y.1 = -1) ∧ (0 < y.2 → y.1 = (vtAt (rbO o2 n2 c2 t2) (y.2 - 1)).ad) ∧ chkL (Vi.of v.cs) (hashL H) ((vtL (rbO o2 n2 c2 t2)).drop y.2) y.1 = chkL (Vi.of v.cs) (hashL H) (vtL (rbO o2 n2 c2 t2)) (-1)) ∧ n2 - y.2 < n2 - i ∧ rckI (rbO o2 n2 c2 t2) v (Sp.hc H) (IntKind.i64.wrap ((i : Int) + 1)) = rckI (rbO o2 n2 c2 t2) v (Sp.hc H) y.2 := fun hrun =>
      ⟨((vtAt (rbO o2 n2 c2 t2) i).ad, i + 1), ⟨by simp only; omega, fun h => absurd h (by simp), fun _ => rfl, hrun⟩, by simp only; omega, by simp only [wrapN (show (0 : Int) ≤ (i : Int) + 1 by omega) (by omega)]; rfl⟩
    by_cases hz : i = 0
    · have hL : decide ((vtAt (rbO o2 n2 c2 t2) i).ad ≤ l) = false := by
        rw [hl0 hz, hj]; exact decide_eq_false (by omega)
      rw [hL] at hrun
      simp only [cond_false] at hrun
      have h2 : ra2 v o2 n2 c2 t2 i false = true := tg_eq h1 (decide_eq_false (by omega))
      cases hW : ckV v o2 n2 c2 t2 H i with
      | true =>
        rw [hW] at hrun
        refine SWs.retR rckL_ok Sp.mixed [true, false, false, false, true] (rck_r4 applyQ paperS v o2 n2 c2 t2 H i) (ty_eq (h6 _ h2) hW) trivial fun _ => ?_
        rw [← hrun]; rfl
      | false =>
        rw [hW] at hrun
        exact SWs.roundL rckL_ok Sp.mixed [true, false, false, false, false] (rck_round0 applyQ paperS v o2 n2 c2 t2 H i) rfl (bnds (tn_eq (h6 _ h2) hW) (plH_eq hq _)) trivial (go hrun)
    · have h2 : ra2 v o2 n2 c2 t2 i true = true := tg_eq h1 (decide_eq_true (by omega))
      have h3 : ra3 v o2 n2 c2 t2 i = true := f0_eq oq (fp_eq oq h2 (by omega) hlt hqn) hlt
      have hP : raP o2 n2 c2 t2 i = decide ((vtAt (rbO o2 n2 c2 t2) i).ad ≤ l) := by
        rw [hl1 (by omega)]
        unfold raP
        rw [pv_eq (by omega) (by omega)]
        rfl
      rw [← hP] at hrun
      cases hL : raP o2 n2 c2 t2 i with
      | true =>
        rw [hL] at hrun
        refine SWs.retR rckL_ok Sp.mixed [true, false, true, true] (rck_r2 applyQ paperS v o2 n2 c2 t2 H i) (ty_eq h3 hL) trivial fun _ => ?_
        rw [← hrun]; rfl
      | false =>
      rw [hL] at hrun
      simp only [cond_false] at hrun
      cases hW : ckV v o2 n2 c2 t2 H i with
      | true =>
        rw [hW] at hrun
        refine SWs.retR rckL_ok Sp.mixed [true, false, true, false, true] (rck_r3 applyQ paperS v o2 n2 c2 t2 H i) (ty_eq (h6 _ (tn_eq h3 hL)) hW) trivial fun _ => ?_
        rw [← hrun]; rfl
      | false =>
        rw [hW] at hrun
        exact SWs.roundL rckL_ok Sp.mixed [true, false, true, false, false] (rck_round applyQ paperS v o2 n2 c2 t2 H i) rfl (bnds (tn_eq (h6 _ (tn_eq h3 hL)) hW) (plH_eq hq _)) trivial (go hrun)
  · obtain rfl : i = n2 := by omega
    rw [List.drop_eq_nil_of_le (by omega)] at hrun
    have hrun : (0 : Int) = chkL (Vi.of v.cs) (hashL H) (vtL (rbO o2 i c2 t2)) (-1) := hrun
    refine SWs.outL rckL_ok Sp.mixed [false] (rck_out applyQ paperS v o2 i c2 t2 H) (bnds (tn_eq rfl (decide_eq_false (by omega))) (plH_eq hq _)) trivial ?_
    rw [← hrun, hlen]
    cases hk : decide ((i : Int) < v.k) with
    | true => exact SWs.finvL rckL_ok Sp.mixed [true] (rck_e1 applyQ paperS v o2 i c2 t2 H) (ty_eq rfl hk) trivial rfl
    | false => exact SWs.finvL rckL_ok Sp.mixed [false] (rck_e2 applyQ paperS v o2 i c2 t2 H) (tn_eq rfl hk) trivial rfl
theorem rchk_ok {K : Vi → Int → List Ope → List Vot → Int} (hK : K = chkR applyQ paperS) : ConOK Try.prog frChk (chkC K) := chk_okG (fn := Try.f12) (by kernel_rfl) rfl rfl rchk_fn hK

end Go.Proofs.Ytabiknpgakhkkaa.Vt
