/-
  Of any view and operations what is approved, and whether approvals are enough.
-/
import Derived.Test.YtabiknpgakhkkaaGreatVtK
set_option maxRecDepth 20000
namespace Go.Proofs.YtabiknpgakhkkaaGreat.Vt
open Go.RowKit Go.Proofs.YtabiknpgakhkkaaGreat.Sx Go.Proofs.YtabiknpgakhkkaaGreat.Pw Go.Proofs.YtabiknpgakhkkaaGreat.Vw
open Go.Proofs.YtabiknpgakhkkaaGreat.Pr (fromG fromG_ok rfromG rfromG_ok tKey keyC)
set_option linter.unusedVariables false
set_option linter.unusedSimpArgs false
set_option maxRecDepth 10000

theorem teL_ok {A : AT} {U : UT} {S : List SC → Int} {W : Int → Int → Int} {K : KT} {P : PT} (hA : A = aprR applyQ paperS) (hU : U = usedB applyQ) (hS : S = scalS) (hW : W = powS) (hK : K = chkR applyQ paperS) (hP : P = paperS) : LibOK Tryz.prog (teL A U S W K P) :=
  LibOK.cons votes_ok (LibOK.cons (appr_ok hA hU hW) (LibOK.cons (rapr_ok hA) (LibOK.cons (fromG_ok hS) (LibOK.cons (rfromG_ok hS hW) (LibOK.cons (chk_ok hK) (LibOK.cons (rchk_ok hK) (LibOK.cons (pa_ok hP) (LibOK.cons (rpa_ok hP) (LibOK.cons known_ok (LibOK.nil _))))))))))
section
variable (A : AT) (U : UT) (S : List SC → Int) (W : Int → Int → Int) (K : KT) (P : PT) (v : Vi) (ad f : Int) (H : Nat → UInt8) (o1 n1 : Nat) (c1 : List SC) (t1 : TypeId) (o2 n2 : Nat) (c2 : List SC) (t2 : TypeId)
noncomputable abbrev teX (told : List Bool) := (xfunL Tryz.prog (teL A U S W K P) 1000 fTells [.agg v.cs, .c (.int ad), .agg (hF H), .c (.int f), .c (.slc 0 o1 5 n1 none), .c (.slc 1 o2 3 n2 none)] [(0, some ⟨c1, t1, true, false⟩), (1, some ⟨c2, t2, true, false⟩)] 2 told).map (fun q => (q.1, q.2.1, q.2.2.1))
def teV : Bool := bif decide ((n1 : Int) > 20) then true else decide ((n2 : Int) > 20)
def teS : Bool := (c1.all SC.sole && (c2.all SC.sole && true)) && true
def nA : Bool := c1.all SC.norow && (c2.all SC.norow && true)
def mnO : Bool := ((nA c1 c2 && (nA c1 c2 && (nA c1 c2 && true))) && true) && true
def apOk (r : RB) : Bool := (okOps r && (Nat.ble r.n 1000000 && true)) && ((r.b.cells.all SC.sole && true) && true)
def ckOk2 (r q : RB) : Bool := (r.b.cells.all SC.sole && (q.b.cells.all SC.sole && true)) && (okOps r && (Nat.ble r.n 1000000 && (okVt q && Nat.ble q.n 1000000)))
def teA : Vot × Int := A (Vi.of v.cs) ad (S (hF H)) (W 4 (S (hF H))) f (opsL (rbO o1 n1 c1 t1))
def teP : Sp.H4 := P (Vi.of v.cs) f (opsL (rbO o1 n1 c1 t1))
def teK : Int := K (Vi.of v.cs) f (opsL (rbO o1 n1 c1 t1)) (vtL (rbO o2 n2 c2 t2))
def eqVt (a b : Vot) : Bool := (a.ad == b.ad) && (((a.E == b.E) && ((a.S == b.S) && true)) && true)
def te0 : Bool := bnd (bnd (tn (bnd true (teS c1 c2)) (teV n1 n2)) (apOk (rbO o1 n1 c1 t1))) (mnO c1 c2)
def te1 : Bool := bnd (bnd (bnd (te0 o1 n1 c1 t1 n2 c2) (paOk (rbO o1 n1 c1 t1))) (paOk (rbO o1 n1 c1 t1))) (paOk (rbO o1 n1 c1 t1))
def te2 : Bool := tg (tg (tg (te1 o1 n1 c1 t1 n2 c2) (eqH (teP P v f o1 n1 c1 t1) (teP P v f o1 n1 c1 t1)) true) (eqVt (teA A S W v ad f H o1 n1 c1 t1).1 (teA A S W v ad f H o1 n1 c1 t1).1) true) ((teA A S W v ad f H o1 n1 c1 t1).2 == (teA A S W v ad f H o1 n1 c1 t1).2) true
def te3 : Bool := tg (bnd (bnd (te2 A S W P v ad f H o1 n1 c1 t1 n2 c2) (ckOk2 (rbO o1 n1 c1 t1) (rbO o2 n2 c2 t2))) (ckOk2 (rbO o1 n1 c1 t1) (rbO o2 n2 c2 t2))) (teK K v f o1 n1 c1 t1 o2 n2 c2 t2 == teK K v f o1 n1 c1 t1 o2 n2 c2 t2) true
theorem te_1 : teX A U S W K P v ad f H o1 n1 c1 t1 o2 n2 c2 t2 [true] = some (ty_ (bnd true (teS c1 c2)) (teV n1 n2), [], .c (.bool true)) := by kernel_rfl
theorem te_2 : teX A U S W K P v ad f H o1 n1 c1 t1 o2 n2 c2 t2 [false, true, true, true, true] = some (te3 A S W K P v ad f H o1 n1 c1 t1 o2 n2 c2 t2, [], .c (.bool true)) := by kernel_rfl
end
theorem norow_of {c : List SC} (h : c.all SC.sole = true) : c.all SC.norow = true := by
  rw [List.all_eq_true] at h ⊢
  intro x hx
  have := h x hx
  cases x <;> first | rfl | (simp [SC.sole] at this; done)
theorem voteTells_gen {A : AT} {U : UT} {S : List SC → Int} {W : Int → Int → Int} {K : KT} {P : PT} (hA : A = aprR applyQ paperS) (hU : U = usedB applyQ) (hS : S = scalS) (hW : W = powS) (hK : K = chkR applyQ paperS) (hP : P = paperS)
    (v : Vi) (ad f : Int) (H : Nat → UInt8) (a b : RB) (ha : RBok a) (oa : okOps a = true) (hb : RBok b) (ob : okVt b = true) (w : World) :
    Sx.Fn Tryz.prog fTells (atW w 0) [.agg v.cs, .c (.int ad), .agg (hF H), .c (.int f), .c (.slc 0 a.off 5 a.n none), .c (.slc 1 b.off 3 b.n none)] [(0, some a.b), (1, some b.b)] 2 fun x _ => x = .c (.bool true) := by
  have L := teL_ok hA hU hS hW hK hP
  obtain ⟨o1, n1, c1, t1, tail1, own1⟩ := a
  obtain ⟨o2, n2, c2, t2, tail2, own2⟩ := b
  obtain ⟨hown, htail, hs1⟩ := ha
  simp only at hown htail
  subst hown htail
  obtain ⟨hown, htail, hs2⟩ := hb
  simp only at hown htail
  subst hown htail
  replace hs1 : c1.all SC.sole = true := hs1
  replace hs2 : c2.all SC.sole = true := hs2
  have oa : okOps (rbO o1 n1 c1 t1) = true := oa
  have ob : okVt (rbO o2 n2 c2 t2) = true := ob
  have e0 : bnd true (teS c1 c2) = true := bnds rfl (by unfold teS; rw [hs1, hs2]; rfl)
  cases h1 : teV n1 n2 with
  | true => exact Fn.xvL L Sp.mixed _ (te_1 A U S W K P v ad f H o1 n1 c1 t1 o2 n2 c2 t2) (ty_eq e0 h1) trivial rfl
  | false =>
    have b12 : n1 ≤ 1000000 ∧ n2 ≤ 1000000 := by
      unfold teV at h1
      cases g1 : decide ((n1 : Int) > 20) with
      | true => rw [g1] at h1; cases h1
      | false =>
        rw [g1, cond_false, decide_eq_false_iff_not] at h1
        rw [decide_eq_false_iff_not] at g1
        omega
    have k1 : Nat.ble n1 1000000 = true := by rw [Nat.ble_eq]; exact b12.1
    have k2 : Nat.ble n2 1000000 = true := by rw [Nat.ble_eq]; exact b12.2
    have m1 : mnO c1 c2 = true := by unfold mnO nA; rw [norow_of hs1, norow_of hs2]; rfl
    have p1 : apOk (rbO o1 n1 c1 t1) = true := by
      show ((okOps (rbO o1 n1 c1 t1) && (Nat.ble n1 1000000 && true)) && ((c1.all SC.sole && true) && true)) = true
      rw [oa, k1, hs1]; rfl
    have p2 : paOk (rbO o1 n1 c1 t1) = true := by
      show ((c1.all SC.sole && true) && (okOps (rbO o1 n1 c1 t1) && Nat.ble n1 1000000)) = true
      rw [oa, k1, hs1]; rfl
    have p3 : ckOk2 (rbO o1 n1 c1 t1) (rbO o2 n2 c2 t2) = true := by
      show ((c1.all SC.sole && (c2.all SC.sole && true)) && (okOps (rbO o1 n1 c1 t1) && (Nat.ble n1 1000000 && (okVt (rbO o2 n2 c2 t2) && Nat.ble n2 1000000)))) = true
      rw [oa, ob, k1, k2, hs1, hs2]; rfl
    have eV : ∀ x : Vot, eqVt x x = true := fun x => by unfold eqVt; simp
    refine Fn.xvL L Sp.mixed _ (te_2 A U S W K P v ad f H o1 n1 c1 t1 o2 n2 c2 t2) ?_ trivial rfl
    exact tg_eq (bnds (bnds (tg_eq (tg_eq (tg_eq (bnds (bnds (bnds (bnds (bnds (tn_eq e0 h1) p1) m1) p2) p2) p2) (eqH_self _)) (eV _)) (by simp)) p3) p3) (by simp)
theorem vt_ok {n : Nat} {cs : List SC} {ty : TypeId} (hl : cs.length = n * 3) (h : cs.all SC.isInt = true) : okVt (rbO 0 n cs ty) = true := by
  unfold okVt
  show (Nat.ble (0 + n * 3) cs.length && ((cs.drop 0).take (n * 3)).all SC.isInt) = true
  rw [Bool.and_eq_true, Nat.ble_eq]
  refine ⟨by omega, ?_⟩
  rw [List.drop_zero, ← hl, List.take_length]; exact h
theorem voteTells_fn (v : Vi) (ad : Int) (hs : List UInt8) (f : Int) (a b : RB) (ha : RBok a) (oa : okOps a = true) (hb : RBok b) (ob : okVt b = true) (w : World) (hh : hs.length = 32) :
    Sx.Fn Tryz.prog fTells (atW w 0) [.agg v.cs, .c (.int ad), .agg (hs.map SC.u8), .c (.int f), .c (.slc 0 a.off 5 a.n none), .c (.slc 1 b.off 3 b.n none)] [(0, some a.b), (1, some b.b)] 2 fun x _ => x = .c (.bool true) := by
  rw [hF_of hh]
  exact voteTells_gen rfl rfl rfl rfl rfl rfl v ad f _ a b ha oa hb ob w
end Go.Proofs.YtabiknpgakhkkaaGreat.Vt
