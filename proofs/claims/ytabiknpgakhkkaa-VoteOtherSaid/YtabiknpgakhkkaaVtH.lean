/-
  VtF, VtG in one.
-/
import Derived.Test.YtabiknpgakhkkaaVtD
namespace Go.Proofs.Ytabiknpgakhkkaa.Vt
open Go.RowKit Go.Proofs.Ytabiknpgakhkkaa.Sx Go.Proofs.Ytabiknpgakhkkaa.Pw Go.Proofs.Ytabiknpgakhkkaa.Vw
set_option linter.unusedVariables false
set_option linter.unusedSimpArgs false
set_option maxRecDepth 10000

abbrev frApr : Nat := 8
abbrev raL (Q : Vi → Int → List Ope → AQ) (P : Vi → Int → List Ope → Sp.H4) : List (Nat × Con) := [(frApp, rappG Q), (frPaper, paC P), (frIsA, isAC), (Sg.frSign, Sg.rsignC)]
theorem raL_ok : LibOK Try.prog (raL applyQ paperS) := LibOK.cons (rappG_ok rfl) (LibOK.cons (rpa_ok rfl) (LibOK.cons risA_ok (LibOK.cons Sg.rsign_ok (LibOK.nil _))))
def vtT (x : Vot) (e : Int) : SV := .tup [.inr [.int x.ad, .int x.E, .int x.S], .inl (.int e)]
def zVt : Vot := ⟨0, 0, 0⟩
/-- An approval, an error. -/
def aprR (Q : Vi → Int → List Ope → AQ) (P : Vi → Int → List Ope → Sp.H4) (v : Vi) (who x y f : Int) (l : List Ope) : Vot × Int :=
  bif l.isEmpty then (zVt, 1) else bif (Q v f l).e != 0 then (zVt, (Q v f l).e) else bif !adI v who then (zVt, 6) else bif y != v.t.sg who.toNat then (zVt, 10) else (⟨who, Sg.signEE x y (hashL (P v f l)), Sg.signSS x y (hashL (P v f l))⟩, 0)
def raA (v : Vi) (who x y f : Int) (off n : Nat) : List SV := [.agg v.cs, .c (.int who), .agg [.int x, .int y], .c (.int f), .c (.slc 0 off 5 n none)]
section
variable (Q : Vi → Int → List Ope → AQ) (P : Vi → Int → List Ope → Sp.H4) (v : Vi) (who x y f : Int) (off n : Nat) (cells : List SC) (ty : TypeId)
noncomputable abbrev raX (told : List Bool) := (xfunL Try.prog (raL Q P) 1000 frApr (raA v who x y f off n) [(0, some ⟨cells, ty, true, false⟩)] 1 told).map (fun q => (q.1, q.2.1, q.2.2.1))
def rE : AQ := Q (Vi.of v.cs) f (opsL (rbO off n cells ty))
def rb1 : Bool := bnd (tn true (n0 n)) (rapOb (rbO off n cells ty))
def rb2 : Bool := tn (rb1 off n cells ty) ((rE Q v f off n cells ty).e != 0)
def rb3 : Bool := sgO v who (tn (rb2 Q v f off n cells ty) (!adI (Vi.of v.cs) who))
theorem ra_1 : raX Q P v who x y f off n cells ty [true] = some (ty_ true (n0 n), [], vtT zVt 1) := by kernel_rfl
theorem ra_2 : raX Q P v who x y f off n cells ty [false, true] = some (ty_ (rb1 off n cells ty) ((rE Q v f off n cells ty).e != 0), [], vtT zVt (rE Q v f off n cells ty).e) := by kernel_rfl
theorem ra_3 : raX Q P v who x y f off n cells ty [false, false, true] = some (ty_ (rb2 Q v f off n cells ty) (!adI (Vi.of v.cs) who), [], vtT zVt 6) := by kernel_rfl
theorem ra_4 : raX Q P v who x y f off n cells ty [false, false, false, true] = some (ty_ (rb3 Q v who f off n cells ty) (y != sgX v who), [], vtT zVt 10) := by kernel_rfl
theorem ra_5 : raX Q P v who x y f off n cells ty [false, false, false, false] = some (bnd (tn (rb3 Q v who f off n cells ty) (y != sgX v who)) (paOk (rbO off n cells ty)), [],
  vtT ⟨who, Sg.signEE x y (hashL (P (Vi.of v.cs) f (opsL (rbO off n cells ty)))), Sg.signSS x y (hashL (P (Vi.of v.cs) f (opsL (rbO off n cells ty))))⟩ 0) := by kernel_rfl
end

theorem apr_fn (v : Vi) (who x y f : Int) (r : RB) (hr : RBok r) (ho : okOps r = true) (hn : r.n ≤ 1000000) (w : World) : Sx.Fn Try.prog frApr (atW w 0) [.agg v.cs, .c (.int who), .agg [.int x, .int y], .c (.int f), .c (.slc 0 r.off 5 r.n none)] [(0, some r.b)] 1 fun u _ => u = vtT (aprR applyQ paperS (Vi.of v.cs) who x y f (opsL r)).1 (aprR applyQ paperS (Vi.of v.cs) who x y f (opsL r)).2 := by
  obtain ⟨off, n, cells, ty, tail, own⟩ := r
  obtain ⟨hown, htail, hsole⟩ := hr
  simp only at hown htail hn
  subst hown htail
  have hr : RBok (rbO off n cells ty) := ⟨rfl, rfl, hsole⟩
  have ho : okOps (rbO off n cells ty) = true := ho
  show Sx.Fn Try.prog frApr (atW w 0) (raA v who x y f off n) [(0, some ⟨cells, ty, true, false⟩)] 1 fun u _ => u = vtT (aprR applyQ paperS (Vi.of v.cs) who x y f (opsL (rbO off n cells ty))).1 (aprR applyQ paperS (Vi.of v.cs) who x y f (opsL (rbO off n cells ty))).2
  cases n with
  | zero => exact Fn.xvL raL_ok Sp.mixed [true] (ra_1 applyQ paperS v who x y f off 0 cells ty) (ty_eq rfl rfl) trivial rfl
  | succ k =>
  have h0 : n0 (k + 1) = false := by unfold n0; simp; omega
  have h1 : rb1 off (k + 1) cells ty = true := bnds (tn_eq rfl h0) (rapOb_eq hr ho hn)
  have hR : aprR applyQ paperS (Vi.of v.cs) who x y f (opsL (rbO off (k + 1) cells ty)) = (bif (rE applyQ v f off (k + 1) cells ty).e != 0 then (zVt, (rE applyQ v f off (k + 1) cells ty).e) else bif !adI (Vi.of v.cs) who then (zVt, 6) else bif y != (Vi.of v.cs).t.sg who.toNat then (zVt, 10) else
      (⟨who, Sg.signEE x y (hashL (paperS (Vi.of v.cs) f (opsL (rbO off (k + 1) cells ty)))), Sg.signSS x y (hashL (paperS (Vi.of v.cs) f (opsL (rbO off (k + 1) cells ty))))⟩, 0)) := by
    unfold aprR
    rw [opsL_isE]; rfl
  rw [hR]
  cases he : (rE applyQ v f off (k + 1) cells ty).e != 0 with
  | true => exact Fn.xvL raL_ok Sp.mixed [false, true] (ra_2 applyQ paperS v who x y f off (k + 1) cells ty) (ty_eq h1 he) trivial rfl
  | false =>
  have h2 : rb2 applyQ v f off (k + 1) cells ty = true := tn_eq h1 he
  cases hA : adI (Vi.of v.cs) who with
  | false => exact Fn.xvL raL_ok Sp.mixed [false, false, true] (ra_3 applyQ paperS v who x y f off (k + 1) cells ty) (ty_eq h2 (by rw [hA]; rfl)) trivial rfl
  | true =>
  obtain ⟨j, rfl, hj8⟩ := adI_yes hA
  have h3 : rb3 applyQ v j f off (k + 1) cells ty = true := sgO_eq v hj8 (tn_eq h2 (by rw [hA]; rfl))
  have hs : sgX v (j : Int) = (Vi.of v.cs).t.sg (j : Int).toNat := by rw [sgX_eq, Int.toNat_natCast]
  rw [← hs]
  cases hY : y != sgX v j with
  | true => exact Fn.xvL raL_ok Sp.mixed [false, false, false, true] (ra_4 applyQ paperS v j x y f off (k + 1) cells ty) (ty_eq h3 hY) trivial rfl
  | false => exact Fn.xvL raL_ok Sp.mixed [false, false, false, false] (ra_5 applyQ paperS v j x y f off (k + 1) cells ty) (bnds (tn_eq h3 hY) (paOk_eq hr ho hn)) trivial rfl
def aprC (A : Vi → Int → Int → Int → Int → List Ope → Vot × Int) : Con := sVal [none, none, none, none, some 5] fun ps rs => match ps, rs with | [.agg cs, .c (.int who), .agg [.int x, .int y], .c (.int f)], [r] => some (isVi cs && (okOps r && Nat.ble r.n 1000000), vtT (A (Vi.of cs) who x y f (opsL r)).1 (A (Vi.of cs) who x y f (opsL r)).2) | _, _ => none
theorem rapr_ok {A : Vi → Int → Int → Int → Int → List Ope → Vot × Int} (hA : A = aprR applyQ paperS) : ConOK Try.prog frApr (aprC A) := by
  subst hA
  refine sVal_ok (fn := Try.f8) (by kernel_rfl) rfl rfl fun ps rs v h' hps hrs => ?_
  split at h' <;> try (cases h'; done)
  rename_i cs who x y i r
  simp only [Option.some.injEq, Prod.mk.injEq, Bool.and_eq_true, Nat.ble_eq] at h'
  obtain ⟨⟨hv, ho, hn⟩, rfl⟩ := h'
  refine ⟨rfl, fun w => ?_⟩
  have e := Vi.of_cs hv
  have := apr_fn (Vi.of cs) who x y i r (hrs r (by simp)) ho hn w
  rw [← e] at this
  exact this

end Go.Proofs.Ytabiknpgakhkkaa.Vt

namespace Go.Proofs.Ytabiknpgakhkkaa.Vt
open Go.RowKit Go.Proofs.Ytabiknpgakhkkaa.Sx Go.Proofs.Ytabiknpgakhkkaa.Pw Go.Proofs.Ytabiknpgakhkkaa.Vw
set_option linter.unusedVariables false
set_option linter.unusedSimpArgs false
set_option maxRecDepth 10000

abbrev fOther : Nat := 3
noncomputable abbrev otL (S : Int → Int → Int → Vi) (K : Vi → Int → List Ope → List Vot → Int) (A : Vi → Int → Int → Int → Int → List Ope → Vot × Int) : List (Nat × Con) := deep Try.prog 1000 [fSeed] [(fSome, someC S), (frFrom, rfromC), (frApr, aprC A), (fChk, chkC K), (frChk, chkC K), (fKnownT, knownC)] 1
theorem otL_ok {K : Vi → Int → List Ope → List Vot → Int} (hK : K = chkR applyQ paperS) {A : Vi → Int → Int → Int → Int → List Ope → Vot × Int} (hA : A = aprR applyQ paperS) : LibOK Try.prog (otL someV K A) :=
  deep_ok (LibOK.cons (some_ok rfl) (LibOK.cons rfrom_ok (LibOK.cons (rapr_ok hA) (LibOK.cons (chk_ok hK) (LibOK.cons (rchk_ok hK) (LibOK.cons known_ok (LibOK.nil _))))))) Sp.mixed (by kernel_rfl) 1
def epV (v : Vi) (e : Int) : Vi := { v with ep := e }
def ckOk (r : RB) : Bool := (r.b.cells.all SC.sole && true) && (okOps r && (Nat.ble r.n 1000000 && true))
theorem ckOk_eq {r : RB} (hr : RBok r) (ho : okOps r = true) (hn : r.n ≤ 1000000) : ckOk r = true := by
  unfold ckOk
  rw [hr.2.2, ho, show Nat.ble r.n 1000000 = true by rw [Nat.ble_eq]; exact hn]; rfl
section
variable (S : Int → Int → Int → Vi) (K : Vi → Int → List Ope → List Vot → Int) (A : Vi → Int → Int → Int → Int → List Ope → Vot × Int) (o1 n1 : Nat) (c1 : List SC) (t1 : TypeId) (o2 n2 : Nat) (c2 : List SC) (t2 : TypeId) (f ep : Int)
noncomputable abbrev otX (told : List Bool) := (xfunL Try.prog (otL S K A) 1000 fOther [.c (.slc 0 o1 5 n1 none), .c (.slc 1 o2 5 n2 none), .c (.int f), .c (.int ep)] [(0, some ⟨c1, t1, true, false⟩), (1, some ⟨c2, t2, true, false⟩)] 2 told).map (fun q => (q.1, q.2.1, q.2.2.1))
def d1 (b : Bool) : Bool := tg true (n0 n1) b
def d2 (b : Bool) : Bool := tg (d1 n1 false) (decide ((n1 : Int) > 4)) b
def d3 (b : Bool) : Bool := tg (d2 n1 false) (decide ((n2 : Int) > 4)) b
def d4 (b : Bool) : Bool := tg (d3 n1 n2 false) (decide (ep < 0)) b
def otA : Vot × Int := A (Vi.of (S 4 2 1).cs) 0 (scalS (seedC 0)) (powS 4 (scalS (seedC 0))) 0 (opsL (rbO o1 n1 c1 t1))
def d6 : Bool := bnd (tn (d4 n1 n2 ep false) (decide (ep > 1000))) (paOk (rbO o1 n1 c1 t1))
def d7 : Bool := tn (d6 o1 n1 c1 t1 n2 ep) ((otA S A o1 n1 c1 t1).2 != 0)
def otK : Int := K (Vi.of (epV (S 4 2 1) ep).cs) f (opsL (rbO o2 n2 c2 t2)) [⟨(otA S A o1 n1 c1 t1).1.ad, (otA S A o1 n1 c1 t1).1.E, (otA S A o1 n1 c1 t1).1.S⟩]
def otJ : Int := K (Vi.of (S 4 2 1).cs) 0 (opsL (rbO o1 n1 c1 t1)) [⟨(otA S A o1 n1 c1 t1).1.ad, (otA S A o1 n1 c1 t1).1.E, (otA S A o1 n1 c1 t1).1.S⟩]
theorem ot_1 : otX S K A o1 n1 c1 t1 o2 n2 c2 t2 f ep [true] = some (d1 n1 true, [], .c (.bool true)) := by kernel_rfl
theorem ot_2 : otX S K A o1 n1 c1 t1 o2 n2 c2 t2 f ep [false, true] = some (d2 n1 true, [], .c (.bool true)) := by kernel_rfl
theorem ot_3 : otX S K A o1 n1 c1 t1 o2 n2 c2 t2 f ep [false, false, true] = some (d3 n1 n2 true, [], .c (.bool true)) := by kernel_rfl
theorem ot_4 : otX S K A o1 n1 c1 t1 o2 n2 c2 t2 f ep [false, false, false, true] = some (d4 n1 n2 ep true, [], .c (.bool true)) := by kernel_rfl
theorem ot_5 : otX S K A o1 n1 c1 t1 o2 n2 c2 t2 f ep [false, false, false, false, true] = some (ty_ (d4 n1 n2 ep false) (decide (ep > 1000)), [], .c (.bool true)) := by kernel_rfl
theorem ot_6 : otX S K A o1 n1 c1 t1 o2 n2 c2 t2 f ep [false, false, false, false, false, true] = some (ty_ (d6 o1 n1 c1 t1 n2 ep) ((otA S A o1 n1 c1 t1).2 != 0), [], .c (.bool true)) := by kernel_rfl
theorem ot_7 : otX S K A o1 n1 c1 t1 o2 n2 c2 t2 f ep [false, false, false, false, false, false, true, true] =
  some (tg (bnd (tg (bnd (bnd (d7 S A o1 n1 c1 t1 n2 ep) (ckOk (rbO o2 n2 c2 t2))) (ckOk (rbO o2 n2 c2 t2))) (otK S K A o1 n1 c1 t1 o2 n2 c2 t2 f ep == otK S K A o1 n1 c1 t1 o2 n2 c2 t2 f ep) true) (ckOk (rbO o1 n1 c1 t1))) (otJ S K A o1 n1 c1 t1 == 0) true, [], .c (.bool true)) := by kernel_rfl
end
/-- What is approved by an admin is enough where one approval is. -/
theorem apr_holds {v : Vi} {x f : Int} {l : List Ope} (hk : v.k ≤ 1) {X : Nat} (hX0 : 0 < X) (hX : X < prQ) (hx : x = X) (who : Int) (h : (aprR applyQ paperS v who x (powS 4 x) f l).2 = 0) :
    chkR applyQ paperS v f l [⟨(aprR applyQ paperS v who x (powS 4 x) f l).1.ad, (aprR applyQ paperS v who x (powS 4 x) f l).1.E, (aprR applyQ paperS v who x (powS 4 x) f l).1.S⟩] = 0 := by
  subst hx
  unfold aprR at h ⊢
  unfold chkR
  cases hl : l.isEmpty with
  | true => rw [hl] at h; simp at h
  | false =>
  rw [hl] at h
  simp only [cond_false] at h ⊢
  cases he : (applyQ v f l).e != 0 with
  | true => rw [he] at h; simp only [cond_true] at h; rw [h] at he; cases he
  | false =>
  rw [he] at h
  simp only [cond_false] at h ⊢
  cases hA : adI v who with
  | false => rw [hA] at h; simp at h
  | true =>
  rw [hA] at h
  simp only [Bool.not_true, cond_false] at h ⊢
  cases hY : powS 4 (X : Int) != v.t.sg who.toNat with
  | true => rw [hY] at h; simp at h
  | false =>
  have hY : powS 4 (X : Int) = v.t.sg who.toNat := by simpa using hY
  obtain ⟨j, rfl, hj⟩ := adI_yes hA
  have hc : chkL v (hashL (paperS v f l)) [⟨(j : Int), Sg.signEE X (powS 4 X) (hashL (paperS v f l)), Sg.signSS X (powS 4 X) (hashL (paperS v f l))⟩] (-1) = 0 := by
    show (bif !adI v j then (6 : Int) else bif decide ((j : Int) ≤ -1) then 6 else bif !Sg.verS (v.t.sg (j : Int).toNat) (hashL (paperS v f l)) (Sg.signEE X (powS 4 X) (hashL (paperS v f l))) (Sg.signSS X (powS 4 X) (hashL (paperS v f l))) then 4 else 0) = 0
    rw [hA, decide_eq_false (by omega), ← hY, Sg.sign_holds hX0 hX]; rfl
  have key : ∀ z : Int, z = 0 → (bif z != 0 then z else bif decide (((1 : Nat) : Int) < v.k) then (8 : Int) else 0) = 0 := fun z hz => by
    subst hz
    show (bif decide (((1 : Nat) : Int) < v.k) then (8 : Int) else 0) = 0
    rw [decide_eq_false (by omega)]; rfl
  simp only [cond_false]
  exact key _ hc
theorem other_gen {K : Vi → Int → List Ope → List Vot → Int} (hK : K = chkR applyQ paperS) {A : Vi → Int → Int → Int → Int → List Ope → Vot × Int} (hA : A = aprR applyQ paperS) (a b : RB) (ha : RBok a) (oa : okOps a = true) (hb : RBok b) (ob : okOps b = true) (f ep : Int) (w : World) :
    Sx.Fn Try.prog fOther (atW w 0) [.c (.slc 0 a.off 5 a.n none), .c (.slc 1 b.off 5 b.n none), .c (.int f), .c (.int ep)] [(0, some a.b), (1, some b.b)] 2 fun x _ => x = .c (.bool true) := by
  obtain ⟨o1, n1, c1, t1, tail1, own1⟩ := a
  obtain ⟨o2, n2, c2, t2, tail2, own2⟩ := b
  obtain ⟨hown, htail, hs1⟩ := ha
  simp only at hown htail
  subst hown htail
  obtain ⟨hown, htail, hs2⟩ := hb
  simp only at hown htail
  subst hown htail
  have ha : RBok (rbO o1 n1 c1 t1) := ⟨rfl, rfl, hs1⟩
  have hb : RBok (rbO o2 n2 c2 t2) := ⟨rfl, rfl, hs2⟩
  have oa : okOps (rbO o1 n1 c1 t1) = true := oa
  have ob : okOps (rbO o2 n2 c2 t2) = true := ob
  cases h1 : n0 n1 with
  | true => exact Fn.xvL (otL_ok hK hA) Sp.mixed [true] (ot_1 someV K A o1 n1 c1 t1 o2 n2 c2 t2 f ep) (tg_eq rfl h1) trivial rfl
  | false =>
  have e1 : d1 n1 false = true := tg_eq rfl h1
  cases h2 : decide ((n1 : Int) > 4) with
  | true => exact Fn.xvL (otL_ok hK hA) Sp.mixed [false, true] (ot_2 someV K A o1 n1 c1 t1 o2 n2 c2 t2 f ep) (tg_eq e1 h2) trivial rfl
  | false =>
  have e2 : d2 n1 false = true := tg_eq e1 h2
  cases h3 : decide ((n2 : Int) > 4) with
  | true => exact Fn.xvL (otL_ok hK hA) Sp.mixed [false, false, true] (ot_3 someV K A o1 n1 c1 t1 o2 n2 c2 t2 f ep) (tg_eq e2 h3) trivial rfl
  | false =>
  have e3 : d3 n1 n2 false = true := tg_eq e2 h3
  cases h4 : decide (ep < 0) with
  | true => exact Fn.xvL (otL_ok hK hA) Sp.mixed [false, false, false, true] (ot_4 someV K A o1 n1 c1 t1 o2 n2 c2 t2 f ep) (tg_eq e3 h4) trivial rfl
  | false =>
  have e4 : d4 n1 n2 ep false = true := tg_eq e3 h4
  cases h5 : decide (ep > 1000) with
  | true => exact Fn.xvL (otL_ok hK hA) Sp.mixed [false, false, false, false, true] (ot_5 someV K A o1 n1 c1 t1 o2 n2 c2 t2 f ep) (ty_eq e4 h5) trivial rfl
  | false =>
  have b1 : n1 ≤ 4 := by rw [decide_eq_false_iff_not] at h2; omega
  have b2 : n2 ≤ 4 := by rw [decide_eq_false_iff_not] at h3; omega
  have e6 : d6 o1 n1 c1 t1 n2 ep = true := bnds (tn_eq e4 h5) (paOk_eq ha oa (by show n1 ≤ 1000000; omega))
  cases h6 : (otA someV A o1 n1 c1 t1).2 != 0 with
  | true => exact Fn.xvL (otL_ok hK hA) Sp.mixed [false, false, false, false, false, true] (ot_6 someV K A o1 n1 c1 t1 o2 n2 c2 t2 f ep) (ty_eq e6 h6) trivial rfl
  | false =>
  have e7 : d7 someV A o1 n1 c1 t1 n2 ep = true := tn_eq e6 h6
  have cb := ckOk_eq hb ob (by show n2 ≤ 1000000; omega)
  have ca := ckOk_eq ha oa (by show n1 ≤ 1000000; omega)
  refine Fn.xvL (otL_ok hK hA) Sp.mixed [false, false, false, false, false, false, true, true] (ot_7 someV K A o1 n1 c1 t1 o2 n2 c2 t2 f ep) ?_ trivial rfl
  refine tg_eq (bnds (tg_eq (bnds (bnds e7 cb) cb) (by simp)) ca) ?_
  obtain ⟨X, hX, hX0, hXQ⟩ := scal_nat (seedC 0)
  have h6' : (otA someV A o1 n1 c1 t1).2 = 0 := by simpa using h6
  unfold otJ
  unfold otA at h6' ⊢
  rw [hA] at h6' ⊢
  rw [hK]
  rw [apr_holds (v := Vi.of (someV 4 2 1).cs) (Int.le_refl _) hX0 hXQ hX 0 h6']
  rfl
theorem voteOther_fn (a b : RB) (ha : RBok a) (oa : okOps a = true) (hb : RBok b) (ob : okOps b = true) (f ep : Int) (w : World) :
    Sx.Fn Try.prog fOther (atW w 0) [.c (.slc 0 a.off 5 a.n none), .c (.slc 1 b.off 5 b.n none), .c (.int f), .c (.int ep)] [(0, some a.b), (1, some b.b)] 2 fun x _ => x = .c (.bool true) := other_gen rfl rfl a b ha oa hb ob f ep w

end Go.Proofs.Ytabiknpgakhkkaa.Vt
