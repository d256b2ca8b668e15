/-
  The program's approvals.
-/
import Derived.Test.YtabiknpgakhkkaaGreatVtF
import Derived.Test.YtabiknpgakhkkaaGreatSxZ
import Derived.Test.YtabiknpgakhkkaaGreatSxY
set_option maxRecDepth 20000
namespace Go.Proofs.YtabiknpgakhkkaaGreat.Vt
open Go.RowKit Go.Proofs.YtabiknpgakhkkaaGreat.Sx Go.Proofs.YtabiknpgakhkkaaGreat.Pw Go.Proofs.YtabiknpgakhkkaaGreat.Vw
open Go.Proofs.YtabiknpgakhkkaaGreat.Pr (keyC pubC pub_ok fPub tKey)
set_option linter.unusedVariables false
set_option linter.unusedSimpArgs false
set_option maxRecDepth 10000

abbrev fApr : Nat := 9
abbrev apL (Q : Vi → Int → List Ope → AQ) (P : Vi → Int → List Ope → Sp.H4) : List (Nat × Con) := [(fApp, appG Q), (fPaper, paC P), (fIsA, isAC), (fPub, pubC), (Sg.fSign, Sg.signC)]
theorem apL_ok : LibOK Tryz.prog (apL applyQ paperS) := LibOK.cons (appG_ok rfl) (LibOK.cons (pa_ok rfl) (LibOK.cons isA_ok (LibOK.cons pub_ok (LibOK.cons Sg.sign_ok (LibOK.nil _)))))
def apA (v : Vi) (who f : Int) (off n : Nat) : List SV := [.agg v.cs, .c (.int who), .c (.ptr 0 0), .c (.int f), .c (.slc 1 off 5 n none)]
def apT (x d s e y m u : Int) (kt : TypeId) (cells : List SC) (ty : TypeId) : Tab := [(0, some ⟨keyC x d s e y m u, kt, false, true⟩), (1, some ⟨cells, ty, true, false⟩)]
def kB (x d s e y m u : Int) (kt : TypeId) : Option Blk := some ⟨keyC x d s e y m u, kt, false, true⟩
def sgL (v : Vi) (a : Int) : Bool := Nat.blt (0 + 1 + 0 + a.toNat * 2 + 0) v.cs.length && isI v.cs (0 + 1 + 0 + a.toNat * 2 + 0)
def apJ (v : Vi) (a : Int) : List Prop := [SV.c (.int (sgX v a)) = SV.c (.int (sgX v a))]
section
variable (Q : Vi → Int → List Ope → AQ) (P : Vi → Int → List Ope → Sp.H4) (v : Vi) (who x d s e y m u f : Int) (kt : TypeId) (off n : Nat) (cells : List SC) (ty : TypeId)
noncomputable abbrev apX (d s : Int) (told : List Bool) := (xfunL Tryz.prog (apL Q P) 1000 fApr (apA v who f off n) (apT x d s e y m u kt cells ty) 2 told).map (fun q => (q.1, q.2.1, q.2.2.1, q.2.2.2.blk 0))
def pb1 : Bool := bnd (tn true (n0 n)) (apOb (rbO off n cells ty))
def pb2 : Bool := tn (pb1 off n cells ty) ((rE Q v f off n cells ty).e != 0)
def pb3 : Bool := bnd (sgO v who (tn (pb2 Q v f off n cells ty) (!adI (Vi.of v.cs) who))) (sgL v who)
def apH : Sp.H4 := P (Vi.of v.cs) f (opsL (rbO off n cells ty))
theorem ap_1 : apX Q P v who x e y m u f kt off n cells ty d s [true] = some (ty_ true (n0 n), [], vtT zVt 1, kB x d s e y m u kt) := by kernel_rfl
theorem ap_2 : apX Q P v who x e y m u f kt off n cells ty d s [false, true] = some (ty_ (pb1 off n cells ty) ((rE Q v f off n cells ty).e != 0), [], vtT zVt (rE Q v f off n cells ty).e, kB x d s e y m u kt) := by kernel_rfl
theorem ap_3 : apX Q P v who x e y m u f kt off n cells ty d s [false, false, true] = some (ty_ (pb2 Q v f off n cells ty) (!adI (Vi.of v.cs) who), [], vtT zVt 6, kB x d s e y m u kt) := by kernel_rfl
theorem ap_4 : apX Q P v who x e y m u f kt off n cells ty 0 0 [false, false, false, true] = some (ty_ (pb3 Q v who f off n cells ty) (powS 4 x != sgX v who), apJ v who, vtT zVt 10, kB x 1 0 e (powS 4 x) 1 u kt) := by kernel_rfl
theorem ap_5 : apX Q P v who x e y m u f kt off n cells ty 0 0 [false, false, false, false] = some (bnd (tn (pb3 Q v who f off n cells ty) (powS 4 x != sgX v who)) (paOk (rbO off n cells ty)), apJ v who,
  vtT ⟨who, Sg.signEE x (powS 4 x) (hashL (apH P v f off n cells ty)), Sg.signSS x (powS 4 x) (hashL (apH P v f off n cells ty))⟩ 0, kB x 1 0 e (powS 4 x) 1 u kt) := by kernel_rfl
theorem ap_6 : apX Q P v who x e y m u f kt off n cells ty 1 s [false, false, false, true] = some (ty_ (pb3 Q v who f off n cells ty) (y != sgX v who), apJ v who, vtT zVt 10, kB x 1 s e y m u kt) := by kernel_rfl
theorem ap_7 : apX Q P v who x e y m u f kt off n cells ty 1 s [false, false, false, false] = some (bnd (tn (pb3 Q v who f off n cells ty) (y != sgX v who)) (paOk (rbO off n cells ty)), apJ v who,
  vtT ⟨who, Sg.signEE x y (hashL (apH P v f off n cells ty)), Sg.signSS x y (hashL (apH P v f off n cells ty))⟩ 0, kB x 1 s e y m u kt) := by kernel_rfl
end
/-- Whether the key is asked at all. -/
def usedB (Q : Vi → Int → List Ope → AQ) (v : Vi) (who f : Int) (l : List Ope) : Bool := bif l.isEmpty then false else bif (Q v f l).e != 0 then false else adI v who
def pubI (W : Int → Int → Int) (x d y : Int) : Int := bif d == 0 then W 4 x else y
def keyU (W : Int → Int → Int) (b : Bool) (x d s e y m u : Int) : List SC := keyC x (bif b then (bif d == 0 then 1 else d) else d) s e (bif b then pubI W x d y else y) (bif b then (bif d == 0 then 1 else m) else m) u
theorem keyU_no (W : Int → Int → Int) (x d s e y m u : Int) : keyU W false x d s e y m u = keyC x d s e y m u := rfl
section
variable {v : Vi} {who x e y m u f : Int} {kt : TypeId} {X : Cx}
theorem ap_fn (d s : Int) (hd : (d = 0 ∧ s = 0) ∨ d = 1) (r : RB) (hr : RBok r) (ho : okOps r = true) (hn : r.n ≤ 1000000) : Sx.Fn Tryz.prog fApr X (apA v who f r.off r.n) (apT x d s e y m u kt r.b.cells r.b.ty) 2 fun q T =>
    q = vtT (aprR applyQ paperS (Vi.of v.cs) who x (pubI powS x d y) f (opsL r)).1 (aprR applyQ paperS (Vi.of v.cs) who x (pubI powS x d y) f (opsL r)).2 ∧ T.blk 0 = some ⟨keyU powS (usedB applyQ (Vi.of v.cs) who f (opsL r)) x d s e y m u, kt, false, true⟩ := by
  obtain ⟨off, n, cells, ty, tail, own⟩ := r
  obtain ⟨hown, htail, hsole⟩ := hr
  simp only at hown htail hn
  subst hown htail
  have hr : RBok (rbO off n cells ty) := ⟨rfl, rfl, hsole⟩
  have ho : okOps (rbO off n cells ty) = true := ho
  show Sx.Fn Tryz.prog fApr X (apA v who f off n) (apT x d s e y m u kt cells ty) 2 fun q T =>
    q = vtT (aprR applyQ paperS (Vi.of v.cs) who x (pubI powS x d y) f (opsL (rbO off n cells ty))).1 (aprR applyQ paperS (Vi.of v.cs) who x (pubI powS x d y) f (opsL (rbO off n cells ty))).2 ∧ T.blk 0 = some ⟨keyU powS (usedB applyQ (Vi.of v.cs) who f (opsL (rbO off n cells ty))) x d s e y m u, kt, false, true⟩
  cases n with
  | zero => exact Fn.xtL apL_ok Sp.mixed [true] (ap_1 applyQ paperS v who x d s e y m u f kt off 0 cells ty) (ty_eq rfl rfl) trivial
  | succ k =>
  have h0 : n0 (k + 1) = false := by unfold n0; simp; omega
  have h1 : pb1 off (k + 1) cells ty = true := bnds (tn_eq rfl h0) (apOb_eq hr ho)
  have hR : ∀ Y, aprR applyQ paperS (Vi.of v.cs) who x Y f (opsL (rbO off (k + 1) cells ty)) = (bif (rE applyQ v f off (k + 1) cells ty).e != 0 then (zVt, (rE applyQ v f off (k + 1) cells ty).e) else bif !adI (Vi.of v.cs) who then (zVt, 6) else bif Y != (Vi.of v.cs).t.sg who.toNat then (zVt, 10) else
      (⟨who, Sg.signEE x Y (hashL (paperS (Vi.of v.cs) f (opsL (rbO off (k + 1) cells ty)))), Sg.signSS x Y (hashL (paperS (Vi.of v.cs) f (opsL (rbO off (k + 1) cells ty))))⟩, 0)) := fun Y => by
    unfold aprR
    rw [opsL_isE]; rfl
  have hU : usedB applyQ (Vi.of v.cs) who f (opsL (rbO off (k + 1) cells ty)) = (bif (rE applyQ v f off (k + 1) cells ty).e != 0 then false else adI (Vi.of v.cs) who) := by
    unfold usedB
    rw [opsL_isE]; rfl
  rw [hR, hU]
  cases he : (rE applyQ v f off (k + 1) cells ty).e != 0 with
  | true => exact Fn.xtL apL_ok Sp.mixed [false, true] (ap_2 applyQ paperS v who x d s e y m u f kt off (k + 1) cells ty) (ty_eq h1 he) trivial
  | false =>
  have h2 : pb2 applyQ v f off (k + 1) cells ty = true := tn_eq h1 he
  cases hA : adI (Vi.of v.cs) who with
  | false => exact Fn.xtL apL_ok Sp.mixed [false, false, true] (ap_3 applyQ paperS v who x d s e y m u f kt off (k + 1) cells ty) (ty_eq h2 (by rw [hA]; rfl)) trivial
  | true =>
  obtain ⟨j, rfl, hj8⟩ := adI_yes hA
  have hsO := sgO_eq v hj8 (tn_eq h2 (show (!adI (Vi.of v.cs) (j : Int)) = false by rw [hA]; rfl))
  have hsL : sgL v (j : Int) = true := by
    unfold sgO at hsO
    unfold sgL
    simp only [bnd_true] at hsO
    exact hsO.2
  have h3 : pb3 applyQ v j f off (k + 1) cells ty = true := bnds hsO hsL
  have hs : sgX v (j : Int) = (Vi.of v.cs).t.sg (j : Int).toNat := by rw [sgX_eq, Int.toNat_natCast]
  rw [← hs]
  rcases hd with ⟨rfl, rfl⟩ | rfl
  · cases hY : powS 4 x != sgX v j with
    | true =>
      have := Fn.xtL (X := X) apL_ok Sp.mixed [false, false, false, true] (ap_4 applyQ paperS v j x e y m u f kt off (k + 1) cells ty) (ty_eq h3 hY) ⟨rfl, trivial⟩
      refine this.mono fun q T ⟨a, b⟩ => ⟨?_, b⟩
      have hp : (pubI powS x 0 y != sgX v (j : Int)) = true := hY
      rw [a, hp]; rfl
    | false =>
      have := Fn.xtL (X := X) apL_ok Sp.mixed [false, false, false, false] (ap_5 applyQ paperS v j x e y m u f kt off (k + 1) cells ty) (bnds (tn_eq h3 hY) (paOk_eq hr ho hn)) ⟨rfl, trivial⟩
      refine this.mono fun q T ⟨a, b⟩ => ⟨?_, b⟩
      have hp : (pubI powS x 0 y != sgX v (j : Int)) = false := hY
      rw [a, hp]; rfl
  · cases hY : y != sgX v j with
    | true =>
      have := Fn.xtL (X := X) apL_ok Sp.mixed [false, false, false, true] (ap_6 applyQ paperS v j x s e y m u f kt off (k + 1) cells ty) (ty_eq h3 hY) ⟨rfl, trivial⟩
      refine this.mono fun q T ⟨a, b⟩ => ⟨?_, b⟩
      have hp : (pubI powS x 1 y != sgX v (j : Int)) = true := hY
      rw [a, hp]; rfl
    | false =>
      have := Fn.xtL (X := X) apL_ok Sp.mixed [false, false, false, false] (ap_7 applyQ paperS v j x s e y m u f kt off (k + 1) cells ty) (bnds (tn_eq h3 hY) (paOk_eq hr ho hn)) ⟨rfl, trivial⟩
      refine this.mono fun q T ⟨a, b⟩ => ⟨?_, b⟩
      have hp : (pubI powS x 1 y != sgX v (j : Int)) = false := hY
      rw [a, hp]; rfl
end
abbrev AT : Type := Vi → Int → Int → Int → Int → List Ope → Vot × Int
def okD (d s : Int) : Bool := bif d == 0 then s == 0 else d == 1
def apprC (A : AT) (U : Vi → Int → Int → List Ope → Bool) (W : Int → Int → Int) : Con := objSW 2 [none, none, none, some 5] fun cs ps rs => match cs, ps, rs with
  | [.int x, .ik .u32 d, .ik .i32 s, .ik .u32 e, .int y, .ik .u32 m, .int u], [.agg vc, .c (.int who), .c (.int f)], [r] =>
    some (isVi vc && (okOps r && (Nat.ble r.n 1000000 && okD d s)), vtT (A (Vi.of vc) who x (pubI W x d y) f (opsL r)).1 (A (Vi.of vc) who x (pubI W x d y) f (opsL r)).2, keyU W (U (Vi.of vc) who f (opsL r)) x d s e y m u)
  | _, _, _ => none
theorem vtT_any {x : Vot} {e : Int} {ρ ρ' : Ren} {u : Value} (h : (vtT x e).R ρ u) : (vtT x e).R ρ' u := soleT_R h rfl
theorem appr_ok {A : AT} {U : Vi → Int → Int → List Ope → Bool} {W : Int → Int → Int} (hA : A = aprR applyQ paperS) (hU : U = usedB applyQ) (hW : W = powS) : ConOK Tryz.prog fApr (apprC A U W) := by
  subst hA hU hW
  refine objSW_ok (fn := Tryz.f9) (by kernel_rfl) rfl rfl fun cs ps rs o cs' h hs hs' hps hrs => ?_
  split at h <;> try (cases h; done)
  rename_i x d s e y m u vc who f r
  simp only [Option.some.injEq, Prod.mk.injEq, Bool.and_eq_true, Nat.ble_eq] at h
  obtain ⟨⟨hv, ho, hn, hd⟩, rfl, rfl⟩ := h
  refine ⟨fun ρ ρ' u h => vtT_any h, fun X hX ty => ?_⟩
  have hd' : (d = 0 ∧ s = 0) ∨ d = 1 := by
    unfold okD at hd
    cases h0 : d == 0 with
    | true => rw [h0] at hd; exact .inl ⟨by simpa using h0, by simpa using hd⟩
    | false => rw [h0] at hd; exact .inr (by simpa using hd)
  have e1 := Vi.of_cs hv
  have := ap_fn (X := X) (v := Vi.of vc) (who := who) (x := x) (e := e) (y := y) (m := m) (u := u) (f := f) (kt := ty) d s hd' r (hrs r (by simp)) ho hn
  rw [← e1] at this
  obtain ⟨off, n, cells, t1, tail, own⟩ := r
  obtain ⟨hown, htail, hsole⟩ := hrs ⟨off, n, cells, t1, tail, own⟩ (by simp)
  simp only at hown htail
  subst hown htail
  unfold apA at this
  rw [← e1] at this
  exact this

end Go.Proofs.YtabiknpgakhkkaaGreat.Vt
