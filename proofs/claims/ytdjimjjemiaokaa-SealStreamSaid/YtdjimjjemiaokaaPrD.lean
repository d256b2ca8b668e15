/-
  What keys share; the document's keys; what all laws of keys ask last.
-/
import Derived.Test.YtdjimjjemiaokaaPrC
namespace Go.Proofs.Ytdjimjjemiaokaa.Pr
open Go.RowKit Go.Proofs.Ytdjimjjemiaokaa.Sx Go.Proofs.Ytdjimjjemiaokaa.Pw
set_option linter.unusedVariables false

abbrev fFour : Nat := 23
abbrev frFour : Nat := 21
abbrev fShared : Nat := 22
abbrev frShared : Nat := 27
abbrev frFrom : Nat := 18
abbrev tB8 : Nat := 5
/-- A number's lowest four bytes, the highest first. -/
def fourB (n : Int) : List UInt8 := [UInt8.ofInt (n.fdiv 16777216), UInt8.ofInt (n.fdiv 65536), UInt8.ofInt (n.fdiv 256), UInt8.ofInt n]
def fourC : Con := pureLit tB8 fun args => match args with | [.c (.int n)] => some (fourB n) | _ => none
theorem four_ok : ConOK Try.prog fFour fourC := by
  refine pureLit_ok (fn := Try.f23) (by kernel_rfl) rfl rfl fun args bs h hp w => ?_
  split at h <;> try (cases h; done)
  rename_i n
  simp only [Option.some.injEq] at h; subst h
  intro ρ w0 vs h1 h2 h3
  exact (Fn.xt (X := atW w 0) (LibOK.nil _) Sp.mixed (fuel := 1000) (f := fFour) (args := [.c (.int n)]) (T := []) (nk := 0) (told := []) (ob := true) (obs := []) (r := .c (.slc 48 0 1 4 (some 4))) (k := 48) (b := some ⟨(fourB n).map SC.u8, tB8, false, false⟩) (by kernel_rfl) rfl trivial ρ w0 vs h1 h2 h3).mono fun e w' ⟨u, v, T', ρ', a, ⟨b, c⟩, d⟩ => ⟨u, v, T', ρ', a, ⟨48, b, c⟩, d⟩
theorem rfour_ok : ConOK Try.prog frFour fourC := by
  refine pureLit_ok (fn := Try.f21) (by kernel_rfl) rfl rfl fun args bs h hp w => ?_
  split at h <;> try (cases h; done)
  rename_i n
  simp only [Option.some.injEq] at h; subst h
  intro ρ w0 vs h1 h2 h3
  exact (Fn.xt (X := atW w 0) (LibOK.nil _) Sp.mixed (fuel := 1000) (f := frFour) (args := [.c (.int n)]) (T := []) (nk := 0) (told := []) (ob := true) (obs := []) (r := .c (.slc 48 0 1 4 (some 4))) (k := 48) (b := some ⟨(fourB n).map SC.u8, tB8, false, false⟩) (by kernel_rfl) rfl trivial ρ w0 vs h1 h2 h3).mono fun e w' ⟨u, v, T', ρ', a, ⟨b, c⟩, d⟩ => ⟨u, v, T', ρ', a, ⟨48, b, c⟩, d⟩

def zb : List UInt8 := List.replicate 32 0
def shareT : List UInt8 := [115, 104, 97, 114, 101]
/-- What is shared by one of this secret with one of this public number. -/
def shS (x p : Int) : Sp.H4 := Sp.deriveS zb shareT (fourB (powS p x))
def shY (x p : Int) : SV := .tup [.inr (Sp.hc (shS x p)), .inl (.bool true)]
/-- The same, or nothing. -/
def shI (x p : Int) : Sp.H4 := bif isS p then shS x p else ⟨0, 0, 0, 0⟩
def shN : SV := .tup [.inr Sp.zeroH, .inl (.bool false)]
theorem hc_sole (h : Sp.H4) : (Sp.hc h).all SC.sole = true := rfl
theorem tup_any {h : Sp.H4} {b : Bool} {ρ ρ' : Ren} {u : Value} (hu : (SV.tup [.inr (Sp.hc h), .inl (.bool b)]).R ρ u) : (SV.tup [.inr (Sp.hc h), .inl (.bool b)]).R ρ' u := by
  obtain ⟨vs, rfl, hvs⟩ := hu
  cases hvs with
  | cons h1 h2 =>
  cases h2 with
  | cons h3 h4 =>
  cases h4
  obtain ⟨us, hus, hcs⟩ := h1
  exact ⟨_, rfl, .cons ⟨us, hus, sole_all hcs (hc_sole h)⟩ (.cons h3 .nil)⟩
theorem sh_lib : LibOK Try.prog [(fpIs, isC), (fAddI, addIC), (fpPow, powC), (fFour, fourC), (Sp.fDer, Sp.derC)] := LibOK.cons pis_ok (LibOK.cons addI_ok (LibOK.cons ppow_ok (LibOK.cons four_ok (LibOK.cons Sp.der_ok (LibOK.nil _)))))
def sharedC : Con := objW fun off cs ps => match off, cs, ps with
  | 0, [.int x, .ik .u32 d, .ik .i32 s, .ik .u32 e, .int y, .ik .u32 m, .int u], [.c (.int p)] => some (true, .tup [.inr (Sp.hc (shI x p)), .inl (.bool (isS p))], keyC x d s e y m (bif isS p then IntKind.i64.wrap (u + 1) else u))
  | _, _, _ => none
theorem shared_ok : ConOK Try.prog fShared sharedC := by
  refine objW_ok (fn := Try.f22) (by kernel_rfl) rfl rfl fun off cs ps v cs' h hs hps => ?_
  split at h <;> try (cases h; done)
  rename_i x d s e y m u p
  simp only [Option.some.injEq, Prod.mk.injEq, true_and] at h
  obtain ⟨rfl, rfl⟩ := h
  cases hi : isS p with
  | true =>
    have e : shI x p = shS x p := by unfold shI; rw [hi]; rfl
    rw [e]
    simp only [cond_true]
    refine objStep_of hs rfl rfl (fun ρ ρ' u h => tup_any h) (fun X hX ty => ?_) hps
    exact Fn.xt sh_lib Sp.mixed (fuel := 1000) (told := [false, false]) (ob := bnd true (!(!isS p))) (obs := []) (r := shY x p) (by kernel_rfl) (by rw [hi]; rfl) trivial
  | false =>
    have e : shI x p = ⟨0, 0, 0, 0⟩ := by unfold shI; rw [hi]; rfl
    rw [e]
    simp only [cond_false]
    refine objStep_of hs hs rfl (fun ρ ρ' u h => tup_any (h := ⟨0, 0, 0, 0⟩) h) (fun X hX ty => ?_) hps
    exact Fn.xt sh_lib Sp.mixed (fuel := 1000) (told := [false, true]) (ob := bnd true (!isS p)) (obs := []) (r := shN) (by kernel_rfl) (by rw [hi]; rfl) trivial

/-! The document's. -/
def rfromC : Con := pureConB (fun | [.agg cs] => h32 cs | _ => true) fun | [.agg cs] => some (.agg [.int (scalS cs), .int (powS 4 (scalS cs))]) | _ => none
theorem rfrom_ok : ConOK Try.prog frFrom rfromC := by
  refine pureConB_ok (fn := Try.f18) (by kernel_rfl) rfl rfl fun args v hok h => ?_
  split at h <;> try (cases h; done)
  rename_i cs
  simp only [Option.some.injEq] at h; subst h
  simp only at hok
  have hok' := hok
  simp only [h32, Bool.and_eq_true] at hok'
  have hl := Nat.eq_of_beq_eq_true hok'.1
  have ht : cs.take 32 = cs := List.take_of_length_le (by omega)
  refine ⟨rfl, by simp [SV.sole, soleU hok'.2], fun w => ?_⟩
  exact Fn.xv (fuel := 1000) (told := []) (LibOK.cons rscal_ok (LibOK.cons rpow_ok (LibOK.nil _))) Sp.mixed (r := .agg [.int (scalS (cs.take 32)), .int (powS 4 (scalS (cs.take 32)))]) (ob := bnd (bnd true (Nat.ble (0 + 32) cs.length)) (h32 (cs.take 32))) (obs := []) (by kernel_rfl) (by rw [ht, hok]; simp [bnd_true]; omega) trivial (by rw [ht])
theorem rsh_lib : LibOK Try.prog [(frIs, isC), (frPow, powC), (frFour, fourC), (Sp.fRDer, Sp.rderC)] := LibOK.cons ris_ok (LibOK.cons rpow_ok (LibOK.cons rfour_ok (LibOK.cons Sp.rder_ok (LibOK.nil _))))
/-- A contract of plain values that hands back a tuple. -/
def tupCon (spec : List SV → Option SV) : Con := ⟨false, fun args _ _ => match spec args with
  | some v => some (.new ⟨args.all SV.sole, [], v, []⟩)
  | none => none⟩
theorem tupCon_ok {P : Program} {f : FuncId} {spec : List SV → Option SV} {fn : Func} (hf : P.funcs[f]? = some fn) (hn : (fn.name == "runtime.NumGoroutine") = false) (hb : fn.body.isNone = false)
    (h : ∀ args v, spec args = some v → args.all SV.sole = true → (∀ ρ ρ' u, v.R ρ u → v.R ρ' u) ∧ ∀ w, Sx.Fn P f (atW w 0) args [] 0 fun r _ => r = v) : ConOK P f (tupCon spec) := by
  refine ⟨fun args w => enters_of hf hn hb args w, fun args T kb r hr hob hobs X ρ w vs hrel ha hfr => ?_, fun args T kb r hr => ?_⟩
  · simp only [tupCon] at hr
    split at hr <;> try (cases hr; done)
    rename_i v hv
    simp only [Option.some.injEq, Eff.new.injEq] at hr; subst hr
    obtain ⟨h1, h3⟩ := h args v hv hob
    refine (h3 w renNone w vs (rel0 w) (plains_R ha hob) fun k _ => rfl).mono fun e w' ⟨u, v', T', ρ', he, hv', hur, _, hrel'⟩ => ⟨u, ρ, he, ?_, New.of_below hrel'.below⟩
    subst hv'; exact h1 _ _ _ hur
  · simp only [tupCon] at hr
    split at hr <;> cases hr
def rsharedC : Con := tupCon fun | [.agg [.int x, .int y], .c (.int p)] => some (.tup [.inr (Sp.hc (shI x p)), .inl (.bool (isS p))]) | _ => none
theorem rshared_ok : ConOK Try.prog frShared rsharedC := by
  refine tupCon_ok (fn := Try.f27) (by kernel_rfl) rfl rfl fun args v h hps => ?_
  split at h <;> try (cases h; done)
  rename_i x y p
  simp only [Option.some.injEq] at h; subst h
  cases hi : isS p with
  | true =>
    have e : shI x p = shS x p := by unfold shI; rw [hi]; rfl
    rw [e]
    exact ⟨fun ρ ρ' u h => tup_any h, fun w => Fn.xv (fuel := 1000) (told := [false]) rsh_lib Sp.mixed (r := shY x p) (ob := bnd true (!(!isS p))) (obs := []) (by kernel_rfl) (by rw [hi]; rfl) trivial rfl⟩
  | false =>
    have e : shI x p = ⟨0, 0, 0, 0⟩ := by unfold shI; rw [hi]; rfl
    rw [e]
    exact ⟨fun ρ ρ' u h => tup_any (h := ⟨0, 0, 0, 0⟩) h, fun w => Fn.xv (fuel := 1000) (told := [true]) rsh_lib Sp.mixed (r := shN) (ob := bnd true (!isS p)) (obs := []) (by kernel_rfl) (by rw [hi]; rfl) trivial rfl⟩

/-! Secrets and powers under names of their own: what is computed of literals is not to be computed. -/
def fromG (S : List SC → Int) : Con := objNew fun args => match args with
  | [.agg cs] => some (h32 cs, tKey, keyC (S cs) 0 0 0 0 0 0)
  | _ => none
def rfromG (S : List SC → Int) (W : Int → Int → Int) : Con := pureConB (fun | [.agg cs] => h32 cs | _ => true) fun | [.agg cs] => some (.agg [.int (S cs), .int (W 4 (S cs))]) | _ => none
def pubG (W : Int → Int → Int) : Con := objW fun off cs ps => match off, cs, ps with
  | 0, [.int x, .ik .u32 d, .ik .i32 s, .ik .u32 e, .int y, .ik .u32 m, .int u], [] => bif d == 0 then some (s == 0, .c (.int (W 4 x)), keyC x 1 0 e (W 4 x) 1 u) else some (true, .c (.int y), keyC x d s e y m u)
  | _, _, _ => none
theorem fromG_ok {S : List SC → Int} (hS : S = scalS) : ConOK Try.prog fFrom (fromG S) := by subst hS; exact from_ok
theorem pubG_ok {W : Int → Int → Int} (hW : W = powS) : ConOK Try.prog fPub (pubG W) := by subst hW; exact pub_ok
theorem rfromG_ok {S : List SC → Int} {W : Int → Int → Int} (hS : S = scalS) (hW : W = powS) : ConOK Try.prog frFrom (rfromG S W) := by subst hS hW; exact rfrom_ok
end Go.Proofs.Ytdjimjjemiaokaa.Pr
