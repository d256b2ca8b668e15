/-
  Signatures: what the program's functions, and the document's, compute. Whether signatures hold; that those which are made do.
-/
import Derived.Test.YtabiknpgakhkkaaGreatPrD
import Derived.Test.YtabiknpgakhkkaaGreatPwB
import Derived.Test.YtabiknpgakhkkaaGreatSpT
import Derived.Test.YtabiknpgakhkkaaGreatSxO
set_option maxRecDepth 20000
section
namespace Go.Proofs.YtabiknpgakhkkaaGreat.Sg
open Go.RowKit Go.Proofs.YtabiknpgakhkkaaGreat.Sx Go.Proofs.YtabiknpgakhkkaaGreat.Pw Go.Proofs.YtabiknpgakhkkaaGreat.Pr
open Go.Proofs.YtabiknpgakhkkaaGreat.Sp (rd rdB rd_eq rdB_eq rd_own rdB_own hc deriveS isU8s asU8s)
set_option linter.unusedVariables false

abbrev fNum : Nat := 89
abbrev frNum : Nat := 90
abbrev fChal : Nat := 60
abbrev frChal : Nat := 63
abbrev fSign : Nat := 24
abbrev frSign : Nat := 27
abbrev fInQ : Nat := 74
abbrev fVer : Nat := 39
abbrev frVer : Nat := 40

/-! Hashes as numbers below Q. -/
def numS (cs : List SC) : Int := begS cs 1073741789
def numC : Con := pureConB (fun | [.agg cs] => h32 cs | _ => true) fun | [.agg cs] => some (.c (.int (numS cs))) | _ => none
theorem num_ok : ConOK Tryz.prog fNum numC := by
  refine pureConB_ok (fn := Tryz.f89) (by kernel_rfl) rfl rfl fun args v hok h => ?_
  split at h <;> try (cases h; done)
  rename_i cs
  simp only [Option.some.injEq] at h; subst h
  simp only at hok
  have hok' := hok
  simp only [h32, Bool.and_eq_true] at hok'
  have hl := Nat.eq_of_beq_eq_true hok'.1
  have ht : cs.take 32 = cs := List.take_of_length_le (by omega)
  refine ⟨rfl, by simp [SV.sole, soleU hok'.2], fun w => ?_⟩
  exact Fn.xv (fuel := 1000) (told := []) (LibOK.cons pbeg_ok (LibOK.nil _)) Sp.mixed (r := .c (.int (numS (cs.take 32)))) (ob := bnd (bnd true (Nat.ble (0 + 32) cs.length)) (h32 (cs.take 32) && true)) (obs := []) (by kernel_rfl) (by rw [ht, hok]; simp [bnd_true]; omega) trivial (by rw [ht])
theorem rnum_ok : ConOK Tryz.prog frNum numC := by
  refine pureConB_ok (fn := Tryz.f90) (by kernel_rfl) rfl rfl fun args v hok h => ?_
  split at h <;> try (cases h; done)
  rename_i cs
  simp only [Option.some.injEq] at h; subst h
  simp only at hok
  have hok' := hok
  simp only [h32, Bool.and_eq_true] at hok'
  have hl := Nat.eq_of_beq_eq_true hok'.1
  have ht : cs.take 32 = cs := List.take_of_length_le (by omega)
  refine ⟨rfl, by simp [SV.sole, soleU hok'.2], fun w => ?_⟩
  exact Fn.xv (fuel := 1000) (told := []) (LibOK.cons rbeg_ok (LibOK.nil _)) Sp.mixed (r := .c (.int (numS (cs.take 32)))) (ob := bnd (bnd true (Nat.ble (0 + 32) cs.length)) (h32 (cs.take 32) && true)) (obs := []) (by kernel_rfl) (by rw [ht, hok]; simp [bnd_true]; omega) trivial (by rw [ht])
theorem numS_bd (cs : List SC) : 0 ≤ numS cs ∧ numS cs < 1073741789 := by
  have h1 : (bW cs % (1073741789 : UInt64)).toNat < 1073741789 := by
    rw [UInt64.toNat_mod]
    exact Nat.mod_lt _ (by decide)
  unfold numS begS
  rw [IntKind.wrap_i64]
  omega

/-! What is hashed. -/
def signT : List UInt8 := [115, 105, 103, 110]
def nonceT : List UInt8 := [110, 111, 110, 99, 101]
def chalH (r y : Int) (bs : List UInt8) : Sp.H4 := deriveS zb signT (fourB r ++ (fourB y ++ bs))
def chalS (r y : Int) (bs : List UInt8) : Int := numS (hc (chalH r y bs))
def nonceS (x : Int) (bs : List UInt8) : Int := scalS (hc (deriveS zb nonceT (fourB x ++ bs)))
def rowsOk (off n : Nat) (b : Blk) (m : Nat) : Bool := (((Nat.ble (off + n * 1) b.cells.length && true) && (rd off n b).all SC.isU8) && true) && Nat.ble m 1073741824
def rowOk1 (off n : Nat) (b : Blk) : Bool := (Nat.ble (off + n * 1) b.cells.length && true) && ((rd off n b).all SC.isU8 && Nat.ble n 1000000)
theorem rowsOk_eq {off : Nat} {b : Blk} {bs : List UInt8} {m : Nat} (h : RowB off b bs) (hm : m ≤ 1073741824) : rowsOk off bs.length b m = true := by
  unfold rowsOk
  rw [rd_eq h, isU8s]
  have := h.len
  simp only [Bool.and_eq_true, Nat.ble_eq, and_true, true_and]
  omega
theorem rowOk1_eq {off : Nat} {b : Blk} {bs : List UInt8} (h : RowB off b bs) (hm : bs.length ≤ 1000000) : rowOk1 off bs.length b = true := by
  unfold rowOk1
  rw [rd_eq h, isU8s]
  have := h.len
  simp only [Bool.and_eq_true, Nat.ble_eq, and_true, true_and]
  omega
theorem fourB_len (n : Int) : (fourB n).length = 4 := rfl
def chalC : Con := bytesCon 1000000 fun ps bs => match ps with | [.c (.int r), .c (.int y)] => some (.c (.int (chalS r y bs))) | _ => none
theorem chal_lib : LibOK Tryz.prog [(fFour, fourC), (Sp.fDer, Sp.derC), (fNum, numC)] := LibOK.cons four_ok (LibOK.cons Sp.der_ok (LibOK.cons num_ok (LibOK.nil _)))
theorem chal_ok : ConOK Tryz.prog fChal chalC := by
  refine bytesCon_ok (fn := Tryz.f60) (by kernel_rfl) rfl rfl fun ps bs v h => ?_
  split at h <;> try (cases h; done)
  rename_i r y
  simp only [Option.some.injEq] at h; subst h
  refine ⟨rfl, fun w off b hb hl => ?_⟩
  have hrb := rdB_eq hb
  have hlen : (fourB r ++ (fourB y ++ bs)).length ≤ 1073741824 := by simp only [List.length_append, fourB_len]; omega
  have hfl : [fourB r, fourB y, rdB off bs.length b].flatten = fourB r ++ (fourB y ++ bs) := by rw [hrb]; simp
  exact Fn.xv (fuel := 1000) (told := []) chal_lib Sp.mixed (r := .c (.int (numS (hc (deriveS zb signT [fourB r, fourB y, rdB off bs.length b].flatten))))) (ob := bnd true (rowsOk off bs.length b [fourB r, fourB y, rdB off bs.length b].flatten.length)) (obs := []) (by kernel_rfl) (by rw [hfl, rowsOk_eq hb hlen]; rfl) trivial (by rw [hfl]; rfl)

theorem rchal_lib : LibOK Tryz.prog [(frFour, fourC), (Sp.fJoin, Sp.joinC), (Sp.fRDer, Sp.rderC), (frNum, numC)] := LibOK.cons rfour_ok (LibOK.cons Sp.join_ok (LibOK.cons Sp.rder_ok (LibOK.cons rnum_ok (LibOK.nil _))))
/-- What is asked where joined rows are hashed. -/
def joinedOk (off n : Nat) (b : Blk) (l : List UInt8) : Bool := bnd (bnd true (rowsOk off n b l.length)) ((Nat.ble (0 + l.length * 1) (l.map SC.u8).length && true) && ((rd 0 l.length ⟨l.map SC.u8, tB8, true, true⟩).all SC.isU8 && Nat.ble l.length 1073741824))
theorem joinedOk_eq {off : Nat} {b : Blk} {bs : List UInt8} {l : List UInt8} (h : RowB off b bs) (hm : l.length ≤ 1073741824) : joinedOk off bs.length b l = true := by
  unfold joinedOk
  rw [rowsOk_eq h hm, rd_own, isU8s]
  simp only [bnd_true, Bool.and_eq_true, Nat.ble_eq, and_true, true_and, List.length_map]
  omega
theorem rchal_ok : ConOK Tryz.prog frChal chalC := by
  refine bytesCon_ok (fn := Tryz.f63) (by kernel_rfl) rfl rfl fun ps bs v h => ?_
  split at h <;> try (cases h; done)
  rename_i r y
  simp only [Option.some.injEq] at h; subst h
  refine ⟨rfl, fun w off b hb hl => ?_⟩
  have hrb := rdB_eq hb
  have hlen : (fourB r ++ (fourB y ++ bs)).length ≤ 1073741824 := by simp only [List.length_append, fourB_len]; omega
  have hfl : [fourB r, fourB y, rdB off bs.length b].flatten = fourB r ++ (fourB y ++ bs) := by rw [hrb]; simp
  exact Fn.xv (fuel := 1000) (told := []) rchal_lib Sp.mixed (r := .c (.int (numS (hc (deriveS zb signT (rdB 0 [fourB r, fourB y, rdB off bs.length b].flatten.length ⟨[fourB r, fourB y, rdB off bs.length b].flatten.map SC.u8, tB8, true, true⟩))))))
    (ob := joinedOk off bs.length b [fourB r, fourB y, rdB off bs.length b].flatten) (obs := []) (by kernel_rfl) (by rw [hfl]; exact joinedOk_eq hb hlen) trivial (by rw [hfl, rdB_own]; rfl)

/-! Signing. -/
def signEE (x y : Int) (bs : List UInt8) : Int := chalS (powS 4 (nonceS x bs)) y bs
def signSS (x y : Int) (bs : List UInt8) : Int := (IntKind.i64.wrap (nonceS x bs + IntKind.i64.wrap (signEE x y bs * x))).tmod 1073741789
def signV (x y : Int) (bs : List UInt8) : SV := .agg [.int (signEE x y bs), .int (signSS x y bs)]
def signC : Con := objBytesW 100000 fun cs bs => match cs with
  | [.int x, .ik .u32 d, .ik .i32 s, .ik .u32 e, .int y, .ik .u32 m, .int u] => bif d == 0 then some (s == 0, signV x (powS 4 x) bs, keyC x 1 0 e (powS 4 x) 1 u) else some (d == 1, signV x y bs, keyC x d s e y m u)
  | _ => none
theorem sign_lib : LibOK Tryz.prog [(fSec, secC), (fFour, fourC), (Sp.fDer, Sp.derC), (fpScal, scalC), (fpPow, powC), (fPub, pubC), (fChal, chalC)] := LibOK.cons sec_ok (LibOK.cons four_ok (LibOK.cons Sp.der_ok (LibOK.cons pscal_ok (LibOK.cons ppow_ok (LibOK.cons pub_ok (LibOK.cons chal_ok (LibOK.nil _)))))))
def signN (x : Int) (off n : Nat) (b : Blk) : Int := scalS (hc (deriveS zb nonceT [fourB x, rdB off n b].flatten))
def signE (x y : Int) (off n : Nat) (b : Blk) : Int := chalS (powS 4 (signN x off n b)) y (rdB off n b)
def signW (x y : Int) (off n : Nat) (b : Blk) : SV := .agg [.int (signE x y off n b), .int ((IntKind.i64.wrap (signN x off n b + IntKind.i64.wrap (signE x y off n b * x))).tmod 1073741789)]
def signOb (x : Int) (off n : Nat) (b : Blk) : Bool := bnd (bnd true (rowsOk off n b [fourB x, rdB off n b].flatten.length)) (rowOk1 off n b)
theorem signOb_eq {off : Nat} {b : Blk} {bs : List UInt8} (x : Int) (h : RowB off b bs) (hl : bs.length ≤ 100000) : signOb x off bs.length b = true := by
  have hfl : [fourB x, rdB off bs.length b].flatten = fourB x ++ bs := by rw [rdB_eq h]; simp
  unfold signOb
  rw [hfl, rowsOk_eq h (by simp only [List.length_append, fourB_len]; omega), rowOk1_eq h (by omega)]; rfl
theorem signW_eq {off : Nat} {b : Blk} {bs : List UInt8} (x y : Int) (h : RowB off b bs) : signW x y off bs.length b = signV x y bs := by
  have hfl : [fourB x, rdB off bs.length b].flatten = fourB x ++ bs := by rw [rdB_eq h]; simp
  unfold signW signE signN
  rw [hfl, rdB_eq h]; rfl
theorem sign_ok : ConOK Tryz.prog fSign signC := by
  refine objBytesW_ok (fn := Tryz.f24) (by kernel_rfl) rfl rfl fun cs bs v cs' h hs hs' hl => ?_
  split at h <;> try (cases h; done)
  rename_i x d s e y m u
  cases hd : d == 0 with
  | true =>
    rw [hd] at h
    simp only [cond_true, Option.some.injEq, Prod.mk.injEq, beq_iff_eq] at h
    simp only [beq_iff_eq] at hd
    obtain ⟨rfl, rfl, rfl⟩ := h
    subst hd
    refine ⟨fun ρ ρ' u h => plainS_R h rfl, fun X hX ty off b hb => ?_⟩
    have := Fn.xt (X := X) sign_lib Sp.mixed (fuel := 1000) (f := fSign) (args := [.c (.ptr 0 0), .c (.slc 1 off 1 bs.length none)]) (T := [(0, some ⟨keyC x 0 0 e y m u, ty, false, true⟩), (1, some b)]) (nk := 2) (told := []) (ob := signOb x off bs.length b) (obs := []) (r := signW x (powS 4 x) off bs.length b) (k := 0) (b := some ⟨keyC x 1 0 e (powS 4 x) 1 u, ty, false, true⟩) (by kernel_rfl) (signOb_eq x hb hl) trivial
    rw [signW_eq _ _ hb] at this
    exact this
  | false =>
    rw [hd] at h
    simp only [cond_false, Option.some.injEq, Prod.mk.injEq, beq_iff_eq] at h
    obtain ⟨rfl, rfl, rfl⟩ := h
    refine ⟨fun ρ ρ' u h => plainS_R h rfl, fun X hX ty off b hb => ?_⟩
    have := Fn.xt (X := X) sign_lib Sp.mixed (fuel := 1000) (f := fSign) (args := [.c (.ptr 0 0), .c (.slc 1 off 1 bs.length none)]) (T := [(0, some ⟨keyC x 1 s e y m u, ty, false, true⟩), (1, some b)]) (nk := 2) (told := []) (ob := signOb x off bs.length b) (obs := []) (r := signW x y off bs.length b) (k := 0) (b := some ⟨keyC x 1 s e y m u, ty, false, true⟩) (by kernel_rfl) (signOb_eq x hb hl) trivial
    rw [signW_eq _ _ hb] at this
    exact this

def rsignC : Con := bytesCon 100000 fun ps bs => match ps with | [.agg [.int x, .int y]] => some (signV x y bs) | _ => none
theorem rsign_lib : LibOK Tryz.prog [(frFour, fourC), (Sp.fJoin, Sp.joinC), (Sp.fRDer, Sp.rderC), (frScal, scalC), (frPow, powC), (frChal, chalC)] := LibOK.cons rfour_ok (LibOK.cons Sp.join_ok (LibOK.cons Sp.rder_ok (LibOK.cons rscal_ok (LibOK.cons rpow_ok (LibOK.cons rchal_ok (LibOK.nil _))))))
def rsN (x : Int) (off n : Nat) (b : Blk) : Int := scalS (hc (deriveS zb nonceT (rdB 0 [fourB x, rdB off n b].flatten.length ⟨[fourB x, rdB off n b].flatten.map SC.u8, tB8, true, true⟩)))
def rsE (x y : Int) (off n : Nat) (b : Blk) : Int := chalS (powS 4 (rsN x off n b)) y (rdB off n b)
def rsW (x y : Int) (off n : Nat) (b : Blk) : SV := .agg [.int (rsE x y off n b), .int ((IntKind.i64.wrap (rsN x off n b + IntKind.i64.wrap (rsE x y off n b * x))).tmod 1073741789)]
theorem rsign_ok : ConOK Tryz.prog frSign rsignC := by
  refine bytesCon_ok (fn := Tryz.f27) (by kernel_rfl) rfl rfl fun ps bs v h => ?_
  split at h <;> try (cases h; done)
  rename_i x y
  simp only [Option.some.injEq] at h; subst h
  refine ⟨rfl, fun w off b hb hl => ?_⟩
  have hfl : [fourB x, rdB off bs.length b].flatten = fourB x ++ bs := by rw [rdB_eq hb]; simp
  have hlen : (fourB x ++ bs).length ≤ 1073741824 := by simp only [List.length_append, fourB_len]; omega
  exact Fn.xv (fuel := 1000) (told := []) rsign_lib Sp.mixed (r := rsW x y off bs.length b) (ob := bnd (joinedOk off bs.length b [fourB x, rdB off bs.length b].flatten) (rowOk1 off bs.length b)) (obs := []) (by kernel_rfl) (by rw [hfl, joinedOk_eq hb hlen, rowOk1_eq hb (by omega)]; rfl) trivial (by
    unfold rsW rsE rsN
    rw [hfl, rdB_own, rdB_eq hb]; rfl)

end Go.Proofs.YtabiknpgakhkkaaGreat.Sg
end

section
namespace Go.Proofs.YtabiknpgakhkkaaGreat.Sg
open Go.RowKit Go.Proofs.YtabiknpgakhkkaaGreat.Sx Go.Proofs.YtabiknpgakhkkaaGreat.Pw Go.Proofs.YtabiknpgakhkkaaGreat.Pr
open Go.Proofs.YtabiknpgakhkkaaGreat.Sp (rd rdB rd_eq rdB_eq rd_own rdB_own hc deriveS isU8s asU8s)
set_option linter.unusedVariables false

def inQ (a : Int) : Bool := bif g0 a then decide (a < 1073741789) else false
theorem inQ_iff {a : Int} : inQ a = true ↔ 0 ≤ a ∧ a < 1073741789 := by
  unfold inQ g0
  by_cases h : a ≥ 0
  · rw [decide_eq_true h]; simp; omega
  · rw [decide_eq_false h]; simp; omega
def inQC : Con := pureCon fun | [.c (.int a)] => some (.c (.bool (inQ a))) | _ => none
theorem inQ_ok : ConOK Tryz.prog fInQ inQC := by
  refine pureCon_ok (fn := Tryz.f74) (by kernel_rfl) rfl rfl fun args v h => ?_
  split at h <;> try (cases h; done)
  rename_i a
  simp only [Option.some.injEq] at h; subst h
  refine ⟨rfl, rfl, fun w => ?_⟩
  cases hg : g0 a with
  | true => exact Fn.xv (fuel := 1000) (told := [true]) (LibOK.nil _) Sp.mixed (r := .c (.bool (bif g0 a then decide (a < 1073741789) else false))) (ob := bnd (bnd true (g0 a == true && true)) (g0 a == true && true)) (obs := []) (by kernel_rfl) (by rw [hg]; rfl) trivial rfl
  | false => exact Fn.xv (fuel := 1000) (told := [false]) (LibOK.nil _) Sp.mixed (r := .c (.bool false)) (ob := bnd (bnd (bnd true (g0 a == false && true)) (g0 a == false && true)) (!g0 a)) (obs := []) (by kernel_rfl) (by rw [hg]; rfl) trivial (by unfold inQ; rw [hg]; rfl)

/-- The point that a signature stands for. -/
def backS (y E S : Int) : Int := mulS (powS 4 S) (powS y (IntKind.i64.wrap (1073741789 - E)))
def vA (y : Int) : Bool := !isS y
def vB (y E : Int) : Bool := bif vA y then true else !inQ E
def vC (y E S : Int) : Bool := bif vB y E then true else !inQ S
def verS (y : Int) (bs : List UInt8) (E S : Int) : Bool := bif vC y E S then false else E == chalS (backS y E S) y bs
def q4 (x g acc : Bool) : Bool := bnd (bnd (bnd (bnd acc (x == g && true)) (x == g && true)) (x == g && true)) (x == g && true)
def q3 (x g acc : Bool) : Bool := bnd (bnd (bnd acc (x == g && true)) (x == g && true)) (x == g && true)
theorem q4_eq (x : Bool) : q4 x x true = true := by cases x <;> rfl
theorem q3_eq (x : Bool) : q3 x x true = true := by cases x <;> rfl
def verSpec (ps : List SV) (bs : List UInt8) : Option SV := match ps with | [.c (.int y), .agg [.int E, .int S]] => some (.c (.bool (verS y bs E S))) | _ => none
def verC : Con := bytesMid 1 100000 (fun _ => true) verSpec
theorem ver_lib : LibOK Tryz.prog [(fpIs, isC), (fInQ, inQC), (fpPow, powC), (fpMul, mulC), (fChal, chalC)] := LibOK.cons pis_ok (LibOK.cons inQ_ok (LibOK.cons ppow_ok (LibOK.cons pmul_ok (LibOK.cons chal_ok (LibOK.nil _)))))
theorem ver_split {pre post : List SV} {bs : List UInt8} {v : SV} (hl : pre.length = 1) (h : verSpec (pre ++ post) bs = some v) : ∃ y E S, pre = [.c (.int y)] ∧ post = [.agg [.int E, .int S]] ∧ v = .c (.bool (verS y bs E S)) := by
  match pre, hl with
  | [p0], _ =>
    unfold verSpec at h
    split at h <;> try (cases h; done)
    rename_i ps y E S heq
    simp only [List.singleton_append, List.cons.injEq] at heq
    obtain ⟨rfl, rfl⟩ := heq
    simp only [Option.some.injEq] at h
    exact ⟨y, E, S, rfl, rfl, h.symm⟩
theorem ver_ok : ConOK Tryz.prog fVer verC := by
  refine bytesMid_ok (fn := Tryz.f39) (by kernel_rfl) rfl rfl fun pre post bs v hl _ h => ?_
  obtain ⟨y, E, S, rfl, rfl, rfl⟩ := ver_split hl h
  refine ⟨fun ρ ρ' u h => plainS_R h rfl, fun w off b hb hbl => ?_⟩
  cases hA : vA y with
  | true =>
    have hC : vC y E S = true := by unfold vC vB; rw [hA]; rfl
    exact Fn.xv (fuel := 1000) (told := [true]) ver_lib Sp.mixed (r := .c (.bool false)) (ob := bnd (q4 (vA y) true true) (vA y)) (obs := []) (by kernel_rfl) (by rw [hA]; rfl) trivial (by unfold verS; rw [hC]; rfl)
  | false =>
  cases hB : vB y E with
  | true =>
    have hC : vC y E S = true := by unfold vC; rw [hB]; rfl
    exact Fn.xv (fuel := 1000) (told := [false, true]) ver_lib Sp.mixed (r := .c (.bool false)) (ob := bnd (q4 (vB y E) true (q4 (vA y) false true)) (vB y E)) (obs := []) (by kernel_rfl) (by rw [hA, hB]; rfl) trivial (by unfold verS; rw [hC]; rfl)
  | false =>
  cases hC : vC y E S with
  | true => exact Fn.xv (fuel := 1000) (told := [false, false, true]) ver_lib Sp.mixed (r := .c (.bool false)) (ob := bnd (q4 (vB y E) false (q4 (vA y) false true)) (vC y E S)) (obs := []) (by kernel_rfl) (by rw [hA, hB, hC]; rfl) trivial (by unfold verS; rw [hC]; rfl)
  | false => exact Fn.xv (fuel := 1000) (told := [false, false, false]) ver_lib Sp.mixed (r := .c (.bool (E == chalS (backS y E S) y (rdB off bs.length b)))) (ob := bnd (bnd (q4 (vB y E) false (q4 (vA y) false true)) (!vC y E S)) (rowOk1 off bs.length b)) (obs := []) (by kernel_rfl) (by rw [hA, hB, hC, rowOk1_eq hb (by omega)]; rfl) trivial (by unfold verS; rw [hC, rdB_eq hb]; rfl)

/-! The document's. -/
def wB (y E : Int) : Bool := bif vA y then true else decide (E < 0)
def wC (y E : Int) : Bool := bif wB y E then true else decide (E ≥ 1073741789)
def wD (y E S : Int) : Bool := bif wC y E then true else decide (S < 0)
def wE (y E S : Int) : Bool := bif wD y E S then true else decide (S ≥ 1073741789)
theorem wE_eq (y E S : Int) : wE y E S = vC y E S := by
  have hq : ∀ a : Int, (!inQ a) = (decide (a < 0) || decide (a ≥ 1073741789)) := fun a => by
    cases h : inQ a with
    | true => have := inQ_iff.1 h; simp; omega
    | false =>
      have : ¬ (0 ≤ a ∧ a < 1073741789) := fun h' => by rw [inQ_iff.2 h'] at h; cases h
      simp; omega
  unfold wE wD wC wB vC vB
  rw [hq, hq]
  cases vA y <;> cases decide (E < 0) <;> cases decide (E ≥ 1073741789) <;> cases decide (S < 0) <;> rfl
theorem rver_lib : LibOK Tryz.prog [(frIs, isC), (frPow, powC), (frMul, mulC), (frChal, chalC)] := LibOK.cons ris_ok (LibOK.cons rpow_ok (LibOK.cons rmul_ok (LibOK.cons rchal_ok (LibOK.nil _))))
theorem rver_ok : ConOK Tryz.prog frVer verC := by
  refine bytesMid_ok (fn := Tryz.f40) (by kernel_rfl) rfl rfl fun pre post bs v hl _ h => ?_
  obtain ⟨y, E, S, rfl, rfl, rfl⟩ := ver_split hl h
  refine ⟨fun ρ ρ' u h => plainS_R h rfl, fun w off b hb hbl => ?_⟩
  have hv : wE y E S = true → (SV.c (.bool false)) = .c (.bool (verS y bs E S)) := fun h => by
    rw [wE_eq] at h
    unfold verS; rw [h]; rfl
  cases hA : vA y with
  | true =>
    have hE : wE y E S = true := by unfold wE wD wC wB; rw [hA]; rfl
    exact Fn.xv (fuel := 1000) (told := [true]) rver_lib Sp.mixed (r := .c (.bool false)) (ob := bnd (q3 (vA y) true true) (vA y)) (obs := []) (by kernel_rfl) (by rw [hA]; rfl) trivial (hv hE)
  | false =>
  cases hB : wB y E with
  | true =>
    have hE : wE y E S = true := by unfold wE wD wC; rw [hB]; rfl
    exact Fn.xv (fuel := 1000) (told := [false, true]) rver_lib Sp.mixed (r := .c (.bool false)) (ob := bnd (q3 (wB y E) true (q3 (vA y) false true)) (wB y E)) (obs := []) (by kernel_rfl) (by rw [hA, hB]; rfl) trivial (hv hE)
  | false =>
  cases hC : wC y E with
  | true =>
    have hE : wE y E S = true := by unfold wE wD; rw [hC]; rfl
    exact Fn.xv (fuel := 1000) (told := [false, false, true]) rver_lib Sp.mixed (r := .c (.bool false)) (ob := bnd (q3 (wC y E) true (q3 (wB y E) false (q3 (vA y) false true))) (wC y E)) (obs := []) (by kernel_rfl) (by rw [hA, hB, hC]; rfl) trivial (hv hE)
  | false =>
  cases hD : wD y E S with
  | true =>
    have hE : wE y E S = true := by unfold wE; rw [hD]; rfl
    exact Fn.xv (fuel := 1000) (told := [false, false, false, true]) rver_lib Sp.mixed (r := .c (.bool false)) (ob := bnd (q3 (wD y E S) true (q3 (wC y E) false (q3 (wB y E) false (q3 (vA y) false true)))) (wD y E S)) (obs := []) (by kernel_rfl) (by rw [hA, hB, hC, hD]; rfl) trivial (hv hE)
  | false =>
  cases hE : wE y E S with
  | true => exact Fn.xv (fuel := 1000) (told := [false, false, false, false, true]) rver_lib Sp.mixed (r := .c (.bool false)) (ob := bnd (q3 (wD y E S) false (q3 (wC y E) false (q3 (wB y E) false (q3 (vA y) false true)))) (wE y E S)) (obs := []) (by kernel_rfl) (by rw [hA, hB, hC, hD, hE]; rfl) trivial (hv hE)
  | false => exact Fn.xv (fuel := 1000) (told := [false, false, false, false, false]) rver_lib Sp.mixed (r := .c (.bool (chalS (backS y E S) y (rdB off bs.length b) == E))) (ob := bnd (bnd (q3 (wD y E S) false (q3 (wC y E) false (q3 (wB y E) false (q3 (vA y) false true)))) (!wE y E S)) (rowOk1 off bs.length b)) (obs := []) (by kernel_rfl) (by rw [hA, hB, hC, hD, hE, rowOk1_eq hb (by omega)]; rfl) trivial (by
      have hc : vC y E S = false := by rw [← wE_eq]; exact hE
      unfold verS; rw [hc, rdB_eq hb, cond_false, Bool.beq_comm])

/-! What is signed holds. -/
theorem four_mod (m : Nat) : 4 ^ (m % prQ) % prP = 4 ^ m % prP := by
  have h : m = prQ * (m / prQ) + m % prQ := (Nat.div_add_mod m prQ).symm
  have e : 4 ^ m = (4 ^ prQ) ^ (m / prQ) * 4 ^ (m % prQ) := by rw [← Nat.pow_mul, ← Nat.pow_add, ← h]
  have h1 : (4 ^ prQ) ^ (m / prQ) % prP = 1 := by rw [Nat.pow_mod, four_q, Nat.one_pow]; rfl
  rw [e, Nat.mul_mod, h1, Nat.one_mul, Nat.mod_mod]
theorem back_eq {x n e : Nat} (hx0 : 0 < x) (hx : x < prQ) (hn : n < prQ) (he : e < prQ) : backS (powS 4 (x : Int)) (e : Int) (((n + e * x) % prQ : Nat) : Int) = powS 4 (n : Int) := by
  have hQ : prQ = 1073741789 := rfl
  have hw : IntKind.i64.wrap (1073741789 - (e : Int)) = ((prQ - e : Nat) : Int) := by rw [IntKind.wrap_i64]; omega
  have hm : (n + e * x) % prQ < prQ := Nat.mod_lt _ (by decide)
  unfold backS
  rw [hw, pub_nat hm, pub_nat hx, powS_nat (Nat.mod_lt _ (by decide)) (Nat.sub_le _ _), mulS_eq (Nat.mod_lt _ (by decide)) (Nat.mod_lt _ (by decide)), pub_nat hn]
  congr 1
  rw [← Nat.pow_mod, ← Nat.pow_mul, four_mod, ← Nat.mul_mod, ← Nat.pow_add]
  have : n + e * x + x * (prQ - e) = n + prQ * x := by
    have h1 : x * (prQ - e) + x * e = x * prQ := by rw [← Nat.mul_add]; congr 1; omega
    have h2 : e * x = x * e := Nat.mul_comm _ _
    have h3 : prQ * x = x * prQ := Nat.mul_comm _ _
    omega
  rw [this, ← four_mod, Nat.add_mul_mod_self_left, four_mod]
theorem chal_nat (r y : Int) (bs : List UInt8) : ∃ e : Nat, chalS r y bs = (e : Int) ∧ e < prQ := by
  have ⟨h1, h2⟩ := numS_bd (hc (chalH r y bs))
  have hQ : prQ = 1073741789 := rfl
  have e : chalS r y bs = numS (hc (chalH r y bs)) := rfl
  exact ⟨(chalS r y bs).toNat, by omega, by omega⟩
theorem nonce_nat (x : Int) (bs : List UInt8) : ∃ n : Nat, nonceS x bs = (n : Int) ∧ 0 < n ∧ n < prQ := scal_nat _
/-- A signature's parts. -/
theorem sign_nat {x : Nat} (hx : x < prQ) (y : Int) (bs : List UInt8) : ∃ n e : Nat, nonceS x bs = n ∧ n < prQ ∧ signEE x y bs = e ∧ e < prQ ∧ signSS x y bs = (((n + e * x) % prQ : Nat) : Int) := by
  obtain ⟨n, hn, _, hnQ⟩ := nonce_nat x bs
  obtain ⟨e, he, heQ⟩ := chal_nat (powS 4 (nonceS x bs)) y bs
  have hQ : prQ = 1073741789 := rfl
  refine ⟨n, e, hn, hnQ, he, heQ, ?_⟩
  have hmul : e * x ≤ 1073741789 * 1073741789 := Nat.mul_le_mul (by omega) (by omega)
  unfold signSS
  have he' : signEE x y bs = e := he
  rw [hn, he']
  have h1 : IntKind.i64.wrap ((e : Int) * (x : Int)) = ((e * x : Nat) : Int) := by rw [← Int.natCast_mul, IntKind.wrap_i64]; omega
  have h2 : IntKind.i64.wrap ((n : Int) + ((e * x : Nat) : Int)) = ((n + e * x : Nat) : Int) := by rw [IntKind.wrap_i64]; omega
  rw [h1, h2, Int.tmod_eq_emod_of_nonneg (by omega)]
  exact (Int.natCast_emod _ _).symm
theorem sign_holds {x : Nat} (hx0 : 0 < x) (hx : x < prQ) (bs : List UInt8) : verS (powS 4 (x : Int)) bs (signEE x (powS 4 (x : Int)) bs) (signSS x (powS 4 (x : Int)) bs) = true := by
  obtain ⟨n, e, hn, hnQ, he, heQ, hs⟩ := sign_nat hx (powS 4 (x : Int)) bs
  have hQ : prQ = 1073741789 := rfl
  have hm : (n + e * x) % prQ < prQ := Nat.mod_lt _ (by decide)
  have hA : vA (powS 4 (x : Int)) = false := by
    unfold vA
    rw [pub_nat hx, isS_pow (q_coprime hx0 hx)]; rfl
  have hB : inQ (e : Int) = true := inQ_iff.2 ⟨by omega, by omega⟩
  have hC : inQ (((n + e * x) % prQ : Nat) : Int) = true := inQ_iff.2 ⟨by omega, by omega⟩
  unfold verS vC vB
  rw [he, hs, hA, hB, hC, back_eq hx0 hx hnQ heQ]
  simp only [cond_false, Bool.not_true, beq_iff_eq]
  rw [← he, ← hn]
  rfl

end Go.Proofs.YtabiknpgakhkkaaGreat.Sg
end

