/-
  Signatures: what the program's functions, and the document's, compute.
-/
import Derived.Test.YtionkonamhbjoaaPrD
import Derived.Test.YtionkonamhbjoaaPwB
import Derived.Test.YtionkonamhbjoaaSpT
import Derived.Test.YtionkonamhbjoaaSxO
namespace Go.Proofs.Ytionkonamhbjoaa.Sg
open Go.RowKit Go.Proofs.Ytionkonamhbjoaa.Sx Go.Proofs.Ytionkonamhbjoaa.Pw Go.Proofs.Ytionkonamhbjoaa.Pr
open Go.Proofs.Ytionkonamhbjoaa.Sp (rd rdB rd_eq rdB_eq rd_own rdB_own hc deriveS isU8s asU8s)
set_option linter.unusedVariables false

abbrev fNum : Nat := 40
abbrev frNum : Nat := 46
abbrev fChal : Nat := 25
abbrev frChal : Nat := 31
abbrev fSign : Nat := 13
abbrev frSign : Nat := 14
abbrev fInQ : Nat := 33
abbrev fVer : Nat := 15
abbrev frVer : Nat := 17

/-! Hashes as numbers below Q. -/
def numS (cs : List SC) : Int := begS cs 1073741789
def numC : Con := pureConB (fun | [.agg cs] => h32 cs | _ => true) fun | [.agg cs] => some (.c (.int (numS cs))) | _ => none
theorem num_ok : ConOK Try.prog fNum numC := by
  refine pureConB_ok (fn := Try.f40) (by kernel_rfl) rfl rfl fun args v hok h => ?_
  split at h <;> try (cases h; done)
  rename_i cs
  simp only [Option.some.injEq] at h; subst h
  simp only at hok
  have hok' := hok
  simp only [h32, Bool.and_eq_true] at hok'
  have hl := Nat.eq_of_beq_eq_true hok'.1
  have ht : cs.take 32 = cs := List.take_of_length_le (by omega)
  refine ⟨rfl, by simp [SV.sole, soleU hok'.2], fun w => ?_⟩
  exact Fn.xv (fuel := 1000) (told := []) (LibOK.cons pbeg_ok (LibOK.nil _)) Sp.mixed (r := .c (.int (numS (cs.take 32)))) (ob := bnd (bnd true (Nat.ble (0 + 32) cs.length)) (h32 (cs.take 32) && true)) (obs := []) (by kernel_rfl) (by rw [ht, hok]; simp [bnd_true]; omega) trivial (by rw [ht])
theorem rnum_ok : ConOK Try.prog frNum numC := by
  refine pureConB_ok (fn := Try.f46) (by kernel_rfl) rfl rfl fun args v hok h => ?_
  split at h <;> try (cases h; done)
  rename_i cs
  simp only [Option.some.injEq] at h; subst h
  simp only at hok
  have hok' := hok
  simp only [h32, Bool.and_eq_true] at hok'
  have hl := Nat.eq_of_beq_eq_true hok'.1
  have ht : cs.take 32 = cs := List.take_of_length_le (by omega)
  refine ⟨rfl, by simp [SV.sole, soleU hok'.2], fun w => ?_⟩
  exact Fn.xv (fuel := 1000) (told := []) (LibOK.cons rbeg_ok (LibOK.nil _)) Sp.mixed (r := .c (.int (numS (cs.take 32)))) (ob := bnd (bnd true (Nat.ble (0 + 32) cs.length)) (h32 (cs.take 32) && true)) (obs := []) (by kernel_rfl) (by rw [ht, hok]; simp [bnd_true]; omega) trivial (by rw [ht])
theorem numS_bd (cs : List SC) : 0 ≤ numS cs ∧ numS cs < 1073741789 := by
  have h1 : (bW cs % (1073741789 : UInt64)).toNat < 1073741789 := by
    rw [UInt64.toNat_mod]
    exact Nat.mod_lt _ (by decide)
  unfold numS begS
  rw [IntKind.wrap_i64]
  omega

/-! What is hashed. -/
def signT : List UInt8 := [115, 105, 103, 110]
def nonceT : List UInt8 := [110, 111, 110, 99, 101]
def chalH (r y : Int) (bs : List UInt8) : Sp.H4 := deriveS zb signT (fourB r ++ (fourB y ++ bs))
def chalS (r y : Int) (bs : List UInt8) : Int := numS (hc (chalH r y bs))
def nonceS (x : Int) (bs : List UInt8) : Int := scalS (hc (deriveS zb nonceT (fourB x ++ bs)))
def rowsOk (off n : Nat) (b : Blk) (m : Nat) : Bool := (((Nat.ble (off + n * 1) b.cells.length && true) && (rd off n b).all SC.isU8) && true) && Nat.ble m 1073741824
def rowOk1 (off n : Nat) (b : Blk) : Bool := (Nat.ble (off + n * 1) b.cells.length && true) && ((rd off n b).all SC.isU8 && Nat.ble n 1000000)
theorem rowsOk_eq {off : Nat} {b : Blk} {bs : List UInt8} {m : Nat} (h : RowB off b bs) (hm : m ≤ 1073741824) : rowsOk off bs.length b m = true := by
  unfold rowsOk
  rw [rd_eq h, isU8s]
  have := h.len
  simp only [Bool.and_eq_true, Nat.ble_eq, and_true, true_and]
  omega
theorem rowOk1_eq {off : Nat} {b : Blk} {bs : List UInt8} (h : RowB off b bs) (hm : bs.length ≤ 1000000) : rowOk1 off bs.length b = true := by
  unfold rowOk1
  rw [rd_eq h, isU8s]
  have := h.len
  simp only [Bool.and_eq_true, Nat.ble_eq, and_true, true_and]
  omega
theorem fourB_len (n : Int) : (fourB n).length = 4 := rfl
def chalC : Con := bytesCon 1000000 fun ps bs => match ps with | [.c (.int r), .c (.int y)] => some (.c (.int (chalS r y bs))) | _ => none
theorem chal_lib : LibOK Try.prog [(fFour, fourC), (Sp.fDer, Sp.derC), (fNum, numC)] := LibOK.cons four_ok (LibOK.cons Sp.der_ok (LibOK.cons num_ok (LibOK.nil _)))
theorem chal_ok : ConOK Try.prog fChal chalC := by
  refine bytesCon_ok (fn := Try.f25) (by kernel_rfl) rfl rfl fun ps bs v h => ?_
  split at h <;> try (cases h; done)
  rename_i r y
  simp only [Option.some.injEq] at h; subst h
  refine ⟨rfl, fun w off b hb hl => ?_⟩
  have hrb := rdB_eq hb
  have hlen : (fourB r ++ (fourB y ++ bs)).length ≤ 1073741824 := by simp only [List.length_append, fourB_len]; omega
  have hfl : [fourB r, fourB y, rdB off bs.length b].flatten = fourB r ++ (fourB y ++ bs) := by rw [hrb]; simp
  exact Fn.xv (fuel := 1000) (told := []) chal_lib Sp.mixed (r := .c (.int (numS (hc (deriveS zb signT [fourB r, fourB y, rdB off bs.length b].flatten))))) (ob := bnd true (rowsOk off bs.length b [fourB r, fourB y, rdB off bs.length b].flatten.length)) (obs := []) (by kernel_rfl) (by rw [hfl, rowsOk_eq hb hlen]; rfl) trivial (by rw [hfl]; rfl)

theorem rchal_lib : LibOK Try.prog [(frFour, fourC), (Sp.fJoin, Sp.joinC), (Sp.fRDer, Sp.rderC), (frNum, numC)] := LibOK.cons rfour_ok (LibOK.cons Sp.join_ok (LibOK.cons Sp.rder_ok (LibOK.cons rnum_ok (LibOK.nil _))))
/-- What is asked where joined rows are hashed. -/
def joinedOk (off n : Nat) (b : Blk) (l : List UInt8) : Bool := bnd (bnd true (rowsOk off n b l.length)) ((Nat.ble (0 + l.length * 1) (l.map SC.u8).length && true) && ((rd 0 l.length ⟨l.map SC.u8, tB8, true, true⟩).all SC.isU8 && Nat.ble l.length 1073741824))
theorem joinedOk_eq {off : Nat} {b : Blk} {bs : List UInt8} {l : List UInt8} (h : RowB off b bs) (hm : l.length ≤ 1073741824) : joinedOk off bs.length b l = true := by
  unfold joinedOk
  rw [rowsOk_eq h hm, rd_own, isU8s]
  simp only [bnd_true, Bool.and_eq_true, Nat.ble_eq, and_true, true_and, List.length_map]
  omega
theorem rchal_ok : ConOK Try.prog frChal chalC := by
  refine bytesCon_ok (fn := Try.f31) (by kernel_rfl) rfl rfl fun ps bs v h => ?_
  split at h <;> try (cases h; done)
  rename_i r y
  simp only [Option.some.injEq] at h; subst h
  refine ⟨rfl, fun w off b hb hl => ?_⟩
  have hrb := rdB_eq hb
  have hlen : (fourB r ++ (fourB y ++ bs)).length ≤ 1073741824 := by simp only [List.length_append, fourB_len]; omega
  have hfl : [fourB r, fourB y, rdB off bs.length b].flatten = fourB r ++ (fourB y ++ bs) := by rw [hrb]; simp
  exact Fn.xv (fuel := 1000) (told := []) rchal_lib Sp.mixed (r := .c (.int (numS (hc (deriveS zb signT (rdB 0 [fourB r, fourB y, rdB off bs.length b].flatten.length ⟨[fourB r, fourB y, rdB off bs.length b].flatten.map SC.u8, tB8, true, true⟩))))))
    (ob := joinedOk off bs.length b [fourB r, fourB y, rdB off bs.length b].flatten) (obs := []) (by kernel_rfl) (by rw [hfl]; exact joinedOk_eq hb hlen) trivial (by rw [hfl, rdB_own]; rfl)

/-! Signing. -/
def signEE (x y : Int) (bs : List UInt8) : Int := chalS (powS 4 (nonceS x bs)) y bs
def signSS (x y : Int) (bs : List UInt8) : Int := (IntKind.i64.wrap (nonceS x bs + IntKind.i64.wrap (signEE x y bs * x))).tmod 1073741789
def signV (x y : Int) (bs : List UInt8) : SV := .agg [.int (signEE x y bs), .int (signSS x y bs)]
def signC : Con := objBytesW 100000 fun cs bs => match cs with
  | [.int x, .ik .u32 d, .ik .i32 s, .ik .u32 e, .int y, .ik .u32 m, .int u] => bif d == 0 then some (s == 0, signV x (powS 4 x) bs, keyC x 1 0 e (powS 4 x) 1 u) else some (d == 1, signV x y bs, keyC x d s e y m u)
  | _ => none
theorem sign_lib : LibOK Try.prog [(fSec, secC), (fFour, fourC), (Sp.fDer, Sp.derC), (fpScal, scalC), (fpPow, powC), (fPub, pubC), (fChal, chalC)] := LibOK.cons sec_ok (LibOK.cons four_ok (LibOK.cons Sp.der_ok (LibOK.cons pscal_ok (LibOK.cons ppow_ok (LibOK.cons pub_ok (LibOK.cons chal_ok (LibOK.nil _)))))))
def signN (x : Int) (off n : Nat) (b : Blk) : Int := scalS (hc (deriveS zb nonceT [fourB x, rdB off n b].flatten))
def signE (x y : Int) (off n : Nat) (b : Blk) : Int := chalS (powS 4 (signN x off n b)) y (rdB off n b)
def signW (x y : Int) (off n : Nat) (b : Blk) : SV := .agg [.int (signE x y off n b), .int ((IntKind.i64.wrap (signN x off n b + IntKind.i64.wrap (signE x y off n b * x))).tmod 1073741789)]
def signOb (x : Int) (off n : Nat) (b : Blk) : Bool := bnd (bnd true (rowsOk off n b [fourB x, rdB off n b].flatten.length)) (rowOk1 off n b)
theorem signOb_eq {off : Nat} {b : Blk} {bs : List UInt8} (x : Int) (h : RowB off b bs) (hl : bs.length ≤ 100000) : signOb x off bs.length b = true := by
  have hfl : [fourB x, rdB off bs.length b].flatten = fourB x ++ bs := by rw [rdB_eq h]; simp
  unfold signOb
  rw [hfl, rowsOk_eq h (by simp only [List.length_append, fourB_len]; omega), rowOk1_eq h (by omega)]; rfl
theorem signW_eq {off : Nat} {b : Blk} {bs : List UInt8} (x y : Int) (h : RowB off b bs) : signW x y off bs.length b = signV x y bs := by
  have hfl : [fourB x, rdB off bs.length b].flatten = fourB x ++ bs := by rw [rdB_eq h]; simp
  unfold signW signE signN
  rw [hfl, rdB_eq h]; rfl
theorem sign_ok : ConOK Try.prog fSign signC := by
  refine objBytesW_ok (fn := Try.f13) (by kernel_rfl) rfl rfl fun cs bs v cs' h hs hs' hl => ?_
  split at h <;> try (cases h; done)
  rename_i x d s e y m u
  cases hd : d == 0 with
  | true =>
    rw [hd] at h
    simp only [cond_true, Option.some.injEq, Prod.mk.injEq, beq_iff_eq] at h
    simp only [beq_iff_eq] at hd
    obtain ⟨rfl, rfl, rfl⟩ := h
    subst hd
    refine ⟨fun ρ ρ' u h => plainS_R h rfl, fun X hX ty off b hb => ?_⟩
    have := Fn.xt (X := X) sign_lib Sp.mixed (fuel := 1000) (f := fSign) (args := [.c (.ptr 0 0), .c (.slc 1 off 1 bs.length none)]) (T := [(0, some ⟨keyC x 0 0 e y m u, ty, false, true⟩), (1, some b)]) (nk := 2) (told := []) (ob := signOb x off bs.length b) (obs := []) (r := signW x (powS 4 x) off bs.length b) (k := 0) (b := some ⟨keyC x 1 0 e (powS 4 x) 1 u, ty, false, true⟩) (by kernel_rfl) (signOb_eq x hb hl) trivial
    rw [signW_eq _ _ hb] at this
    exact this
  | false =>
    rw [hd] at h
    simp only [cond_false, Option.some.injEq, Prod.mk.injEq, beq_iff_eq] at h
    obtain ⟨rfl, rfl, rfl⟩ := h
    refine ⟨fun ρ ρ' u h => plainS_R h rfl, fun X hX ty off b hb => ?_⟩
    have := Fn.xt (X := X) sign_lib Sp.mixed (fuel := 1000) (f := fSign) (args := [.c (.ptr 0 0), .c (.slc 1 off 1 bs.length none)]) (T := [(0, some ⟨keyC x 1 s e y m u, ty, false, true⟩), (1, some b)]) (nk := 2) (told := []) (ob := signOb x off bs.length b) (obs := []) (r := signW x y off bs.length b) (k := 0) (b := some ⟨keyC x 1 s e y m u, ty, false, true⟩) (by kernel_rfl) (signOb_eq x hb hl) trivial
    rw [signW_eq _ _ hb] at this
    exact this

def rsignC : Con := bytesCon 100000 fun ps bs => match ps with | [.agg [.int x, .int y]] => some (signV x y bs) | _ => none
theorem rsign_lib : LibOK Try.prog [(frFour, fourC), (Sp.fJoin, Sp.joinC), (Sp.fRDer, Sp.rderC), (frScal, scalC), (frPow, powC), (frChal, chalC)] := LibOK.cons rfour_ok (LibOK.cons Sp.join_ok (LibOK.cons Sp.rder_ok (LibOK.cons rscal_ok (LibOK.cons rpow_ok (LibOK.cons rchal_ok (LibOK.nil _))))))
def rsN (x : Int) (off n : Nat) (b : Blk) : Int := scalS (hc (deriveS zb nonceT (rdB 0 [fourB x, rdB off n b].flatten.length ⟨[fourB x, rdB off n b].flatten.map SC.u8, tB8, true, true⟩)))
def rsE (x y : Int) (off n : Nat) (b : Blk) : Int := chalS (powS 4 (rsN x off n b)) y (rdB off n b)
def rsW (x y : Int) (off n : Nat) (b : Blk) : SV := .agg [.int (rsE x y off n b), .int ((IntKind.i64.wrap (rsN x off n b + IntKind.i64.wrap (rsE x y off n b * x))).tmod 1073741789)]
theorem rsign_ok : ConOK Try.prog frSign rsignC := by
  refine bytesCon_ok (fn := Try.f14) (by kernel_rfl) rfl rfl fun ps bs v h => ?_
  split at h <;> try (cases h; done)
  rename_i x y
  simp only [Option.some.injEq] at h; subst h
  refine ⟨rfl, fun w off b hb hl => ?_⟩
  have hfl : [fourB x, rdB off bs.length b].flatten = fourB x ++ bs := by rw [rdB_eq hb]; simp
  have hlen : (fourB x ++ bs).length ≤ 1073741824 := by simp only [List.length_append, fourB_len]; omega
  exact Fn.xv (fuel := 1000) (told := []) rsign_lib Sp.mixed (r := rsW x y off bs.length b) (ob := bnd (joinedOk off bs.length b [fourB x, rdB off bs.length b].flatten) (rowOk1 off bs.length b)) (obs := []) (by kernel_rfl) (by rw [hfl, joinedOk_eq hb hlen, rowOk1_eq hb (by omega)]; rfl) trivial (by
    unfold rsW rsE rsN
    rw [hfl, rdB_own, rdB_eq hb]; rfl)

end Go.Proofs.Ytionkonamhbjoaa.Sg
