/-
  The laws of a number's bytes, and of what two keys share.
-/
import Derived.Test.YtgemcihcnmkkbaaPrD
import Derived.Test.YtgemcihcnmkkbaaPwB
namespace Go.Proofs.Ytgemcihcnmkkbaa.Pr
open Go.RowKit Go.Proofs.Ytgemcihcnmkkbaa.Sx Go.Proofs.Ytgemcihcnmkkbaa.Pw
set_option linter.unusedVariables false

theorem key_lib {S : List SC → Int} {W : Int → Int → Int} (hS : S = scalS) (hW : W = powS) : LibOK Try.prog [(fFrom, fromG S), (fMade, madeC), (fPub, pubG W), (frFrom, rfromG S W), (fUses, usesC)] := by
  subst hS hW
  exact LibOK.cons from_ok (LibOK.cons made_ok (LibOK.cons pub_ok (LibOK.cons rfrom_ok (LibOK.cons uses_ok (LibOK.nil _)))))
abbrev fKnown3 : Nat := 13
def knownH : List SC := .u8 1 :: List.replicate 31 (.u8 0)
def knE (S : List SC → Int) (W : Int → Int → Int) : Bool := W 4 (S knownH) == W 4 (S knownH)
theorem known_fn (w : World) {S : List SC → Int} {W : Int → Int → Int} (hS : S = scalS) (hW : W = powS) : Sx.Fn Try.prog fKnown3 (atW w 0) [] [] 0 fun r _ => r = .c (.bool true) := by
  have hE : knE S W = true := by unfold knE; simp
  exact Fn.xv (fuel := 1000) (told := [false, false, true, true]) (key_lib hS hW) Sp.mixed (r := .c (.bool (bif knE S W then true else false))) (ob := bnd (bnd (bnd true (knE S W == true && true)) (knE S W == true && true)) (knE S W == true && true)) (obs := []) (by kernel_rfl) (by rw [hE]; rfl) trivial (by rw [hE]; rfl)
def knownC : Con := pureCon fun | [] => some (.c (.bool true)) | _ => none
theorem known_ok : ConOK Try.prog fKnown3 knownC := by
  refine pureCon_ok (fn := Try.f13) (by kernel_rfl) rfl rfl fun args v h => ?_
  split at h <;> try (cases h; done)
  simp only [Option.some.injEq] at h; subst h
  exact ⟨rfl, rfl, fun w => known_fn w rfl rfl⟩


def orI (a b : Int) : Int := IntKind.i64.wrap (BitVec.ofInt 64 a ||| BitVec.ofInt 64 b).toNat
def andI (a b : Int) : Int := IntKind.i64.wrap (BitVec.ofInt 64 a &&& BitVec.ofInt 64 b).toNat
def bI (n : Int) (i : Nat) : Int := (((fourB n).getD i 0).toNat : Int)
def fM (n : Int) : Int := orI (orI (orI (IntKind.i64.wrap (bI n 0 * 16777216)) (IntKind.i64.wrap (bI n 1 * 65536))) (IntKind.i64.wrap (bI n 2 * 256))) (bI n 3)
def fE1 (n : Int) : Bool := fM n == andI n 4294967295
def fE2 (n : Int) : Bool := bif fE1 n then fourB n == fourB n else false
def fO (n : Int) : Bool := bnd (bnd (bnd (bnd (bnd (bnd true (fE1 n == true && true)) (fE1 n == true && true)) (fE1 n == true && true)) (fE1 n == true && true)) (fE1 n == true && true)) (fE1 n == true && true)

theorem ofInt_toNat (x : Int) : (UInt8.ofInt x).toNat = (x % 256).toNat := by
  simp [UInt8.ofInt]
  omega
theorem bI_eq (n : Int) : bI n 0 = (((n % 4294967296).toNat / 16777216 : Nat) : Int) ∧ bI n 1 = (((n % 4294967296).toNat / 65536 % 256 : Nat) : Int) ∧ bI n 2 = (((n % 4294967296).toNat / 256 % 256 : Nat) : Int) ∧ bI n 3 = (((n % 4294967296).toNat % 256 : Nat) : Int) := by
  have e0 : bI n 0 = ((UInt8.ofInt (n.fdiv 16777216)).toNat : Int) := rfl
  have e1 : bI n 1 = ((UInt8.ofInt (n.fdiv 65536)).toNat : Int) := rfl
  have e2 : bI n 2 = ((UInt8.ofInt (n.fdiv 256)).toNat : Int) := rfl
  have e3 : bI n 3 = ((UInt8.ofInt n).toNat : Int) := rfl
  rw [e0, e1, e2, e3, ofInt_toNat, ofInt_toNat, ofInt_toNat, ofInt_toNat, Int.fdiv_eq_ediv_of_nonneg _ (by omega), Int.fdiv_eq_ediv_of_nonneg _ (by omega), Int.fdiv_eq_ediv_of_nonneg _ (by omega)]
  omega
theorem bv_nat {a : Nat} (h : a < 2 ^ 64) : (BitVec.ofInt 64 (a : Int)).toNat = a := by
  rw [BitVec.toNat_ofInt]; omega
theorem orI_nat {a b : Nat} (ha : a < 2 ^ 32) (hb : b < 2 ^ 32) : orI a b = ((a ||| b : Nat) : Int) := by
  unfold orI
  rw [BitVec.toNat_or, bv_nat (by omega), bv_nat (by omega)]
  have := Nat.or_lt_two_pow ha hb
  rw [IntKind.wrap_i64]; omega
theorem or_add {a b i : Nat} (hb : b < 2 ^ i) : (2 ^ i * a) ||| b = 2 ^ i * a + b := (Nat.two_pow_add_eq_or_of_lt hb a).symm
theorem fE1_eq (n : Int) : fE1 n = true := by
  obtain ⟨e0, e1, e2, e3⟩ := bI_eq n
  have hN : (n % 4294967296).toNat < 4294967296 := by omega
  have hand : andI n 4294967295 = ((n % 4294967296).toNat : Int) := by
    unfold andI
    have h1 : (BitVec.ofInt 64 (4294967295 : Int)).toNat = 2 ^ 32 - 1 := by decide
    rw [BitVec.toNat_and, h1, Nat.and_two_pow_sub_one_eq_mod, BitVec.toNat_ofInt, IntKind.wrap_i64]
    omega
  unfold fE1 fM
  rw [hand, e0, e1, e2, e3]
  generalize (n % 4294967296).toNat = N at hN
  have w : ∀ k : Nat, k < 2 ^ 32 → IntKind.i64.wrap (k : Int) = (k : Int) := fun k hk => by rw [IntKind.wrap_i64]; omega
  have w0 : IntKind.i64.wrap (((N / 16777216 : Nat) : Int) * 16777216) = ((2 ^ 24 * (N / 16777216) : Nat) : Int) := by rw [IntKind.wrap_i64]; omega
  have w1 : IntKind.i64.wrap (((N / 65536 % 256 : Nat) : Int) * 65536) = ((2 ^ 16 * (N / 65536 % 256) : Nat) : Int) := by rw [IntKind.wrap_i64]; omega
  have w2 : IntKind.i64.wrap (((N / 256 % 256 : Nat) : Int) * 256) = ((2 ^ 8 * (N / 256 % 256) : Nat) : Int) := by rw [IntKind.wrap_i64]; omega
  rw [w0, w1, w2, orI_nat (by omega) (by omega), or_add (by omega), orI_nat (by omega) (by omega)]
  have s1 : 2 ^ 24 * (N / 16777216) + 2 ^ 16 * (N / 65536 % 256) = 2 ^ 16 * (N / 65536) := by omega
  rw [s1, or_add (by omega)]
  have s2 : 2 ^ 16 * (N / 65536) + 2 ^ 8 * (N / 256 % 256) = 2 ^ 8 * (N / 256) := by omega
  rw [s2, orI_nat (by omega) (by omega), or_add (by omega), beq_iff_eq]
  omega

theorem four_lib : LibOK Try.prog [(fFour, fourC), (frFour, fourC), (fKnown3, knownC)] := LibOK.cons four_ok (LibOK.cons rfour_ok (LibOK.cons known_ok (LibOK.nil _)))
theorem pairFours_fn (n : Int) (w : World) : Sx.Fn Try.prog 3 (atW w 0) [.c (.int n)] [] 0 fun r _ => r = .c (.bool true) := by
  have h1 := fE1_eq n
  have h2 : fE2 n = true := by unfold fE2; rw [h1]; simp
  exact Fn.xv (fuel := 1000) (told := [false, true, true]) four_lib Sp.mixed (r := .c (.bool (bif fE2 n then true else false))) (ob := bnd (bnd (bnd (bnd (bnd (bnd (fO n) true) true) (fE2 n == true && true)) true) true) true) (obs := []) (by kernel_rfl) (by unfold fO; rw [h1, h2]; rfl) trivial (by rw [h2]; rfl)

def rA (cs : List SC) : List SC := cs.take 32
def rx (cs : List SC) : Int := scalS (rA cs)
def rY (a b : List SC) : Int := powS (powS 4 (rx b)) (rx a)
def rE1 (a b : List SC) : Bool := rY a b == rY b a
def rE2 (a b : List SC) : Bool := bif rE1 a b then isS (rY a b) else false
def rE3 (a b : List SC) : Bool := bif rE2 a b then powS 4 (rx b) == powS 4 (rx b) else false
def rF (cs : List SC) : Bool := ((rA cs).all SC.sole && true) && h32 (rA cs)
def rO2 (x acc : Bool) : Bool := bnd (bnd acc (x == true && true)) (x == true && true)

def rOb (a b : List SC) : Bool := bnd (rO2 (rE2 a b) (rO2 (rE2 a b) (rO2 (rE2 a b) (rO2 (rE1 a b) (bnd (bnd (bnd (bnd true (Nat.ble (0 + 32) a.length)) (rF a)) (Nat.ble (0 + 32) b.length)) (rF b)))))) (rE3 a b == true && true)
theorem raised_lib : LibOK Try.prog [(fFrom, fromC), (fSec, secC), (frPow, powC), (frIs, isC), (fPub, pubC), (fKnown3, knownC)] := LibOK.cons from_ok (LibOK.cons sec_ok (LibOK.cons rpow_ok (LibOK.cons ris_ok (LibOK.cons pub_ok (LibOK.cons known_ok (LibOK.nil _))))))
theorem take32 {hs : List UInt8} (h : hs.length = 32) : (hs.map SC.u8).take 32 = hs.map SC.u8 := List.take_of_length_le (by simp [h])
theorem h32_of {hs : List UInt8} (h : hs.length = 32) : h32 (hs.map SC.u8) = true := by
  unfold h32
  rw [Sp.isU8s, List.length_map, h]; rfl
theorem sole_of (hs : List UInt8) : (hs.map SC.u8).all SC.sole = true := soleU (Sp.isU8s hs)
theorem rF_eq {hs : List UInt8} (h : hs.length = 32) : rF (hs.map SC.u8) = true := by
  unfold rF rA
  rw [take32 h, h32_of h, sole_of]; rfl
theorem pairRaised_fn (xs ys : List UInt8) (w : World) (ha : xs.length = 32) (hb : ys.length = 32) : Sx.Fn Try.prog 4 (atW w 0) [.agg (xs.map SC.u8), .agg (ys.map SC.u8)] [] 0 fun r _ => r = .c (.bool true) := by
  obtain ⟨s, hs, hs0, hsQ⟩ := scal_nat (rA (xs.map SC.u8))
  obtain ⟨t, ht, ht0, htQ⟩ := scal_nat (rA (ys.map SC.u8))
  have hy : rY (xs.map SC.u8) (ys.map SC.u8) = ((4 ^ (t * s) % prP : Nat) : Int) := by unfold rY rx; rw [hs, ht, share_nat htQ hsQ]
  have hz : rY (ys.map SC.u8) (xs.map SC.u8) = ((4 ^ (s * t) % prP : Nat) : Int) := by unfold rY rx; rw [hs, ht, share_nat hsQ htQ]
  have h1 : rE1 (xs.map SC.u8) (ys.map SC.u8) = true := by unfold rE1; rw [hy, hz, Nat.mul_comm, beq_iff_eq]
  have h2 : rE2 (xs.map SC.u8) (ys.map SC.u8) = true := by unfold rE2; rw [h1, cond_true, hy]; exact isS_pow (share_coprime ht0 htQ hs0 hsQ)
  have h3 : rE3 (xs.map SC.u8) (ys.map SC.u8) = true := by unfold rE3; rw [h2, cond_true, beq_iff_eq]
  refine Fn.xv (fuel := 1000) (told := [false, false, true, true, true]) raised_lib Sp.mixed (r := .c (.bool (bif rE3 (xs.map SC.u8) (ys.map SC.u8) then true else false))) (ob := rOb (xs.map SC.u8) (ys.map SC.u8)) (obs := []) (by kernel_rfl) ?_ trivial (by rw [h3]; rfl)
  unfold rOb rO2
  rw [h1, h2, h3, rF_eq ha, rF_eq hb, List.length_map, List.length_map, ha, hb]; rfl

end Go.Proofs.Ytgemcihcnmkkbaa.Pr
