/-
  The laws of a key's numbers, and of no key.
-/
import Derived.Test.YtgemcihcnmkkbaaPrF
namespace Go.Proofs.Ytgemcihcnmkkbaa.Pr
open Go.RowKit Go.Proofs.Ytgemcihcnmkkbaa.Sx Go.Proofs.Ytgemcihcnmkkbaa.Pw
set_option linter.unusedVariables false

def kI (t x y i : Int) : St := ⟨[(1, .c (.int t)), (5, .c (.ptr 0 0)), (6, .c (.ptr 1 0)), (7, .c (.int i))], [(0, some ⟨keyC x 0 0 0 0 0 0, tKey, false, true⟩), (1, some ⟨keyC y 0 0 0 0 0 0, tKey, false, true⟩)], 2, 66⟩
def kCut (j l : Nat) : Cut := ⟨[(1, true), (5, false), (6, false), (7, true)], [(j, 0, true), (l, 1, true)], 2⟩
abbrev fKeys : Nat := 9
def kG (t : Int) : Bool := bif decide (t < 0) then true else decide (t > 20)
def kx (cs : List SC) : Int := scalS (cs.take 32)
def kPre (cs : List SC) (t : Int) : Bool := bnd (bnd (bnd (bnd (bnd (bnd (bnd true (decide (t < 0) == false && true)) (decide (t < 0) == false && true)) (!kG t)) (Nat.ble (0 + 32) cs.length)) (sF cs)) (Nat.ble (0 + 32) cs.length)) (sF cs)

section
variable (x y : Int)
def kK1 : Bool := decide (x ≥ 1)
def kK2 : Bool := bif kK1 x then decide (x < 1073741789) else false
def kK3 : Bool := bif kK2 x then isS (powS 4 x) else false
def kK4 : Bool := bif kK3 x then y == x else false
def kK5 : Bool := bif kK4 x y then (0 : Int) == 0 else false
def kK6 : Bool := bif kK5 x y then !((0 : Int) != 0) else false
def kOb : Bool := gg (kK6 x y) (g3 (kK5 x y) (g3 (kK4 x y) (gg (kK3 x) (gg (kK3 x) (g3 (kK3 x) (g3 (kK2 x) (g3 (kK1 x) true)))))))
end
theorem keys_lib : LibOK Try.prog [(fFrom, fromC), (fSec, secC), (fPub, pubC), (frIs, isC), (fUses, usesC), (fMade, madeC), (fShared, sharedC), (fKnown3, knownC)] := LibOK.cons from_ok (LibOK.cons sec_ok (LibOK.cons pub_ok (LibOK.cons ris_ok (LibOK.cons uses_ok (LibOK.cons made_ok (LibOK.cons shared_ok (LibOK.cons known_ok (LibOK.nil _))))))))
theorem pairKeys_fn (hs : List UInt8) (t : Int) (w : World) (hh' : hs.length = 32) : Sx.Fn Try.prog fKeys (atW w 0) [.agg (hs.map SC.u8), .c (.int t)] [] 0 fun r _ => r = .c (.bool true) := by
  have htk : (hs.map SC.u8).take 32 = hs.map SC.u8 := take32 hh'
  by_cases hA : t < 0
  · exact Fn.xv (fuel := 1000) (told := [true]) keys_lib Sp.mixed (r := .c (.bool true)) (ob := bnd (bnd (bnd true (decide (t < 0) == true && true)) (decide (t < 0) == true && true)) (decide (t < 0))) (obs := []) (by kernel_rfl) (by rw [decide_eq_true hA]; rfl) trivial rfl
  by_cases hB : t > 20
  · exact Fn.xv (fuel := 1000) (told := [false, true]) keys_lib Sp.mixed (r := .c (.bool true)) (ob := bnd (bnd (bnd true (decide (t < 0) == false && true)) (decide (t < 0) == false && true)) (kG t)) (obs := []) (by kernel_rfl) (by unfold kG; rw [decide_eq_false hA, decide_eq_true hB]; rfl) trivial rfl
  have hx := scalS_bd ((hs.map SC.u8).take 32)
  have hpub := isS_pub (hs.map SC.u8)
  unfold yS xS at hpub
  refine Sx.Fn.of (nt := 66) (by kernel_rfl) rfl ?_
  refine SWs.step keys_lib Sp.mixed (fuel := 1000) (n := 7) (told := [false, false, false, false]) (un := []) (c := kCut 36 44) (t := kI t (kx (hs.map SC.u8)) (kx (hs.map SC.u8)) 0) (ob := kPre (hs.map SC.u8) t) (obs := []) (by kernel_rfl) ?_ trivial ?_
  · unfold kPre kG
    rw [sF_eq hh', decide_eq_false hA, decide_eq_false hB, List.length_map, hh']; rfl
  refine SWs.loop (by kernel_rfl) (kI t (kx (hs.map SC.u8)) (kx (hs.map SC.u8))) (fun i => (t - i).toNat) (fun i => 0 ≤ i ∧ i ≤ t) 0 ⟨by omega, by omega⟩ ?_
  rintro i ⟨hi1, hi2⟩
  by_cases hlt : i < t
  · refine SWs.round keys_lib Sp.mixed (fuel := 1000) (n := 4) (told := [true]) (un := []) (c := kCut 0 1) (t := kI t (kx (hs.map SC.u8)) (kx (hs.map SC.u8)) (IntKind.i64.wrap (i + 1))) (ob := bnd true (decide (i < t))) (obs := []) (by kernel_rfl) (by kernel_rfl) (by rw [decide_eq_true hlt]; rfl) trivial ?_
    have hw : IntKind.i64.wrap (i + 1) = i + 1 := Sp.wrap_id (by omega) (by omega)
    rw [hw]
    exact ⟨i + 1, ⟨by omega, by omega⟩, by omega, rfl⟩
  · refine SWs.out keys_lib Sp.mixed (fuel := 1000) (n := 2) (told := [false]) (un := []) (c := kCut 0 1) (t := kI t (kx (hs.map SC.u8)) (kx (hs.map SC.u8)) i) (ob := bnd true (!decide (i < t))) (obs := []) (by kernel_rfl) (by rw [decide_eq_false hlt]; rfl) trivial ?_
    have k1 : kK1 (kx (hs.map SC.u8)) = true := decide_eq_true hx.1
    have k2 : kK2 (kx (hs.map SC.u8)) = true := by unfold kK2; rw [k1, cond_true]; exact decide_eq_true (Int.lt_of_le_of_lt hx.2 (by decide))
    have k3 : kK3 (kx (hs.map SC.u8)) = true := by unfold kK3; rw [k2]; exact hpub
    have k4 : kK4 (kx (hs.map SC.u8)) (kx (hs.map SC.u8)) = true := by unfold kK4; rw [k3]; simp
    have k5 : kK5 (kx (hs.map SC.u8)) (kx (hs.map SC.u8)) = true := by unfold kK5; rw [k4]; rfl
    have k6 : kK6 (kx (hs.map SC.u8)) (kx (hs.map SC.u8)) = true := by unfold kK6; rw [k5]; rfl
    refine SWs.finv keys_lib Sp.mixed (fuel := 1000) (n := 100) (told := [true, true, true, true, true, true]) (v := .c (.bool (bif kK6 (kx (hs.map SC.u8)) (kx (hs.map SC.u8)) then true else false))) (ob := kOb (kx (hs.map SC.u8)) (kx (hs.map SC.u8))) (obs := []) (by kernel_rfl) ?_ trivial (by rw [k6]; rfl)
    unfold kOb g3 gg
    rw [k1, k2, k3, k4, k5, k6]; rfl

/-! No key. -/
def secN : Con := pureCon fun | [.c .nilp] => some (.c (.int 0)) | _ => none
def madeN : Con := pureCon fun | [.c .nilp] => some (.c (.bool false)) | _ => none
def sharedN : Con := tupCon fun | [.c .nilp, .c (.int p)] => some (.tup [.inr Sp.zeroH, .inl (.bool false)]) | _ => none
theorem sec_nil : ConOK Try.prog fSec secN := by
  refine pureCon_ok (fn := Try.f16) (by kernel_rfl) rfl rfl fun args v h => ?_
  split at h <;> try (cases h; done)
  simp only [Option.some.injEq] at h; subst h
  exact ⟨rfl, rfl, fun w => Fn.xv (fuel := 1000) (told := []) (LibOK.nil _) Sp.mixed (r := .c (.int 0)) (ob := true) (obs := []) (by kernel_rfl) rfl trivial rfl⟩
theorem pub_nil : ConOK Try.prog fPub secN := by
  refine pureCon_ok (fn := Try.f18) (by kernel_rfl) rfl rfl fun args v h => ?_
  split at h <;> try (cases h; done)
  simp only [Option.some.injEq] at h; subst h
  exact ⟨rfl, rfl, fun w => Fn.xv (fuel := 1000) (told := []) (LibOK.nil _) Sp.mixed (r := .c (.int 0)) (ob := true) (obs := []) (by kernel_rfl) rfl trivial rfl⟩
theorem uses_nil : ConOK Try.prog fUses secN := by
  refine pureCon_ok (fn := Try.f23) (by kernel_rfl) rfl rfl fun args v h => ?_
  split at h <;> try (cases h; done)
  simp only [Option.some.injEq] at h; subst h
  exact ⟨rfl, rfl, fun w => Fn.xv (fuel := 1000) (told := []) (LibOK.nil _) Sp.mixed (r := .c (.int 0)) (ob := true) (obs := []) (by kernel_rfl) rfl trivial rfl⟩
theorem made_nil : ConOK Try.prog fMade madeN := by
  refine pureCon_ok (fn := Try.f20) (by kernel_rfl) rfl rfl fun args v h => ?_
  split at h <;> try (cases h; done)
  simp only [Option.some.injEq] at h; subst h
  exact ⟨rfl, rfl, fun w => Fn.xv (fuel := 1000) (told := []) (LibOK.nil _) Sp.mixed (r := .c (.bool false)) (ob := true) (obs := []) (by kernel_rfl) rfl trivial rfl⟩
theorem shared_nil : ConOK Try.prog fShared sharedN := by
  refine tupCon_ok (fn := Try.f21) (by kernel_rfl) rfl rfl fun args v h hps => ?_
  split at h <;> try (cases h; done)
  rename_i p
  simp only [Option.some.injEq] at h; subst h
  exact ⟨fun ρ ρ' u h => tup_any (h := ⟨0, 0, 0, 0⟩) h, fun w => Fn.xv (fuel := 1000) (told := []) (LibOK.nil _) Sp.mixed (r := .tup [.inr Sp.zeroH, .inl (.bool false)]) (ob := true) (obs := []) (by kernel_rfl) rfl trivial rfl⟩
theorem nil_lib : LibOK Try.prog [(fSec, secN), (fPub, secN), (fUses, secN), (fMade, madeN), (fShared, sharedN), (Sp.fRSum, Sp.rsumC), (fKnown3, knownC)] := LibOK.cons sec_nil (LibOK.cons pub_nil (LibOK.cons uses_nil (LibOK.cons made_nil (LibOK.cons shared_nil (LibOK.cons Sp.rsum_ok (LibOK.cons known_ok (LibOK.nil _)))))))
theorem pairOfNothing_fn (p : Int) (w : World) : Sx.Fn Try.prog 10 (atW w 0) [.c (.int p)] [] 0 fun r _ => r = .c (.bool true) :=
  Fn.xv (fuel := 1000) (told := []) nil_lib Sp.mixed (r := .c (.bool true)) (ob := true) (obs := []) (by kernel_rfl) rfl trivial rfl

end Go.Proofs.Ytgemcihcnmkkbaa.Pr
