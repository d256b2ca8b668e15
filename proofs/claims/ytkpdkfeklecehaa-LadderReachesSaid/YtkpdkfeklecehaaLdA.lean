/-
  Secrets up a path: keys that are not nought; what all laws of the ladder ask last.
-/
import Derived.Test.YtkpdkfeklecehaaSpS
import Derived.Test.YtkpdkfeklecehaaPwB
import Derived.Test.YtkpdkfeklecehaaSxN
namespace Go.Proofs.Ytkpdkfeklecehaa.Ld
open Go.RowKit Go.Proofs.Ytkpdkfeklecehaa.Sx Go.Proofs.Ytkpdkfeklecehaa.Pw
set_option linter.unusedVariables false

abbrev frFrom : Nat := 29
abbrev fKnown8 : Nat := 13
/-- The document's keys, their public numbers as such that are not nought. -/
def rfromK (S : List SC → Int) (K : List SC → Nat) : Con := pureConB (fun | [.agg cs] => h32 cs | _ => true) fun | [.agg cs] => some (.agg [.int (S cs), .int (Int.ofNat (K cs + 1))]) | _ => none
noncomputable def keyK (cs : List SC) : Nat := (powS 4 (scalS cs)).toNat - 1
theorem keyK_eq (cs : List SC) : powS 4 (scalS cs) = Int.ofNat (keyK cs + 1) := by
  obtain ⟨s, hs, hs0, hsQ⟩ := scal_nat cs
  unfold keyK
  rw [hs, pub_nat hsQ]
  have := pow_gt (q_coprime hs0 hsQ)
  show ((4 ^ s % prP : Nat) : Int) = ((((4 ^ s % prP : Nat) : Int).toNat - 1 + 1 : Nat) : Int)
  rw [Int.toNat_natCast]
  omega
theorem rfromK_ok {S : List SC → Int} {K : List SC → Nat} (hS : S = scalS) (hK : K = keyK) : ConOK Try.prog frFrom (rfromK S K) := by
  subst hS hK
  refine pureConB_ok (fn := Try.f29) (by kernel_rfl) rfl rfl fun args v hok h => ?_
  split at h <;> try (cases h; done)
  rename_i cs
  simp only [Option.some.injEq] at h; subst h
  simp only at hok
  have hok' := hok
  simp only [h32, Bool.and_eq_true] at hok'
  have hl := Nat.eq_of_beq_eq_true hok'.1
  have ht : cs.take 32 = cs := List.take_of_length_le (by omega)
  refine ⟨rfl, by simp [SV.sole, soleU hok'.2], fun w => ?_⟩
  exact Fn.xv (fuel := 1000) (told := []) (LibOK.cons rscal_ok (LibOK.cons rpow_ok (LibOK.nil _))) Sp.mixed (r := .agg [.int (scalS (cs.take 32)), .int (powS 4 (scalS (cs.take 32)))]) (ob := bnd (bnd true (Nat.ble (0 + 32) cs.length)) (h32 (cs.take 32))) (obs := []) (by kernel_rfl) (by rw [ht, hok]; simp [bnd_true]; omega) trivial (by rw [ht, keyK_eq])

def kfs : List Nat := [9, 25, 26, 38, 39, 40, 41, 42, 28, 22, 23]
theorem kfs_ok : kfs.all (inlOk Try.prog) = true := by kernel_rfl
theorem known_lib : LibOK Try.prog (deep Try.prog 1000 kfs [(Sp.fDer, Sp.derC), (Sp.fRDer, Sp.rderC)] 8) := deep_ok (LibOK.cons Sp.der_ok (LibOK.cons Sp.rder_ok (LibOK.nil _))) Sp.mixed kfs_ok 8
def knownC : Con := pureCon fun | [] => some (.c (.bool true)) | _ => none
theorem known_ok : ConOK Try.prog fKnown8 knownC := by
  refine pureCon_ok (fn := Try.f13) (by kernel_rfl) rfl rfl fun args v h => ?_
  split at h <;> try (cases h; done)
  simp only [Option.some.injEq] at h; subst h
  exact ⟨rfl, rfl, fun w => Fn.xv (fuel := 1000) (told := []) known_lib Sp.mixed (r := .c (.bool true)) (ob := true) (obs := []) (by kernel_rfl) rfl trivial rfl⟩

abbrev fFull : Nat := 4
def lfs : List Nat := [9, 25, 26, 38, 39, 40, 41, 42, 14, 15, 16, 27]
theorem lfs_ok : lfs.all (inlOk Try.prog) = true := by kernel_rfl
noncomputable def lL (S : List SC → Int) (K : List SC → Nat) : List (Nat × Con) := deep Try.prog 1000 lfs [(frFrom, rfromK S K), (fKnown8, knownC)] 8
theorem lL_ok {S : List SC → Int} {K : List SC → Nat} (hS : S = scalS) (hK : K = keyK) : LibOK Try.prog (lL S K) := deep_ok (LibOK.cons (rfromK_ok hS hK) (LibOK.cons known_ok (LibOK.nil _))) Sp.mixed lfs_ok 8
theorem full_at {S : List SC → Int} {K : List SC → Nat} (hS : S = scalS) (hK : K = keyK) (w : World) (m l : Int) (n : Bool) (h : (xfun Try.prog (lL S K) 1000 fFull [.c (.int m), .c (.int l), .c (.bool n)] [] 0 []).map (fun q => (q.1, q.2.1, q.2.2.1)) = some (true, [], .c (.bool true))) :
    Sx.Fn Try.prog fFull (atW w 0) [.c (.int m), .c (.int l), .c (.bool n)] [] 0 fun r _ => r = .c (.bool true) :=
  Fn.xv (lL_ok hS hK) Sp.mixed h rfl trivial rfl

end Go.Proofs.Ytkpdkfeklecehaa.Ld
