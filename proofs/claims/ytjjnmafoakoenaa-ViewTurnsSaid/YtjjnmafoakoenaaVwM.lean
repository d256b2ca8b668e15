/-
  Keys that are known; what all laws of views ask last.
-/
import Derived.Test.YtjjnmafoakoenaaVwL
namespace Go.Proofs.Ytjjnmafoakoenaa.Vw
open Go.RowKit Go.Proofs.Ytjjnmafoakoenaa.Sx Go.Proofs.Ytjjnmafoakoenaa.Pw
set_option linter.unusedVariables false
set_option linter.unusedSimpArgs false

abbrev frFrom : Nat := 37
def rfromC : Con := pureConB (fun | [.agg cs] => h32 cs | _ => true) fun | [.agg cs] => some (.agg [.int (scalS cs), .int (powS 4 (scalS cs))]) | _ => none
theorem rfrom_ok : ConOK Try.prog frFrom rfromC := by
  refine pureConB_ok (fn := Try.f37) (by kernel_rfl) rfl rfl fun args v hok h => ?_
  split at h <;> try (cases h; done)
  rename_i cs
  simp only [Option.some.injEq] at h; subst h
  simp only at hok
  have hok' := hok
  simp only [h32, Bool.and_eq_true] at hok'
  have hl := Nat.eq_of_beq_eq_true hok'.1
  have ht : cs.take 32 = cs := List.take_of_length_le (by omega)
  refine ⟨rfl, by simp [SV.sole, soleU hok'.2], fun w => ?_⟩
  exact Fn.xv (fuel := 1000) (told := []) (LibOK.cons rscal_ok (LibOK.cons rpow_ok (LibOK.nil _))) Sp.mixed (r := .agg [.int (scalS (cs.take 32)), .int (powS 4 (scalS (cs.take 32)))]) (ob := bnd (bnd true (Nat.ble (0 + 32) cs.length)) (h32 (cs.take 32))) (obs := []) (by kernel_rfl) (by rw [ht, hok]; simp [bnd_true]; omega) trivial (by rw [ht])

abbrev fKnown : Nat := 16
def kfs : List Nat := [18, 19]
theorem kfs_ok : kfs.all (inlOk Try.prog) = true := by kernel_rfl
noncomputable abbrev kL : List (Nat × Con) := deep Try.prog 1000 kfs [(frFrom, rfromC), (fApp, appC), (fVIs, vIsC)] 3
theorem kL_ok : LibOK Try.prog kL := deep_ok (LibOK.cons rfrom_ok (LibOK.cons app_ok (LibOK.cons vIs_ok (LibOK.nil _)))) Sp.mixed kfs_ok 3
def knownC : Con := pureCon fun | [] => some (.c (.bool true)) | _ => none
theorem known_ok : ConOK Try.prog fKnown knownC := by
  refine pureCon_ok (fn := Try.f16) (by kernel_rfl) rfl rfl fun args v h => ?_
  split at h <;> try (cases h; done)
  simp only [Option.some.injEq] at h; subst h
  exact ⟨rfl, rfl, fun w => Fn.xvL (fuel := 1000) kL_ok Sp.mixed [] (r := .c (.bool true)) (ob := true) (obs := []) (by kernel_rfl) rfl trivial rfl⟩

end Go.Proofs.Ytjjnmafoakoenaa.Vw
