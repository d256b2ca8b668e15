/-
  Keys that are known; what all laws of views ask last.
-/
import Derived.Test.YtabiknpgakhkkaaVwL
namespace Go.Proofs.Ytabiknpgakhkkaa.Vw
open Go.RowKit Go.Proofs.Ytabiknpgakhkkaa.Sx Go.Proofs.Ytabiknpgakhkkaa.Pw
set_option linter.unusedVariables false
set_option linter.unusedSimpArgs false

abbrev frFrom : Nat := 9
def rfromC : Con := pureConB (fun | [.agg cs] => h32 cs | _ => true) fun | [.agg cs] => some (.agg [.int (scalS cs), .int (powS 4 (scalS cs))]) | _ => none
theorem rfrom_ok : ConOK Try.prog frFrom rfromC := by
  refine pureConB_ok (fn := Try.f9) (by kernel_rfl) rfl rfl fun args v hok h => ?_
  split at h <;> try (cases h; done)
  rename_i cs
  simp only [Option.some.injEq] at h; subst h
  simp only at hok
  have hok' := hok
  simp only [h32, Bool.and_eq_true] at hok'
  have hl := Nat.eq_of_beq_eq_true hok'.1
  have ht : cs.take 32 = cs := List.take_of_length_le (by omega)
  refine ⟨rfl, by simp [SV.sole, soleU hok'.2], fun w => ?_⟩
  exact Fn.xv (fuel := 1000) (told := []) (LibOK.cons rscal_ok (LibOK.cons rpow_ok (LibOK.nil _))) Sp.mixed (r := .agg [.int (scalS (cs.take 32)), .int (powS 4 (scalS (cs.take 32)))]) (ob := bnd (bnd true (Nat.ble (0 + 32) cs.length)) (h32 (cs.take 32))) (obs := []) (by kernel_rfl) (by rw [ht, hok]; simp [bnd_true]; omega) trivial (by rw [ht])


end Go.Proofs.Ytabiknpgakhkkaa.Vw
