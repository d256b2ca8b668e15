/-
  The law of how much may be sealed.
-/
import Derived.Test.YtdjimjjemiaokaaSlL
import Derived.Test.YtdjimjjemiaokaaSxN
namespace Go.Proofs.Ytdjimjjemiaokaa.Sl
open Go.RowKit Go.Proofs.Ytdjimjjemiaokaa.Sx Go.Proofs.Ytdjimjjemiaokaa.Pw Go.Proofs.Ytdjimjjemiaokaa.Pr
open Go.Proofs.Ytdjimjjemiaokaa.Sp (hc hb deriveS isU8s asU8s tB tH mixed H4)
set_option linter.unusedVariables false

def sharedN : Con := tupCon fun | [.c .nilp, .c (.int p)] => some shN | _ => none
theorem sharedN_ok : ConOK Try.prog fShared sharedN := by
  refine tupCon_ok (fn := Try.f22) (by kernel_rfl) rfl rfl fun args v h hps => ?_
  split at h <;> try (cases h; done)
  rename_i p
  simp only [Option.some.injEq] at h; subst h
  refine ⟨fun ρ ρ' u h => tup_any (h := ⟨0, 0, 0, 0⟩) h, fun w => ?_⟩
  exact Fn.xvL (fuel := 1000) (LibOK.nil _) mixed [] (r := shN) (ob := true) (obs := []) (by kernel_rfl) rfl trivial rfl
abbrev nL : List (Nat × Con) := [(fNumb, numbC), (fShared, sharedN)]
theorem nL_ok : LibOK Try.prog nL := LibOK.cons numb_ok (LibOK.cons sharedN_ok (LibOK.nil _))
noncomputable def openN : Con := inl Try.prog nL 1000 fOpen
theorem openN_ok : ConOK Try.prog fOpen openN := inl_ok nL_ok mixed (by kernel_rfl)
noncomputable abbrev dL (F : FT) : List (Nat × Con) := [(fSeal, sealC F), (fOpen, openN), (frIs, isC), (fKnown5, knownC)]
theorem dL_ok {F : FT} (hF : F = sealF) : LibOK Try.prog (dL F) := LibOK.cons (seal_ok hF) (LibOK.cons openN_ok (LibOK.cons ris_ok (LibOK.cons known_ok (LibOK.nil _))))
abbrev fBounds : Nat := 7
section
variable (F : FT) (n p : Int)
def zs (n : Int) : List SC := List.replicate (n.toNat * 1) (.u8 0)
def bdU (n : Int) : List UInt8 := (List.take (n.toNat * 1) (List.drop 0 (zs n))).map SC.asU8
def bdP : List UInt8 × Int := F 4 (lit32 1) (bdU n)
def bdQ : List UInt8 × Int := F p (lit32 1) []
def bd1 : Bool := bnd (bnd (bnd (tn (tg true (decide (n < 0)) false) (decide (n > 300))) (decide (0 ≤ n) && (decide (n ≤ n) && (Nat.ble (1 * n.toNat) 281474976710656 && (Nat.ble n.toNat 9223372036854775807 && true)))))
  ((((Nat.ble (0 + n.toNat * 1) (zs n).length && true) && ((List.take (n.toNat * 1) (List.drop 0 (zs n))).all SC.isU8 && Nat.ble n.toNat 1000000)) && true) && rok (bdP F n).1)) (rok (bdQ F p).1)
def bd2 : Bool := tg (tg (tg (tg (bd1 F n p) (((bdP F n).2 == 0) == decide (n ≤ 200)) true) ((((bdP F n).1.length : Int) == IntKind.i64.wrap (12 + n)) == decide (n ≤ 200)) true) (((bdQ F p).2 == 0) == isS p) true) ((((bdQ F p).1.length : Int) == 12) == ((bdQ F p).2 == 0)) true
theorem bd_1 : (xfunL Try.prog (dL F) 1000 fBounds [.c (.int n), .c (.int p)] [] 0 [true]).map (fun q => (q.1, q.2.1, q.2.2.1)) = some (tg true (decide (n < 0)) true, [], .c (.bool true)) := by kernel_rfl
theorem bd_2 : (xfunL Try.prog (dL F) 1000 fBounds [.c (.int n), .c (.int p)] [] 0 [false, true]).map (fun q => (q.1, q.2.1, q.2.2.1)) = some (ty_ (tg true (decide (n < 0)) false) (decide (n > 300)), [], .c (.bool true)) := by kernel_rfl
theorem bd_3 : (xfunL Try.prog (dL F) 1000 fBounds [.c (.int n), .c (.int p)] [] 0 [false, false, true, true, true, true, true, true]).map (fun q => (q.1, q.2.1, q.2.2.1)) = some (bd2 F n p, [], .c (.bool true)) := by kernel_rfl
end
theorem isS_4 : isS 4 = true := isS_pow (m := 1) (Nat.gcd_one_left _)
theorem bounds_gen {F : FT} (hF : F = sealF) (n p : Int) (w : World) : Sx.Fn Try.prog fBounds (atW w 0) [.c (.int n), .c (.int p)] [] 0 fun r _ => r = .c (.bool true) := by
  cases h1 : decide (n < 0) with
  | true => exact Fn.xvL (dL_ok hF) mixed [true] (bd_1 F n p) (tg_eq rfl h1) trivial rfl
  | false =>
  cases h2 : decide (n > 300) with
  | true => exact Fn.xvL (dL_ok hF) mixed [false, true] (bd_2 F n p) (ty_eq (tg_eq rfl h1) h2) trivial rfl
  | false =>
  refine Fn.xvL (dL_ok hF) mixed [false, false, true, true, true, true, true, true] (bd_3 F n p) ?_ trivial rfl
  rw [decide_eq_false_iff_not] at h1 h2
  obtain ⟨m, rfl⟩ : ∃ m : Nat, n = m := ⟨n.toNat, by omega⟩
  have hz : zs (m : Int) = (List.replicate m (0 : UInt8)).map SC.u8 := by unfold zs; rw [Int.toNat_natCast, Nat.mul_one, List.map_replicate]
  have hzt : List.take ((m : Int).toNat * 1) (List.drop 0 (zs (m : Int))) = (List.replicate m (0 : UInt8)).map SC.u8 := by rw [hz, List.drop_zero, Int.toNat_natCast, Nat.mul_one, List.take_of_length_le (by simp)]
  have hu : bdU (m : Int) = List.replicate m 0 := by unfold bdU; rw [hzt, asU8s]
  have hb1 : bd1 F m p = true := by
    unfold bd1
    rw [rok_eq, rok_eq, hzt, isU8s, tn_eq (tg_eq rfl (decide_eq_false h1)) (decide_eq_false h2), decide_eq_true (show (0 : Int) ≤ m by omega), decide_eq_true (show (m : Int) ≤ m by omega), Int.toNat_natCast, ble_of (by omega), ble_of (by omega), ble_of (by rw [hz]; simp), ble_of (by omega)]; rfl
  have hP : bdP F m = bif decide ((m : Int) > 200) then ([], 1) else (boxS (scalS (lit32 1)) 4 (List.replicate m 0), 0) := by
    unfold bdP
    rw [hF, hu]
    unfold sealF
    rw [isS_4, List.length_replicate]; rfl
  have hQ : bdQ F p = bif isS p then (boxS (scalS (lit32 1)) p [], 0) else ([], 1) := by
    unfold bdQ
    rw [hF]
    unfold sealF
    cases isS p <;> rfl
  have hw : IntKind.i64.wrap (12 + (m : Int)) = ((12 + m : Nat) : Int) := by rw [wrap_id (by omega) (by omega)]; omega
  unfold bd2
  rw [hP, hQ, hw]
  refine tg_eq (tg_eq (tg_eq (tg_eq hb1 ?_) ?_) ?_) ?_
  · by_cases hm : (m : Int) > 200
    · rw [decide_eq_true hm, decide_eq_false (by omega)]; rfl
    · rw [decide_eq_false hm, decide_eq_true (by omega)]; rfl
  · by_cases hm : (m : Int) > 200
    · rw [decide_eq_true hm, decide_eq_false (show ¬ (m : Int) ≤ 200 by omega)]
      simp only [cond_true, List.length_nil, beq_eq_false_iff_ne, beq_iff_eq]
      intro e; omega
    · rw [decide_eq_false hm, decide_eq_true (show (m : Int) ≤ 200 by omega)]
      simp only [cond_false, boxS_len, List.length_replicate]
      simp
  · cases isS p <;> rfl
  · cases isS p <;> simp [boxS_len]
theorem sealBounds_fn (n p : Int) (w : World) : Sx.Fn Try.prog fBounds (atW w 0) [.c (.int n), .c (.int p)] [] 0 fun r _ => r = .c (.bool true) := bounds_gen rfl n p w

end Go.Proofs.Ytdjimjjemiaokaa.Sl
