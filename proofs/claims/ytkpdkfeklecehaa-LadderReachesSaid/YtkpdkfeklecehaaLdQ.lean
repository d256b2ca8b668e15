/-
  Who is under the plan's nodes: the walk of the law, evaluated.
-/
import Derived.Test.YtkpdkfeklecehaaLdP
import Derived.Test.YtkpdkfeklecehaaLdA
namespace Go.Proofs.Ytkpdkfeklecehaa.Ld
open Go.RowKit Go.Proofs.Ytkpdkfeklecehaa.Sx Go.Proofs.Ytkpdkfeklecehaa.Pw Go.Proofs.Ytkpdkfeklecehaa.Vw
set_option linter.unusedVariables false
set_option linter.unusedSimpArgs false
set_option maxRecDepth 10000

abbrev fReach : Nat := 3
abbrev fPath : Nat := 10
def paC (l : Nat) : List SC := [.int (Int.ofNat (pathN l 0)), .int (Int.ofNat (pathN l 1)), .int (Int.ofNat (pathN l 2))]
def pathC : Con := pureConB (fun | [.c (.int (.ofNat l))] => Nat.blt l 8 | _ => true) fun | [.c (.int (.ofNat l))] => some (.agg (paC l)) | _ => none
noncomputable abbrev paL : List (Nat × Con) := deep Try.prog 1000 [27] [] 3
theorem paL_ok : LibOK Try.prog paL := deep_ok (LibOK.nil _) Sp.mixed (by kernel_rfl) 3
def PaAt (l : Nat) : Prop := (xfunL Try.prog paL 1000 fPath [.c (.int (Int.ofNat l))] [] 0 []).map (fun q => (q.1, q.2.1, q.2.2.1)) = some (true, [], .agg (paC l))
theorem pa_0 : PaAt 0 := by unfold PaAt; kernel_rfl
theorem pa_1 : PaAt 1 := by unfold PaAt; kernel_rfl
theorem pa_2 : PaAt 2 := by unfold PaAt; kernel_rfl
theorem pa_3 : PaAt 3 := by unfold PaAt; kernel_rfl
theorem pa_4 : PaAt 4 := by unfold PaAt; kernel_rfl
theorem pa_5 : PaAt 5 := by unfold PaAt; kernel_rfl
theorem pa_6 : PaAt 6 := by unfold PaAt; kernel_rfl
theorem pa_7 : PaAt 7 := by unfold PaAt; kernel_rfl
theorem path_ok : ConOK Try.prog fPath pathC := by
  refine pureConB_ok (fn := Try.f10) (by kernel_rfl) rfl rfl fun args v hok h => ?_
  split at h <;> try (cases h; done)
  rename_i l
  simp only [Option.some.injEq] at h; subst h
  simp only [Nat.blt_eq] at hok
  exact ⟨rfl, rfl, fun w => Fn.xvL paL_ok Sp.mixed [] (lt8' (P := PaAt) ⟨pa_0, pa_1, pa_2, pa_3, pa_4, pa_5, pa_6, pa_7⟩ hok) rfl trivial rfl⟩
abbrev rcL (F : PlT) (U : Nat → Nat → Bool) : List (Nat × Con) := [(frTIs, tIsC), (fPlan, planC F), (fPath, pathC), (fUnder, underC U), (fCommon, commonC), (fKnown8, knownC)]
theorem rcL_ok : LibOK Try.prog (rcL planS underB) := LibOK.cons rtIs_ok (LibOK.cons (planC_ok rfl) (LibOK.cons path_ok (LibOK.cons (under_ok rfl) (LibOK.cons common_ok (LibOK.cons known_ok (LibOK.nil _))))))
def rcT (t : Tr) (b : Nat → Bool) (l : Nat) (ps : List SC) : Tab := [(0, some ⟨t.cs, tTree, false, true⟩), (1, some ⟨whC b, 28, false, true⟩), (2, some ⟨ps, 34, true, true⟩), (3, some ⟨paC l, 32, false, true⟩)]
def rcS (l m : Nat) (i : Int) (r : List (Nat × SV)) : List (Nat × SV) := (1, .c (.int (.ofNat l))) :: (3, .c (.ptr 0 0)) :: (5, .c (.ptr 1 0)) :: (6, .c (.bool false)) :: (7, .c (.slc 2 0 2 m none)) :: (8, .c (.ptr 3 0)) :: (9, .c (.int i)) :: r
def rcO (t : Tr) (b : Nat → Bool) (l m : Nat) (ps : List SC) (i : Int) : St := ⟨rcS l m i [], rcT t b l ps, 4, 97⟩
def rcI (t : Tr) (b : Nat → Bool) (l m : Nat) (ps : List SC) (i n k : Int) : St := ⟨rcS l m i [(10, .c (.int n)), (11, .c (.int k))], rcT t b l ps, 4, 97⟩
def rcc (x y : Nat) : Cut := ⟨[(1, true), (3, false), (5, false), (6, true), (7, false), (8, false), (9, true)], [(0, 0, true), (x, 1, true), (if y = 0 then 2 else 68, 2, true), (if y = 0 then 3 else 84, 3, true)], 4⟩
def rci : Cut := ⟨[(1, true), (3, false), (5, false), (6, true), (7, false), (8, false), (9, true), (10, true), (11, true)], [(0, 0, true), (1, 1, true), (2, 2, true), (3, 3, true)], 4⟩
noncomputable abbrev rcB : List Code := (bodyOf Try.prog fReach).drop 6
noncomputable abbrev rcO1 : List Code := loopB rcB
noncomputable abbrev rcK : List Code := blockB (rcO1.drop 2)
noncomputable abbrev rcI1 : List Code := loopB (rcK.drop 4)
section
variable (t : Tr) (F : PlT) (U : Nat → Nat → Bool) (b : Nat → Bool) (lf : Int) (l m : Nat) (ps : List SC) (i n k : Nat)
theorem rc_x1 : (xfunL Try.prog (rcL F U) 1000 fReach [.agg t.cs, .c (.int lf), .agg (whC b)] [] 0 [true, true]).map (fun q => (q.1, q.2.1, q.2.2.1)) = some (tg true (decide (lf < 0)) true, [], .c (.bool true)) := by kernel_rfl
theorem rc_x2 : (xfunL Try.prog (rcL F U) 1000 fReach [.agg t.cs, .c (.int lf), .agg (whC b)] [] 0 [false, true, true]).map (fun q => (q.1, q.2.1, q.2.2.1)) = some (tg (tg true (decide (lf < 0)) false) (decide (lf > 7)) true, [], .c (.bool true)) := by kernel_rfl
theorem rc_x3 : (xfunL Try.prog (rcL F U) 1000 fReach [.agg t.cs, .c (.int (.ofNat l)), .agg (whC b)] [] 0 [false, false, true]).map (fun q => (q.1, q.2.1, q.2.2.1)) = some (ty_ (tg true (decide (Int.ofNat l > 7)) false) (!isTS (Tr.of t.cs 0)), [], .c (.bool true)) := by kernel_rfl
def rcP : List (Nat × Nat) := F (Tr.of t.cs 0) (bF (b 0) (b 1) (b 2) (b 3) (b 4) (b 5) (b 6) (b 7)) l
theorem rc_s : stepL Try.prog (rcL F U) 0 1000 6 (bodyOf Try.prog fReach) ⟨argTmps [.agg t.cs, .c (.int (.ofNat l)), .agg (whC b)] 0, [], 0, 97⟩ [false, false, false] [] (rcc 4 1) =
    some (bnd (bnd (bnd (tn (tg true (decide (Int.ofNat l > 7)) false) (!isTS (Tr.of t.cs 0))) ((pairC (rcP t F b l)).all SC.sole && Nat.blt l 8)) (Nat.blt l 8)) ((pairC (rcP t F b l)).all SC.plain && true), [], rcO t b l (rcP t F b l).length (pairC (rcP t F b l)) 0) := by kernel_rfl
def rcA : Int := (ps.getD (0 + (Int.ofNat k).toNat * 2 + 0) SC.nilp).asInt
def rcD : Int := (ps.getD (0 + (Int.ofNat k).toNat * 2 + 1) SC.nilp).asInt
def rcE : Int := (t.cs.getD (0 + (Int.ofNat i).toNat * 2 + 1) SC.nilp).asInt
def rcW : Bool := ((whC b).getD (0 + (Int.ofNat i).toNat * 1) SC.nilp).asBool
def rcPl : Bool := ps.all SC.plain && true
theorem rc_out : exitL Try.prog (rcL F U) 0 1000 2 rcO1 (rcO t b l m ps i) [false] [] (rcc 1 0) = some (0, bnd (tn true (decide ((i : Int) < 8))) (rcPl ps), [], rcO t b l m ps i) := by kernel_rfl
theorem rc_fin : (finL Try.prog (rcL F U) fReach 1000 2 (rcB.drop 1) (rcO t b l m ps i) []).map (fun q => (q.1, q.2.1, q.2.2.1)) = some (true, [], .c (.bool true)) := by kernel_rfl
def rcG (o : Bool) : Bool := tg (ty_ true (decide ((i : Int) < 8))) ((i : Int) == Int.ofNat l) o
theorem rc_c1 : stepL Try.prog (rcL F U) 0 1000 4 rcO1 (rcO t b l m ps i) [true, true, true] [] (rcc 1 0) = some (bnd (rcG l i true) (rcPl ps), [], rcO t b l m ps (IntKind.i64.wrap ((i : Int) + 1))) := by kernel_rfl
def rcH (acc : Bool) : Bool := bnd (bnd acc (Nat.blt (Int.ofNat i).toNat 8)) (Nat.blt (0 + (Int.ofNat i).toNat * 2 + 1) 31 && (t.cs.getD (0 + (Int.ofNat i).toNat * 2 + 1) SC.nilp).isInt)
theorem rc_c2 : stepL Try.prog (rcL F U) 0 1000 4 rcO1 (rcO t b l m ps i) [true, false, true] [] (rcc 1 0) = some (bnd (ty_ (rcH t i (rcG l i false)) (rcE t i == 0)) (rcPl ps), [], rcO t b l m ps (IntKind.i64.wrap ((i : Int) + 1))) := by kernel_rfl
theorem rc_c3 : stepL Try.prog (rcL F U) 0 1000 2 rcO1 (rcO t b l m ps i) [true] [] (rcc 1 0) = some (bnd (ty_ true (decide ((i : Int) < 8))) (rcPl ps), [], rcO t b l m ps i) := by kernel_rfl
theorem rc_k : stepL Try.prog (rcL F U) 0 1000 4 rcK (rcO t b l m ps i) [false, false] [] rci = some (bnd (tn (rcH t i (tg true ((i : Int) == Int.ofNat l) false)) (rcE t i == 0)) (rcPl ps), [], rcI t b l m ps i 0 0) := by kernel_rfl
theorem rc_io : exitL Try.prog (rcL F U) 0 1000 2 rcI1 (rcI t b l m ps i n k) [false] [] rci = some (2, bnd (tn true (decide ((k : Int) < (m : Int)))) (rcPl ps), [], rcI t b l m ps i n k) := by kernel_rfl
def rcM0 (acc : Bool) : Bool := bnd (bnd acc (Nat.blt (Int.ofNat k).toNat m && true)) (Nat.blt (0 + (Int.ofNat k).toNat * 2 + 0) ps.length && (ps.getD (0 + (Int.ofNat k).toNat * 2 + 0) SC.nilp).isInt)
def rcM1 (acc : Bool) : Bool := bnd (bnd acc (Nat.blt (Int.ofNat k).toNat m && true)) (Nat.blt (0 + (Int.ofNat k).toNat * 2 + 1) ps.length && (ps.getD (0 + (Int.ofNat k).toNat * 2 + 1) SC.nilp).isInt)
def rcN : Bool := bnd (rcM1 m ps k (tn (rcM0 m ps k (tg (rcM0 m ps k (ty_ true (decide ((k : Int) < (m : Int))))) (decide (rcA ps k < 0)) false)) (decide (rcA ps k > 2)))) (inI (rcD ps k) 15 && inI (i : Int) 8)
theorem rc_i1 : stepL Try.prog (rcL F U) 0 1000 4 rcI1 (rcI t b l m ps i n k) [true, false, false, false] [] rci = some (bnd (tn (rcN m ps i k) (U (rcD ps k).toNat (Int.ofNat i).toNat)) (rcPl ps), [], rcI t b l m ps i n (IntKind.i64.wrap ((k : Int) + 1))) := by kernel_rfl
def rcQ : Int := ((paC l).getD (0 + (rcA ps k).toNat * 1) SC.nilp).asInt
theorem rc_i2 : stepL Try.prog (rcL F U) 0 1000 4 rcI1 (rcI t b l m ps i n k) [true, false, false, true, false] [] rci =
    some (bnd (tn (bnd (bnd (bnd (rcM0 m ps k (ty_ (rcN m ps i k) (U (rcD ps k).toNat (Int.ofNat i).toNat))) (decide (0 ≤ rcA ps k) && Nat.blt (rcA ps k).toNat 3)) (Nat.blt (0 + (rcA ps k).toNat * 1) 3 && ((paC l).getD (0 + (rcA ps k).toNat * 1) SC.nilp).isInt)) (Nat.blt l 8 && Nat.blt i 8)) (rcQ l ps k != Int.ofNat (commonN l i))) (rcPl ps), [],
      rcI t b l m ps i (IntKind.i64.wrap ((n : Int) + 1)) (IntKind.i64.wrap ((k : Int) + 1))) := by kernel_rfl
def rcR (o : Bool) : Bool := tg (bnd (bnd (tg true (decide ((n : Int) > 1)) false) (Nat.blt (Int.ofNat i).toNat 8)) (Nat.blt (0 + (Int.ofNat i).toNat * 1) 8 && ((whC b).getD (0 + (Int.ofNat i).toNat * 1) SC.nilp).isBool)) (!rcW b i) o
theorem rc_e1 : stepL Try.prog (rcL F U) 0 1000 2 (rcK.drop 5) (rcI t b l m ps i n k) [false, true, false] [] (rcc 1 0) = some (bnd (tn (rcR b i n true) ((n : Int) != 1)) (rcPl ps), [], rcO t b l m ps i) := by kernel_rfl
theorem rc_e2 : stepL Try.prog (rcL F U) 0 1000 2 (rcK.drop 5) (rcI t b l m ps i n k) [false, false, false] [] (rcc 1 0) = some (bnd (rcR b i n false) (rcPl ps), [], rcO t b l m ps i) := by kernel_rfl
theorem rc_z : stepL Try.prog (rcL F U) 0 1000 1 (rcO1.drop 3) (rcO t b l m ps i) [] [] (rcc 1 0) = some (bnd true (rcPl ps), [], rcO t b l m ps (IntKind.i64.wrap ((i : Int) + 1))) := by kernel_rfl
end
end Go.Proofs.Ytkpdkfeklecehaa.Ld
