/-
  Views that may be: what the program's and the document's functions answer.
-/
import Derived.Test.YtkpdkfeklecehaaVwB
namespace Go.Proofs.Ytkpdkfeklecehaa.Vw
open Go.RowKit Go.Proofs.Ytkpdkfeklecehaa.Sx Go.Proofs.Ytkpdkfeklecehaa.Pw
set_option linter.unusedVariables false
set_option linter.unusedSimpArgs false

/-! The document's trees. -/
abbrev frTIs : Nat := 8
abbrev rtIsL : List (Nat × Con) := [(frIs, isC)]
theorem rtIs_lib : LibOK Try.prog rtIsL := LibOK.cons ris_ok (LibOK.nil _)
/-- Is somebody there? -/
def nz (s p : Int) : Bool := !((s == 0) && ((p == 0) && true))
def rtI (t : Tr) (i : Int) : St := ⟨[(1, .c (.ptr 0 0)), (2, .c (.bool false)), (3, .c (.int i))], [(0, some ⟨t.cs, tTree, false, true⟩)], 1, 51⟩
def rtCut : Cut := ⟨[(1, false), (2, true), (3, true)], [(0, 0, true)], 1⟩
def rnI (t : Tr) (i : Int) : St := ⟨[(1, .c (.ptr 0 0)), (2, .c (.bool false)), (5, .c (.int i))], [(0, some ⟨t.cs, tTree, false, true⟩)], 1, 51⟩
def rnCut : Cut := ⟨[(1, false), (2, true), (5, true)], [(0, 0, true)], 1⟩
theorem rleaf_z (t : Tr) (i : Nat) (hi : i < 8) : stepL Try.prog rtIsL 0 1000 4 (loopB ((bodyOf Try.prog frTIs).drop 2)) (rtI t i) [true, false, false] [] rtCut = some (tg true (nz (t.sg i) (t.sl i)) false, [], rtI t (i + 1)) := by
  revert i
  refine all8 ?_ ?_ ?_ ?_ ?_ ?_ ?_ ?_ <;> kernel_rfl
theorem rleaf_yes (t : Tr) (i : Nat) (hi : i < 8) : stepL Try.prog rtIsL 0 1000 4 (loopB ((bodyOf Try.prog frTIs).drop 2)) (rtI t i) [true, true, false, false] [] rtCut = some (tn (tg (tg true (nz (t.sg i) (t.sl i)) true) (!isS (t.sg i)) false) (!isS (t.sl i)), [], rtI t (i + 1)) := by
  revert i
  refine all8 ?_ ?_ ?_ ?_ ?_ ?_ ?_ ?_ <;> kernel_rfl
theorem rleaf_no1 (t : Tr) (i : Nat) (hi : i < 8) : retL Try.prog rtIsL frTIs 1000 4 (loopB ((bodyOf Try.prog frTIs).drop 2)) (rtI t i) [true, true, true] = some (tg (tg true (nz (t.sg i) (t.sl i)) true) (!isS (t.sg i)) true, [], .c (.bool false)) := by
  revert i
  refine all8 ?_ ?_ ?_ ?_ ?_ ?_ ?_ ?_ <;> kernel_rfl
theorem rleaf_no2 (t : Tr) (i : Nat) (hi : i < 8) : retL Try.prog rtIsL frTIs 1000 4 (loopB ((bodyOf Try.prog frTIs).drop 2)) (rtI t i) [true, true, false, true] = some (ty_ (tg (tg true (nz (t.sg i) (t.sl i)) true) (!isS (t.sg i)) false) (!isS (t.sl i)), [], .c (.bool false)) := by
  revert i
  refine all8 ?_ ?_ ?_ ?_ ?_ ?_ ?_ ?_ <;> kernel_rfl
theorem rnode_z (t : Tr) (i : Nat) (hi : i < 15) : stepL Try.prog rtIsL 0 1000 4 (loopB ((bodyOf Try.prog frTIs).drop 4)) (rnI t i) [true, false, false] [] rnCut = some (tg true (nodeC (t.nd i)) false, [], rnI t (i + 1)) := by
  revert i
  refine all15 ?_ ?_ ?_ ?_ ?_ ?_ ?_ ?_ ?_ ?_ ?_ ?_ ?_ ?_ ?_ <;> kernel_rfl
theorem all7 {p : Nat → Prop} (h0 : p 0) (h1 : p 1) (h2 : p 2) (h3 : p 3) (h4 : p 4) (h5 : p 5) (h6 : p 6) : ∀ i, i < 7 → p i := by
  intro i hi
  have : i = 0 ∨ i = 1 ∨ i = 2 ∨ i = 3 ∨ i = 4 ∨ i = 5 ∨ i = 6 := by omega
  rcases this with rfl | rfl | rfl | rfl | rfl | rfl | rfl <;> assumption
theorem rnode_yes' (t : Tr) (j : Nat) (hj : j < 7) : stepL Try.prog rtIsL 0 1000 4 (loopB ((bodyOf Try.prog frTIs).drop 4)) (rnI t (2 * j + 1 : Nat)) [true, true, false, false] [] rnCut = some (tn (tg true (nodeC (t.nd (2 * j + 1))) true) (!isS (t.nd (2 * j + 1))), [], rnI t ((2 * j + 1 : Nat) + 1)) := by
  revert j
  refine all7 ?_ ?_ ?_ ?_ ?_ ?_ ?_ <;> kernel_rfl
theorem rnode_no1' (t : Tr) (j : Nat) (hj : j < 7) : retL Try.prog rtIsL frTIs 1000 4 (loopB ((bodyOf Try.prog frTIs).drop 4)) (rnI t (2 * j + 1 : Nat)) [true, true, false, true] = some (ty_ (tg true (nodeC (t.nd (2 * j + 1))) true) (!isS (t.nd (2 * j + 1))), [], .c (.bool false)) := by
  revert j
  refine all7 ?_ ?_ ?_ ?_ ?_ ?_ ?_ <;> kernel_rfl
theorem rnode_no2' (t : Tr) (j : Nat) (hj : j < 8) : retL Try.prog rtIsL frTIs 1000 4 (loopB ((bodyOf Try.prog frTIs).drop 4)) (rnI t (2 * j : Nat)) [true, true, true] = some (tg true (nodeC (t.nd (2 * j))) true, [], .c (.bool false)) := by
  revert j
  refine all8 ?_ ?_ ?_ ?_ ?_ ?_ ?_ ?_ <;> kernel_rfl

theorem isS_0 : isS 0 = false := rfl
theorem isS_ne {n : Int} (h : isS n = true) : (n == 0) = false := by
  cases hn : n == 0 with
  | false => rfl
  | true =>
    rw [beq_iff_eq] at hn; subst hn; rw [isS_0] at h; cases h
theorem leafOk_z {s p : Int} (h : nz s p = false) : leafOk s p = true := by
  unfold nz at h
  simp only [Bool.and_true, Bool.not_eq_false', Bool.and_eq_true] at h
  unfold leafOk isKeyS
  rw [h.1, h.2]; rfl
theorem leafOk_yes {s p : Int} (h1 : isS s = true) (h2 : isS p = true) : leafOk s p = true := by
  unfold leafOk isKeyS
  rw [isS_ne h1, isS_ne h2, h1, h2]; rfl
theorem leafOk_no1 {s p : Int} (h : nz s p = true) (h1 : isS s = false) : leafOk s p = false := by
  unfold nz at h
  unfold leafOk isKeyS
  cases hs : s == 0 with
  | true =>
    rw [hs] at h
    simp only [Bool.and_true, Bool.true_and, Bool.not_eq_true'] at h
    rw [h]
    cases isS p <;> rfl
  | false => rw [h1]; rfl
theorem leafOk_no2 {s p : Int} (h : nz s p = true) (h1 : isS p = false) : leafOk s p = false := by
  unfold nz at h
  unfold leafOk isKeyS
  cases hp : p == 0 with
  | true =>
    rw [hp] at h
    simp only [Bool.and_true, Bool.not_eq_true'] at h
    rw [h]
    cases isS s <;> rfl
  | false => rw [h1]; simp

theorem rtIs_fn (t : Tr) (w : World) : Sx.Fn Try.prog frTIs (atW w 0) [.agg t.cs] [] 0 fun r _ => r = .c (.bool (isTS t)) := by
  refine Sx.Fn.of (nt := 51) (by kernel_rfl) rfl ?_
  refine SWs.stepL rtIs_lib Sp.mixed (fuel := 1000) (n := 2) [] (un := []) (c := rtCut) (t := rtI t 0) (ob := true) (obs := []) (by kernel_rfl) rfl trivial ?_
  refine SWs.loop (by kernel_rfl) (fun i : Nat => rtI t i) (fun i => 8 - i) (fun i => i ≤ 8 ∧ leaves t i = true) 0 ⟨by omega, rfl⟩ ?_
  rintro i ⟨hi, hl⟩
  by_cases h8 : i = 8
  · subst h8
    refine SWs.outL rtIs_lib Sp.mixed (fuel := 1000) (n := 2) [false] (un := []) (c := rtCut) (t := rtI t 8) (ob := true) (obs := []) (by kernel_rfl) rfl trivial ?_
    refine SWs.stepL rtIs_lib Sp.mixed (fuel := 1000) (n := 1) [] (un := []) (c := rnCut) (t := rnI t 0) (ob := true) (obs := []) (by kernel_rfl) rfl trivial ?_
    refine SWs.loop (by kernel_rfl) (fun i : Nat => rnI t i) (fun i => 15 - i) (fun i => i ≤ 15 ∧ nodes t i = true) 0 ⟨by omega, rfl⟩ ?_
    rintro i ⟨hi, hn⟩
    by_cases h15 : i = 15
    · subst h15
      refine SWs.outL rtIs_lib Sp.mixed (fuel := 1000) (n := 2) [false] (un := []) (c := rnCut) (t := rnI t 15) (ob := true) (obs := []) (by kernel_rfl) rfl trivial ?_
      exact SWs.finvL rtIs_lib Sp.mixed (fuel := 1000) (n := 100) [] (ob := true) (obs := []) (v := .c (.bool true)) (by kernel_rfl) rfl trivial (by unfold isTS; rw [hl, hn]; rfl)
    · have hi' : i < 15 := by omega
      cases hz : nodeC (t.nd i) with
      | false =>
        refine SWs.roundL rtIs_lib Sp.mixed [true, false, false] (rnode_z t i hi') rfl (tg_eq rfl hz) trivial ⟨i + 1, ⟨by omega, ?_⟩, by omega, rfl⟩
        unfold nodeC bne at hz
        simp only [Bool.not_eq_false'] at hz
        simp [nodes, hn, nodeOk, isKeyS, hz]
      | true =>
        have hz0 : (t.nd i == 0) = false := by unfold nodeC bne at hz; simpa using hz
        rcases Nat.mod_two_eq_zero_or_one i with h | h
        · obtain ⟨j, rfl⟩ : ∃ j, i = 2 * j := ⟨i / 2, by omega⟩
          refine SWs.retR rtIs_lib Sp.mixed [true, true, true] (rnode_no2' t j (by omega)) (tg_eq rfl hz) trivial fun _ => ?_
          rw [isTS_node hi' (by unfold nodeOk; rw [hz0, h]; cases isKeyS (t.nd (2 * j)) <;> rfl)]
        · obtain ⟨j, rfl⟩ : ∃ j, i = 2 * j + 1 := ⟨i / 2, by omega⟩
          cases hA : isS (t.nd (2 * j + 1)) with
          | true =>
            refine SWs.roundL rtIs_lib Sp.mixed [true, true, false, false] (rnode_yes' t j (by omega)) rfl (tn_eq (tg_eq rfl hz) (by rw [hA]; rfl)) trivial ⟨2 * j + 1 + 1, ⟨by omega, ?_⟩, by omega, rfl⟩
            have e : nodes t (2 * j + 1 + 1) = (nodes t (2 * j + 1) && nodeOk (2 * j + 1) (t.nd (2 * j + 1))) := rfl
            rw [e, hn]
            unfold nodeOk isKeyS
            rw [hz0, hA, h]; rfl
          | false =>
            refine SWs.retR rtIs_lib Sp.mixed [true, true, false, true] (rnode_no1' t j (by omega)) (ty_eq (tg_eq rfl hz) (by rw [hA]; rfl)) trivial fun _ => ?_
            rw [isTS_node hi' (by unfold nodeOk isKeyS; rw [hz0, hA]; rfl)]
  · have hi' : i < 8 := by omega
    cases hz : nz (t.sg i) (t.sl i) with
    | false =>
      refine SWs.roundL rtIs_lib Sp.mixed [true, false, false] (rleaf_z t i hi') rfl (tg_eq rfl hz) trivial ⟨i + 1, ⟨by omega, ?_⟩, by omega, rfl⟩
      simp [leaves, hl, leafOk_z hz]
    | true =>
      cases hA : isS (t.sg i) with
      | false =>
        refine SWs.retR rtIs_lib Sp.mixed [true, true, true] (rleaf_no1 t i hi') (tg_eq (tg_eq rfl hz) (by rw [hA]; rfl)) trivial fun _ => ?_
        rw [isTS_leaf hi' (leafOk_no1 hz hA)]
      | true =>
        cases hB : isS (t.sl i) with
        | false =>
          refine SWs.retR rtIs_lib Sp.mixed [true, true, false, true] (rleaf_no2 t i hi') (ty_eq (tg_eq (tg_eq rfl hz) (by rw [hA]; rfl)) (by rw [hB]; rfl)) trivial fun _ => ?_
          rw [isTS_leaf hi' (leafOk_no2 hz hB)]
        | true =>
          refine SWs.roundL rtIs_lib Sp.mixed [true, true, false, false] (rleaf_yes t i hi') rfl (tn_eq (tg_eq (tg_eq rfl hz) (by rw [hA]; rfl)) (by rw [hB]; rfl)) trivial ⟨i + 1, ⟨by omega, ?_⟩, by omega, rfl⟩
          simp [leaves, hl, leafOk_yes hA hB]
theorem rtIs_ok : ConOK Try.prog frTIs tIsC := by
  refine pureConB_ok (fn := Try.f8) (by kernel_rfl) rfl rfl fun args v hok h => ?_
  split at h <;> try (cases h; done)
  rename_i cs
  simp only [Option.some.injEq] at h; subst h
  simp only at hok
  have e := Tr.of_cs hok
  refine ⟨rfl, by rw [e]; rfl, fun w => ?_⟩
  generalize Tr.of cs 0 = t at e
  subst e
  exact rtIs_fn t w

end Go.Proofs.Ytkpdkfeklecehaa.Vw
