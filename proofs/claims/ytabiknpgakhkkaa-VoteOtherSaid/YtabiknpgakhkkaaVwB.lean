/-
  Trees that may be: what the program's and the document's functions answer.
-/
import Derived.Test.YtabiknpgakhkkaaVwA
namespace Go.Proofs.Ytabiknpgakhkkaa.Vw
open Go.RowKit Go.Proofs.Ytabiknpgakhkkaa.Sx Go.Proofs.Ytabiknpgakhkkaa.Pw
set_option linter.unusedVariables false
set_option linter.unusedSimpArgs false

/-- What is told of a guard; of a condition. -/
def tg (acc c t : Bool) : Bool := bnd acc (c == t && true)
def ty_ (acc c : Bool) : Bool := bnd acc c
def tn (acc c : Bool) : Bool := bnd acc (!c)
theorem tg_eq {acc c t : Bool} (h : acc = true) (hc : c = t) : tg acc c t = true := by subst h hc; unfold tg; cases c <;> rfl
theorem ty_eq {acc c : Bool} (h : acc = true) (hc : c = true) : ty_ acc c = true := by subst h hc; rfl
theorem tn_eq {acc c : Bool} (h : acc = true) (hc : c = false) : tn acc c = true := by subst h hc; rfl

theorem all8 {p : Nat → Prop} (h0 : p 0) (h1 : p 1) (h2 : p 2) (h3 : p 3) (h4 : p 4) (h5 : p 5) (h6 : p 6) (h7 : p 7) : ∀ i, i < 8 → p i := by
  intro i hi
  have : i = 0 ∨ i = 1 ∨ i = 2 ∨ i = 3 ∨ i = 4 ∨ i = 5 ∨ i = 6 ∨ i = 7 := by omega
  rcases this with rfl | rfl | rfl | rfl | rfl | rfl | rfl | rfl <;> assumption
theorem all15 {p : Nat → Prop} (h0 : p 0) (h1 : p 1) (h2 : p 2) (h3 : p 3) (h4 : p 4) (h5 : p 5) (h6 : p 6) (h7 : p 7) (h8 : p 8) (h9 : p 9) (h10 : p 10) (h11 : p 11) (h12 : p 12) (h13 : p 13) (h14 : p 14) : ∀ i, i < 15 → p i := by
  intro i hi
  have : i = 0 ∨ i = 1 ∨ i = 2 ∨ i = 3 ∨ i = 4 ∨ i = 5 ∨ i = 6 ∨ i = 7 ∨ i = 8 ∨ i = 9 ∨ i = 10 ∨ i = 11 ∨ i = 12 ∨ i = 13 ∨ i = 14 := by omega
  rcases this with rfl | rfl | rfl | rfl | rfl | rfl | rfl | rfl | rfl | rfl | rfl | rfl | rfl | rfl | rfl <;> assumption

abbrev fTIs : Nat := 67
def leafA (s : Int) : Bool := !isKeyS s
def leafC (s p : Int) : Bool := !((s == 0) == (p == 0))
def leafOk (s p : Int) : Bool := isKeyS s && (isKeyS p && ((s == 0) == (p == 0)))
def nodeC (n : Int) : Bool := n != 0
def nodeOk (i : Nat) (n : Int) : Bool := isKeyS n && (Nat.beq (i % 2) 1 || n == 0)
def leaves (t : Tr) : Nat → Bool
  | 0 => true
  | i + 1 => leaves t i && leafOk (t.sg i) (t.sl i)
def nodes (t : Tr) : Nat → Bool
  | 0 => true
  | i + 1 => nodes t i && nodeOk i (t.nd i)
def isTS (t : Tr) : Bool := leaves t 8 && nodes t 15
theorem leaves_le {t : Tr} : ∀ {n i : Nat}, leaves t n = true → i < n → leafOk (t.sg i) (t.sl i) = true
  | 0, i, _, h => absurd h (by omega)
  | n + 1, i, h, hi => by
    simp only [leaves, Bool.and_eq_true] at h
    by_cases hin : i = n
    · subst hin; exact h.2
    · exact leaves_le h.1 (by omega)
theorem nodes_le {t : Tr} : ∀ {n i : Nat}, nodes t n = true → i < n → nodeOk i (t.nd i) = true
  | 0, i, _, h => absurd h (by omega)
  | n + 1, i, h, hi => by
    simp only [nodes, Bool.and_eq_true] at h
    by_cases hin : i = n
    · subst hin; exact h.2
    · exact nodes_le h.1 (by omega)
theorem isTS_leaf {t : Tr} {i : Nat} (hi : i < 8) (h : leafOk (t.sg i) (t.sl i) = false) : isTS t = false := by
  cases hh : isTS t with
  | false => rfl
  | true => unfold isTS at hh; simp only [Bool.and_eq_true] at hh; rw [leaves_le hh.1 hi] at h; cases h
theorem isTS_node {t : Tr} {i : Nat} (hi : i < 15) (h : nodeOk i (t.nd i) = false) : isTS t = false := by
  cases hh : isTS t with
  | false => rfl
  | true => unfold isTS at hh; simp only [Bool.and_eq_true] at hh; rw [nodes_le hh.2 hi] at h; cases h

def leafI (t : Tr) (i : Int) : St := ⟨[(1, .c (.ptr 0 0)), (2, .c (.bool false)), (8, .agg t.lf), (9, .c (.int i))], [(0, some ⟨t.cs, tTree, false, true⟩)], 1, 51⟩
def leafCut : Cut := ⟨[(1, false), (2, true), (8, true), (9, true)], [(0, 0, true)], 1⟩
def nodeI (t : Tr) (i : Int) : St := ⟨[(1, .c (.ptr 0 0)), (2, .c (.bool false)), (33, .agg t.ns), (34, .c (.int i))], [(0, some ⟨t.cs, tTree, false, true⟩)], 1, 51⟩
def nodeCut : Cut := ⟨[(1, false), (2, true), (33, true), (34, true)], [(0, 0, true)], 1⟩
theorem tIs_lib : LibOK Try.prog [(fIsKey, isKeyC)] := LibOK.cons isKey_ok (LibOK.nil _)
abbrev tIsL : List (Nat × Con) := [(fIsKey, isKeyC)]

/-- A leaf's round, each by each. -/
theorem leaf_yes (t : Tr) (i : Nat) (hi : i < 8) : stepL Try.prog tIsL 0 1000 4 (loopB ((bodyOf Try.prog fTIs).drop 2)) (leafI t i) [true, false, false, false] [] leafCut = some (tn (tg (tg true (leafA (t.sg i)) false) (leafA (t.sl i)) false) (leafC (t.sg i) (t.sl i)), [], leafI t (i + 1)) := by
  revert i
  refine all8 ?_ ?_ ?_ ?_ ?_ ?_ ?_ ?_ <;> kernel_rfl
theorem leaf_no1 (t : Tr) (i : Nat) (hi : i < 8) : retL Try.prog tIsL fTIs 1000 4 (loopB ((bodyOf Try.prog fTIs).drop 2)) (leafI t i) [true, true] = some (tg true (leafA (t.sg i)) true, [], .c (.bool false)) := by
  revert i
  refine all8 ?_ ?_ ?_ ?_ ?_ ?_ ?_ ?_ <;> kernel_rfl
theorem leaf_no2 (t : Tr) (i : Nat) (hi : i < 8) : retL Try.prog tIsL fTIs 1000 4 (loopB ((bodyOf Try.prog fTIs).drop 2)) (leafI t i) [true, false, true] = some (tg (tg true (leafA (t.sg i)) false) (leafA (t.sl i)) true, [], .c (.bool false)) := by
  revert i
  refine all8 ?_ ?_ ?_ ?_ ?_ ?_ ?_ ?_ <;> kernel_rfl
theorem leaf_no3 (t : Tr) (i : Nat) (hi : i < 8) : retL Try.prog tIsL fTIs 1000 4 (loopB ((bodyOf Try.prog fTIs).drop 2)) (leafI t i) [true, false, false, true] = some (ty_ (tg (tg true (leafA (t.sg i)) false) (leafA (t.sl i)) false) (leafC (t.sg i) (t.sl i)), [], .c (.bool false)) := by
  revert i
  refine all8 ?_ ?_ ?_ ?_ ?_ ?_ ?_ ?_ <;> kernel_rfl

def nodeT (i : Nat) (b : Bool) : List Bool := [true, false, Nat.beq (i % 2) 0, b]
theorem node_yes (t : Tr) (i : Nat) (hi : i < 15) : stepL Try.prog tIsL 0 1000 4 (loopB ((bodyOf Try.prog fTIs).drop 4)) (nodeI t i) (nodeT i false) [] nodeCut = some (bif Nat.beq (i % 2) 0 then tn (tg true (leafA (t.nd i)) false) (nodeC (t.nd i)) else tg true (leafA (t.nd i)) false, [], nodeI t (i + 1)) := by
  revert i
  refine all15 ?_ ?_ ?_ ?_ ?_ ?_ ?_ ?_ ?_ ?_ ?_ ?_ ?_ ?_ ?_ <;> kernel_rfl
theorem node_no1 (t : Tr) (i : Nat) (hi : i < 15) : retL Try.prog tIsL fTIs 1000 4 (loopB ((bodyOf Try.prog fTIs).drop 4)) (nodeI t i) [true, true] = some (tg true (leafA (t.nd i)) true, [], .c (.bool false)) := by
  revert i
  refine all15 ?_ ?_ ?_ ?_ ?_ ?_ ?_ ?_ ?_ ?_ ?_ ?_ ?_ ?_ ?_ <;> kernel_rfl
theorem node_no2' (t : Tr) (j : Nat) (hj : j < 8) : retL Try.prog tIsL fTIs 1000 4 (loopB ((bodyOf Try.prog fTIs).drop 4)) (nodeI t (2 * j : Nat)) [true, false, true, true] = some (ty_ (tg true (leafA (t.nd (2 * j))) false) (nodeC (t.nd (2 * j))), [], .c (.bool false)) := by
  revert j
  refine all8 ?_ ?_ ?_ ?_ ?_ ?_ ?_ ?_ <;> kernel_rfl
theorem node_no2 (t : Tr) (i : Nat) (hi : i < 15) (he : Nat.beq (i % 2) 0 = true) : retL Try.prog tIsL fTIs 1000 4 (loopB ((bodyOf Try.prog fTIs).drop 4)) (nodeI t i) [true, false, true, true] = some (ty_ (tg true (leafA (t.nd i)) false) (nodeC (t.nd i)), [], .c (.bool false)) := by
  have h := Nat.eq_of_beq_eq_true he
  obtain ⟨j, rfl⟩ : ∃ j, i = 2 * j := ⟨i / 2, by omega⟩
  exact node_no2' t j (by omega)

def tIsC : Con := pureConB (fun | [.agg cs] => isTr cs | _ => true) fun | [.agg cs] => some (.c (.bool (isTS (Tr.of cs 0)))) | _ => none
theorem tIs_fn (t : Tr) (w : World) : Sx.Fn Try.prog fTIs (atW w 0) [.agg t.cs] [] 0 fun r _ => r = .c (.bool (isTS t)) := by
  refine Sx.Fn.of (nt := 51) (by kernel_rfl) rfl ?_
  refine SWs.stepL tIs_lib Sp.mixed (fuel := 1000) (n := 2) [] (un := []) (c := leafCut) (t := leafI t 0) (ob := true) (obs := []) (by kernel_rfl) rfl trivial ?_
  refine SWs.loop (by kernel_rfl) (fun i : Nat => leafI t i) (fun i => 8 - i) (fun i => i ≤ 8 ∧ leaves t i = true) 0 ⟨by omega, rfl⟩ ?_
  rintro i ⟨hi, hl⟩
  by_cases h8 : i = 8
  · subst h8
    refine SWs.outL tIs_lib Sp.mixed (fuel := 1000) (n := 2) [false] (un := []) (c := leafCut) (t := leafI t 8) (ob := true) (obs := []) (by kernel_rfl) rfl trivial ?_
    refine SWs.stepL tIs_lib Sp.mixed (fuel := 1000) (n := 1) [] (un := []) (c := nodeCut) (t := nodeI t 0) (ob := true) (obs := []) (by kernel_rfl) rfl trivial ?_
    refine SWs.loop (by kernel_rfl) (fun i : Nat => nodeI t i) (fun i => 15 - i) (fun i => i ≤ 15 ∧ nodes t i = true) 0 ⟨by omega, rfl⟩ ?_
    rintro i ⟨hi, hn⟩
    by_cases h15 : i = 15
    · subst h15
      refine SWs.outL tIs_lib Sp.mixed (fuel := 1000) (n := 2) [false] (un := []) (c := nodeCut) (t := nodeI t 15) (ob := true) (obs := []) (by kernel_rfl) rfl trivial ?_
      exact SWs.finvL tIs_lib Sp.mixed (fuel := 1000) (n := 100) [] (ob := true) (obs := []) (v := .c (.bool true)) (by kernel_rfl) rfl trivial (by unfold isTS; rw [hl, hn]; rfl)
    · have hi' : i < 15 := by omega
      cases hA : isKeyS (t.nd i) with
      | false =>
        refine SWs.retR tIs_lib Sp.mixed [true, true] (node_no1 t i hi') (tg_eq rfl (by unfold leafA; rw [hA]; rfl)) trivial fun _ => ?_
        rw [isTS_node hi' (by unfold nodeOk; rw [hA]; rfl)]
      | true =>
        have h1 : tg true (leafA (t.nd i)) false = true := tg_eq rfl (by unfold leafA; rw [hA]; rfl)
        cases hz : t.nd i == 0 with
        | true =>
          refine SWs.roundL tIs_lib Sp.mixed (nodeT i false) (node_yes t i hi') rfl ?_ trivial ⟨i + 1, ⟨by omega, ?_⟩, by omega, rfl⟩
          · rw [h1, tn_eq rfl (by unfold nodeC bne; rw [hz]; rfl)]; simp
          · simp [nodes, hn, nodeOk, hA, hz]
        | false =>
          cases he : Nat.beq (i % 2) 0 with
          | true =>
            refine SWs.retR tIs_lib Sp.mixed [true, false, true, true] (node_no2 t i hi' he) (ty_eq h1 (by unfold nodeC bne; rw [hz]; rfl)) trivial fun _ => ?_
            have : Nat.beq (i % 2) 1 = false := by
              have := Nat.eq_of_beq_eq_true he
              rw [this]; rfl
            rw [isTS_node hi' (by unfold nodeOk; rw [hA, hz, this]; rfl)]
          | false =>
            refine SWs.roundL tIs_lib Sp.mixed (nodeT i false) (node_yes t i hi') rfl ?_ trivial ⟨i + 1, ⟨by omega, ?_⟩, by omega, rfl⟩
            · rw [he, h1]; rfl
            · have h2 : i % 2 = 1 := by
                rcases Nat.mod_two_eq_zero_or_one i with h | h
                · rw [h] at he; cases he
                · exact h
              simp [nodes, hn, nodeOk, hA, h2]
  · have hi' : i < 8 := by omega
    cases hA : isKeyS (t.sg i) with
    | false =>
      refine SWs.retR tIs_lib Sp.mixed [true, true] (leaf_no1 t i hi') (tg_eq rfl (by unfold leafA; rw [hA]; rfl)) trivial fun _ => ?_
      rw [isTS_leaf hi' (by unfold leafOk; rw [hA]; rfl)]
    | true =>
      have h1 : tg true (leafA (t.sg i)) false = true := tg_eq rfl (by unfold leafA; rw [hA]; rfl)
      cases hB : isKeyS (t.sl i) with
      | false =>
        refine SWs.retR tIs_lib Sp.mixed [true, false, true] (leaf_no2 t i hi') (tg_eq h1 (by unfold leafA; rw [hB]; rfl)) trivial fun _ => ?_
        rw [isTS_leaf hi' (by unfold leafOk; rw [hA, hB]; rfl)]
      | true =>
        have h2 : tg (tg true (leafA (t.sg i)) false) (leafA (t.sl i)) false = true := tg_eq h1 (by unfold leafA; rw [hB]; rfl)
        cases hC : leafC (t.sg i) (t.sl i) with
        | true =>
          refine SWs.retR tIs_lib Sp.mixed [true, false, false, true] (leaf_no3 t i hi') (ty_eq h2 hC) trivial fun _ => ?_
          rw [isTS_leaf hi' (by unfold leafOk; unfold leafC at hC; rw [hA, hB]; simpa using hC)]
        | false =>
          refine SWs.roundL tIs_lib Sp.mixed [true, false, false, false] (leaf_yes t i hi') rfl (tn_eq h2 hC) trivial ⟨i + 1, ⟨by omega, ?_⟩, by omega, rfl⟩
          unfold leafC at hC
          simp only [Bool.not_eq_false'] at hC
          simp [leaves, hl, leafOk, hA, hB, hC]
theorem tIs_ok : ConOK Try.prog fTIs tIsC := by
  refine pureConB_ok (fn := Try.f67) (by kernel_rfl) rfl rfl fun args v hok h => ?_
  split at h <;> try (cases h; done)
  rename_i cs
  simp only [Option.some.injEq] at h; subst h
  simp only at hok
  have e := Tr.of_cs hok
  refine ⟨rfl, by rw [e]; rfl, fun w => ?_⟩
  generalize Tr.of cs 0 = t at e
  subst e
  exact tIs_fn t w

end Go.Proofs.Ytabiknpgakhkkaa.Vw
