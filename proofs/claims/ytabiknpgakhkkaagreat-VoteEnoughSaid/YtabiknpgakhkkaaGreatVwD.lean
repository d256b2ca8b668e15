/-
  Views as values: trees, admins, thresholds. Trees that may be: what the program's and the document's functions answer. Views that may be: what the program's and the document's functions answer. Members, admins, views that may be.
-/
import Derived.Test.YtabiknpgakhkkaaGreatPwB
import Derived.Test.YtabiknpgakhkkaaGreatSxU
import Derived.Test.YtabiknpgakhkkaaGreatSxR
set_option maxRecDepth 20000
section
namespace Go.Proofs.YtabiknpgakhkkaaGreat.Vw
open Go.RowKit Go.Proofs.YtabiknpgakhkkaaGreat.Sx Go.Proofs.YtabiknpgakhkkaaGreat.Pw
set_option linter.unusedVariables false
set_option linter.unusedSimpArgs false

abbrev tTree : Nat := 27
/-- A tree: each leaf's two numbers, the nodes'. -/
structure Tr where
  sg : Nat → Int
  sl : Nat → Int
  nd : Nat → Int
/-- A view. -/
structure Vi where
  ep : Int
  t : Tr
  ad : Nat → Bool
  k : Int
  ch : Nat → UInt8
def Tr.lf (t : Tr) : List SC := [.int (t.sg 0), .int (t.sl 0), .int (t.sg 1), .int (t.sl 1), .int (t.sg 2), .int (t.sl 2), .int (t.sg 3), .int (t.sl 3), .int (t.sg 4), .int (t.sl 4), .int (t.sg 5), .int (t.sl 5), .int (t.sg 6), .int (t.sl 6), .int (t.sg 7), .int (t.sl 7)]
def Tr.ns (t : Tr) : List SC := [.int (t.nd 0), .int (t.nd 1), .int (t.nd 2), .int (t.nd 3), .int (t.nd 4), .int (t.nd 5), .int (t.nd 6), .int (t.nd 7), .int (t.nd 8), .int (t.nd 9), .int (t.nd 10), .int (t.nd 11), .int (t.nd 12), .int (t.nd 13), .int (t.nd 14)]
def Tr.cs (t : Tr) : List SC := t.lf ++ t.ns
def adC (a : Nat → Bool) : List SC := [.bool (a 0), .bool (a 1), .bool (a 2), .bool (a 3), .bool (a 4), .bool (a 5), .bool (a 6), .bool (a 7)]
def chC (c : Nat → UInt8) : List SC := [.u8 (c 0), .u8 (c 1), .u8 (c 2), .u8 (c 3), .u8 (c 4), .u8 (c 5), .u8 (c 6), .u8 (c 7), .u8 (c 8), .u8 (c 9), .u8 (c 10), .u8 (c 11), .u8 (c 12), .u8 (c 13), .u8 (c 14), .u8 (c 15), .u8 (c 16), .u8 (c 17), .u8 (c 18), .u8 (c 19), .u8 (c 20), .u8 (c 21), .u8 (c 22), .u8 (c 23), .u8 (c 24), .u8 (c 25), .u8 (c 26), .u8 (c 27), .u8 (c 28), .u8 (c 29), .u8 (c 30), .u8 (c 31)]
def Vi.cs (v : Vi) : List SC := .int v.ep :: (v.t.cs ++ (adC v.ad ++ (.int v.k :: chC v.ch)))
def gI (cs : List SC) (i : Nat) : Int := (cs.getD i .nilp).asInt
def gB (cs : List SC) (i : Nat) : Bool := (cs.getD i .nilp).asBool
def gU (cs : List SC) (i : Nat) : UInt8 := (cs.getD i .nilp).asU8
def Tr.of (cs : List SC) (o : Nat) : Tr := ⟨fun i => gI cs (o + 2 * i), fun i => gI cs (o + 2 * i + 1), fun i => gI cs (o + 16 + i)⟩
def Vi.of (cs : List SC) : Vi := ⟨gI cs 0, Tr.of cs 1, fun i => gB cs (32 + i), gI cs 40, fun i => gU cs (41 + i)⟩
def isTr (cs : List SC) : Bool := Nat.beq cs.length 31 && cs.all SC.isInt
/-- Kinds of a view's cells. -/
def kindAt (x : SC) (i : Nat) : Bool := bif Nat.blt i 32 then x.isInt else bif Nat.blt i 40 then x.isBool else bif Nat.beq i 40 then x.isInt else x.isU8
def kinds : List SC → Nat → Bool
  | [], _ => true
  | x :: r, i => kindAt x i && kinds r (i + 1)
def isVi (cs : List SC) : Bool := Nat.beq cs.length 73 && kinds cs 0
theorem kinds_get : ∀ {cs : List SC} {j i : Nat} {x : SC}, kinds cs j = true → cs[i]? = some x → kindAt x (j + i) = true
  | [], _, _, _, _, h => by simp at h
  | y :: r, j, 0, x, h, hx => by
    simp only [kinds, Bool.and_eq_true] at h
    simp at hx; subst hx; exact h.1
  | y :: r, j, i + 1, x, h, hx => by
    simp only [kinds, Bool.and_eq_true] at h
    have := kinds_get h.2 (by simpa using hx : r[i]? = some x)
    rwa [show j + 1 + i = j + (i + 1) by omega] at this
theorem int_of {cs : List SC} {i : Nat} {x : SC} (h : cs[i]? = some x) (hx : x.isInt = true) : cs[i]? = some (.int (gI cs i)) := by
  have : cs.getD i .nilp = x := by simp [List.getD, h]
  unfold gI
  rw [this, h]
  cases x <;> first | rfl | (simp [SC.isInt] at hx; done)
theorem bool_of {cs : List SC} {i : Nat} {x : SC} (h : cs[i]? = some x) (hx : x.isBool = true) : cs[i]? = some (.bool (gB cs i)) := by
  have : cs.getD i .nilp = x := by simp [List.getD, h]
  unfold gB
  rw [this, h]
  cases x <;> first | rfl | (simp [SC.isBool] at hx; done)
theorem u8_of {cs : List SC} {i : Nat} {x : SC} (h : cs[i]? = some x) (hx : x.isU8 = true) : cs[i]? = some (.u8 (gU cs i)) := by
  have : cs.getD i .nilp = x := by simp [List.getD, h]
  unfold gU
  rw [this, h]
  cases x <;> first | rfl | (simp [SC.isU8] at hx; done)
theorem Tr.at_ (cs : List SC) : ∀ i, i < 31 → (Tr.of cs 0).cs[i]? = some (.int (gI cs i)) := by
  intro i hi
  match i, hi with
  | 0, _ => rfl
  | 1, _ => rfl
  | 2, _ => rfl
  | 3, _ => rfl
  | 4, _ => rfl
  | 5, _ => rfl
  | 6, _ => rfl
  | 7, _ => rfl
  | 8, _ => rfl
  | 9, _ => rfl
  | 10, _ => rfl
  | 11, _ => rfl
  | 12, _ => rfl
  | 13, _ => rfl
  | 14, _ => rfl
  | 15, _ => rfl
  | 16, _ => rfl
  | 17, _ => rfl
  | 18, _ => rfl
  | 19, _ => rfl
  | 20, _ => rfl
  | 21, _ => rfl
  | 22, _ => rfl
  | 23, _ => rfl
  | 24, _ => rfl
  | 25, _ => rfl
  | 26, _ => rfl
  | 27, _ => rfl
  | 28, _ => rfl
  | 29, _ => rfl
  | 30, _ => rfl
  | n + 31, h => exact absurd h (by omega)
theorem Vi.at_ (cs : List SC) : ∀ i, i < 73 → (Vi.of cs).cs[i]? = some (bif Nat.blt i 32 then .int (gI cs i) else bif Nat.blt i 40 then .bool (gB cs i) else bif Nat.beq i 40 then .int (gI cs i) else .u8 (gU cs i)) := by
  intro i hi
  match i, hi with
  | 0, _ => rfl
  | 1, _ => rfl
  | 2, _ => rfl
  | 3, _ => rfl
  | 4, _ => rfl
  | 5, _ => rfl
  | 6, _ => rfl
  | 7, _ => rfl
  | 8, _ => rfl
  | 9, _ => rfl
  | 10, _ => rfl
  | 11, _ => rfl
  | 12, _ => rfl
  | 13, _ => rfl
  | 14, _ => rfl
  | 15, _ => rfl
  | 16, _ => rfl
  | 17, _ => rfl
  | 18, _ => rfl
  | 19, _ => rfl
  | 20, _ => rfl
  | 21, _ => rfl
  | 22, _ => rfl
  | 23, _ => rfl
  | 24, _ => rfl
  | 25, _ => rfl
  | 26, _ => rfl
  | 27, _ => rfl
  | 28, _ => rfl
  | 29, _ => rfl
  | 30, _ => rfl
  | 31, _ => rfl
  | 32, _ => rfl
  | 33, _ => rfl
  | 34, _ => rfl
  | 35, _ => rfl
  | 36, _ => rfl
  | 37, _ => rfl
  | 38, _ => rfl
  | 39, _ => rfl
  | 40, _ => rfl
  | 41, _ => rfl
  | 42, _ => rfl
  | 43, _ => rfl
  | 44, _ => rfl
  | 45, _ => rfl
  | 46, _ => rfl
  | 47, _ => rfl
  | 48, _ => rfl
  | 49, _ => rfl
  | 50, _ => rfl
  | 51, _ => rfl
  | 52, _ => rfl
  | 53, _ => rfl
  | 54, _ => rfl
  | 55, _ => rfl
  | 56, _ => rfl
  | 57, _ => rfl
  | 58, _ => rfl
  | 59, _ => rfl
  | 60, _ => rfl
  | 61, _ => rfl
  | 62, _ => rfl
  | 63, _ => rfl
  | 64, _ => rfl
  | 65, _ => rfl
  | 66, _ => rfl
  | 67, _ => rfl
  | 68, _ => rfl
  | 69, _ => rfl
  | 70, _ => rfl
  | 71, _ => rfl
  | 72, _ => rfl
  | n + 73, h => exact absurd h (by omega)
theorem Tr.of_cs {cs : List SC} (h : isTr cs = true) : cs = (Tr.of cs 0).cs := by
  unfold isTr at h
  simp only [Bool.and_eq_true, List.all_eq_true] at h
  have hl := Nat.eq_of_beq_eq_true h.1
  apply List.ext_getElem?
  intro i
  by_cases hi : i < 31
  · rw [Tr.at_ cs i hi]
    have hx : cs[i]? = some cs[i] := List.getElem?_eq_getElem (by omega)
    exact int_of hx (h.2 _ (List.getElem_mem _))
  · rw [List.getElem?_eq_none (by omega), List.getElem?_eq_none (by show 31 ≤ i; omega)]
theorem Vi.of_cs {cs : List SC} (h : isVi cs = true) : cs = (Vi.of cs).cs := by
  unfold isVi at h
  simp only [Bool.and_eq_true] at h
  have hl := Nat.eq_of_beq_eq_true h.1
  apply List.ext_getElem?
  intro i
  by_cases hi : i < 73
  · rw [Vi.at_ cs i hi]
    have hx : cs[i]? = some cs[i] := List.getElem?_eq_getElem (by omega)
    have hk := kinds_get h.2 hx
    rw [Nat.zero_add] at hk
    unfold kindAt at hk
    cases h1 : Nat.blt i 32 with
    | true => rw [h1] at hk; exact int_of hx hk
    | false =>
      rw [h1] at hk
      simp only [cond_false] at hk ⊢
      cases h2 : Nat.blt i 40 with
      | true => rw [h2] at hk; exact bool_of hx hk
      | false =>
        rw [h2] at hk
        simp only [cond_false] at hk ⊢
        cases h3 : Nat.beq i 40 with
        | true => rw [h3] at hk; exact int_of hx hk
        | false => rw [h3] at hk; exact u8_of hx hk
  · rw [List.getElem?_eq_none (by omega), List.getElem?_eq_none (by show 73 ≤ i; omega)]
theorem Tr.sole (t : Tr) : t.cs.all SC.sole = true := rfl
theorem Vi.sole (v : Vi) : v.cs.all SC.sole = true := rfl

/-! Keys. -/
abbrev fIsKey : Nat := 97
def isKeyS (n : Int) : Bool := bif n == 0 then true else isS n
def isKeyC : Con := pureCon fun | [.c (.int n)] => some (.c (.bool (isKeyS n))) | _ => none
theorem isKey_ok : ConOK Tryz.prog fIsKey isKeyC := by
  refine pureCon_ok (fn := Tryz.f97) (by kernel_rfl) rfl rfl fun args v h => ?_
  split at h <;> try (cases h; done)
  rename_i n
  simp only [Option.some.injEq] at h; subst h
  refine ⟨rfl, rfl, fun w => ?_⟩
  cases h1 : n == 0 with
  | true => exact Fn.xvL (fuel := 1000) (LibOK.cons pis_ok (LibOK.nil _)) Sp.mixed [true] (r := .c (.bool true)) (ob := bnd true ((n == 0) == true && true)) (obs := []) (by kernel_rfl) (by rw [h1]; rfl) trivial (by unfold isKeyS; rw [h1]; rfl)
  | false => exact Fn.xvL (fuel := 1000) (LibOK.cons pis_ok (LibOK.nil _)) Sp.mixed [false] (r := .c (.bool (isS n))) (ob := bnd true ((n == 0) == false && true)) (obs := []) (by kernel_rfl) (by rw [h1]; rfl) trivial (by unfold isKeyS; rw [h1]; rfl)

end Go.Proofs.YtabiknpgakhkkaaGreat.Vw
end

section
namespace Go.Proofs.YtabiknpgakhkkaaGreat.Vw
open Go.RowKit Go.Proofs.YtabiknpgakhkkaaGreat.Sx Go.Proofs.YtabiknpgakhkkaaGreat.Pw
set_option linter.unusedVariables false
set_option linter.unusedSimpArgs false

/-- What is told of a guard; of a condition. -/
def tg (acc c t : Bool) : Bool := bnd acc (c == t && true)
def ty_ (acc c : Bool) : Bool := bnd acc c
def tn (acc c : Bool) : Bool := bnd acc (!c)
theorem tg_eq {acc c t : Bool} (h : acc = true) (hc : c = t) : tg acc c t = true := by subst h hc; unfold tg; cases c <;> rfl
theorem ty_eq {acc c : Bool} (h : acc = true) (hc : c = true) : ty_ acc c = true := by subst h hc; rfl
theorem tn_eq {acc c : Bool} (h : acc = true) (hc : c = false) : tn acc c = true := by subst h hc; rfl

theorem all8 {p : Nat → Prop} (h0 : p 0) (h1 : p 1) (h2 : p 2) (h3 : p 3) (h4 : p 4) (h5 : p 5) (h6 : p 6) (h7 : p 7) : ∀ i, i < 8 → p i := by
  intro i hi
  have : i = 0 ∨ i = 1 ∨ i = 2 ∨ i = 3 ∨ i = 4 ∨ i = 5 ∨ i = 6 ∨ i = 7 := by omega
  rcases this with rfl | rfl | rfl | rfl | rfl | rfl | rfl | rfl <;> assumption
theorem all15 {p : Nat → Prop} (h0 : p 0) (h1 : p 1) (h2 : p 2) (h3 : p 3) (h4 : p 4) (h5 : p 5) (h6 : p 6) (h7 : p 7) (h8 : p 8) (h9 : p 9) (h10 : p 10) (h11 : p 11) (h12 : p 12) (h13 : p 13) (h14 : p 14) : ∀ i, i < 15 → p i := by
  intro i hi
  have : i = 0 ∨ i = 1 ∨ i = 2 ∨ i = 3 ∨ i = 4 ∨ i = 5 ∨ i = 6 ∨ i = 7 ∨ i = 8 ∨ i = 9 ∨ i = 10 ∨ i = 11 ∨ i = 12 ∨ i = 13 ∨ i = 14 := by omega
  rcases this with rfl | rfl | rfl | rfl | rfl | rfl | rfl | rfl | rfl | rfl | rfl | rfl | rfl | rfl | rfl <;> assumption

abbrev fTIs : Nat := 79
def leafA (s : Int) : Bool := !isKeyS s
def leafC (s p : Int) : Bool := !((s == 0) == (p == 0))
def leafOk (s p : Int) : Bool := isKeyS s && (isKeyS p && ((s == 0) == (p == 0)))
def nodeC (n : Int) : Bool := n != 0
def nodeOk (i : Nat) (n : Int) : Bool := isKeyS n && (Nat.beq (i % 2) 1 || n == 0)
def leaves (t : Tr) : Nat → Bool
  | 0 => true
  | i + 1 => leaves t i && leafOk (t.sg i) (t.sl i)
def nodes (t : Tr) : Nat → Bool
  | 0 => true
  | i + 1 => nodes t i && nodeOk i (t.nd i)
def isTS (t : Tr) : Bool := leaves t 8 && nodes t 15
theorem leaves_le {t : Tr} : ∀ {n i : Nat}, leaves t n = true → i < n → leafOk (t.sg i) (t.sl i) = true
  | 0, i, _, h => absurd h (by omega)
  | n + 1, i, h, hi => by
    simp only [leaves, Bool.and_eq_true] at h
    by_cases hin : i = n
    · subst hin; exact h.2
    · exact leaves_le h.1 (by omega)
theorem nodes_le {t : Tr} : ∀ {n i : Nat}, nodes t n = true → i < n → nodeOk i (t.nd i) = true
  | 0, i, _, h => absurd h (by omega)
  | n + 1, i, h, hi => by
    simp only [nodes, Bool.and_eq_true] at h
    by_cases hin : i = n
    · subst hin; exact h.2
    · exact nodes_le h.1 (by omega)
theorem isTS_leaf {t : Tr} {i : Nat} (hi : i < 8) (h : leafOk (t.sg i) (t.sl i) = false) : isTS t = false := by
  cases hh : isTS t with
  | false => rfl
  | true => unfold isTS at hh; simp only [Bool.and_eq_true] at hh; rw [leaves_le hh.1 hi] at h; cases h
theorem isTS_node {t : Tr} {i : Nat} (hi : i < 15) (h : nodeOk i (t.nd i) = false) : isTS t = false := by
  cases hh : isTS t with
  | false => rfl
  | true => unfold isTS at hh; simp only [Bool.and_eq_true] at hh; rw [nodes_le hh.2 hi] at h; cases h

def leafI (t : Tr) (i : Int) : St := ⟨[(1, .c (.ptr 0 0)), (2, .c (.bool false)), (8, .agg t.lf), (9, .c (.int i))], [(0, some ⟨t.cs, tTree, false, true⟩)], 1, 51⟩
def leafCut : Cut := ⟨[(1, false), (2, true), (8, true), (9, true)], [(0, 0, true)], 1⟩
def nodeI (t : Tr) (i : Int) : St := ⟨[(1, .c (.ptr 0 0)), (2, .c (.bool false)), (33, .agg t.ns), (34, .c (.int i))], [(0, some ⟨t.cs, tTree, false, true⟩)], 1, 51⟩
def nodeCut : Cut := ⟨[(1, false), (2, true), (33, true), (34, true)], [(0, 0, true)], 1⟩
theorem tIs_lib : LibOK Tryz.prog [(fIsKey, isKeyC)] := LibOK.cons isKey_ok (LibOK.nil _)
abbrev tIsL : List (Nat × Con) := [(fIsKey, isKeyC)]

/-- A leaf's round, each by each. -/
theorem leaf_yes (t : Tr) (i : Nat) (hi : i < 8) : stepL Tryz.prog tIsL 0 1000 4 (loopB ((bodyOf Tryz.prog fTIs).drop 2)) (leafI t i) [true, false, false, false] [] leafCut = some (tn (tg (tg true (leafA (t.sg i)) false) (leafA (t.sl i)) false) (leafC (t.sg i) (t.sl i)), [], leafI t (i + 1)) := by
  revert i
  refine all8 ?_ ?_ ?_ ?_ ?_ ?_ ?_ ?_ <;> kernel_rfl
theorem leaf_no1 (t : Tr) (i : Nat) (hi : i < 8) : retL Tryz.prog tIsL fTIs 1000 4 (loopB ((bodyOf Tryz.prog fTIs).drop 2)) (leafI t i) [true, true] = some (tg true (leafA (t.sg i)) true, [], .c (.bool false)) := by
  revert i
  refine all8 ?_ ?_ ?_ ?_ ?_ ?_ ?_ ?_ <;> kernel_rfl
theorem leaf_no2 (t : Tr) (i : Nat) (hi : i < 8) : retL Tryz.prog tIsL fTIs 1000 4 (loopB ((bodyOf Tryz.prog fTIs).drop 2)) (leafI t i) [true, false, true] = some (tg (tg true (leafA (t.sg i)) false) (leafA (t.sl i)) true, [], .c (.bool false)) := by
  revert i
  refine all8 ?_ ?_ ?_ ?_ ?_ ?_ ?_ ?_ <;> kernel_rfl
theorem leaf_no3 (t : Tr) (i : Nat) (hi : i < 8) : retL Tryz.prog tIsL fTIs 1000 4 (loopB ((bodyOf Tryz.prog fTIs).drop 2)) (leafI t i) [true, false, false, true] = some (ty_ (tg (tg true (leafA (t.sg i)) false) (leafA (t.sl i)) false) (leafC (t.sg i) (t.sl i)), [], .c (.bool false)) := by
  revert i
  refine all8 ?_ ?_ ?_ ?_ ?_ ?_ ?_ ?_ <;> kernel_rfl

def nodeT (i : Nat) (b : Bool) : List Bool := [true, false, Nat.beq (i % 2) 0, b]
theorem node_yes (t : Tr) (i : Nat) (hi : i < 15) : stepL Tryz.prog tIsL 0 1000 4 (loopB ((bodyOf Tryz.prog fTIs).drop 4)) (nodeI t i) (nodeT i false) [] nodeCut = some (bif Nat.beq (i % 2) 0 then tn (tg true (leafA (t.nd i)) false) (nodeC (t.nd i)) else tg true (leafA (t.nd i)) false, [], nodeI t (i + 1)) := by
  revert i
  refine all15 ?_ ?_ ?_ ?_ ?_ ?_ ?_ ?_ ?_ ?_ ?_ ?_ ?_ ?_ ?_ <;> kernel_rfl
theorem node_no1 (t : Tr) (i : Nat) (hi : i < 15) : retL Tryz.prog tIsL fTIs 1000 4 (loopB ((bodyOf Tryz.prog fTIs).drop 4)) (nodeI t i) [true, true] = some (tg true (leafA (t.nd i)) true, [], .c (.bool false)) := by
  revert i
  refine all15 ?_ ?_ ?_ ?_ ?_ ?_ ?_ ?_ ?_ ?_ ?_ ?_ ?_ ?_ ?_ <;> kernel_rfl
theorem node_no2' (t : Tr) (j : Nat) (hj : j < 8) : retL Tryz.prog tIsL fTIs 1000 4 (loopB ((bodyOf Tryz.prog fTIs).drop 4)) (nodeI t (2 * j : Nat)) [true, false, true, true] = some (ty_ (tg true (leafA (t.nd (2 * j))) false) (nodeC (t.nd (2 * j))), [], .c (.bool false)) := by
  revert j
  refine all8 ?_ ?_ ?_ ?_ ?_ ?_ ?_ ?_ <;> kernel_rfl
theorem node_no2 (t : Tr) (i : Nat) (hi : i < 15) (he : Nat.beq (i % 2) 0 = true) : retL Tryz.prog tIsL fTIs 1000 4 (loopB ((bodyOf Tryz.prog fTIs).drop 4)) (nodeI t i) [true, false, true, true] = some (ty_ (tg true (leafA (t.nd i)) false) (nodeC (t.nd i)), [], .c (.bool false)) := by
  have h := Nat.eq_of_beq_eq_true he
  obtain ⟨j, rfl⟩ : ∃ j, i = 2 * j := ⟨i / 2, by omega⟩
  exact node_no2' t j (by omega)

def tIsC : Con := pureConB (fun | [.agg cs] => isTr cs | _ => true) fun | [.agg cs] => some (.c (.bool (isTS (Tr.of cs 0)))) | _ => none
theorem tIs_fn (t : Tr) (w : World) : Sx.Fn Tryz.prog fTIs (atW w 0) [.agg t.cs] [] 0 fun r _ => r = .c (.bool (isTS t)) := by
  refine Sx.Fn.of (nt := 51) (by kernel_rfl) rfl ?_
  refine SWs.stepL tIs_lib Sp.mixed (fuel := 1000) (n := 2) [] (un := []) (c := leafCut) (t := leafI t 0) (ob := true) (obs := []) (by kernel_rfl) rfl trivial ?_
  refine SWs.loop (by kernel_rfl) (fun i : Nat => leafI t i) (fun i => 8 - i) (fun i => i ≤ 8 ∧ leaves t i = true) 0 ⟨by omega, rfl⟩ ?_
  rintro i ⟨hi, hl⟩
  by_cases h8 : i = 8
  · subst h8
    refine SWs.outL tIs_lib Sp.mixed (fuel := 1000) (n := 2) [false] (un := []) (c := leafCut) (t := leafI t 8) (ob := true) (obs := []) (by kernel_rfl) rfl trivial ?_
    refine SWs.stepL tIs_lib Sp.mixed (fuel := 1000) (n := 1) [] (un := []) (c := nodeCut) (t := nodeI t 0) (ob := true) (obs := []) (by kernel_rfl) rfl trivial ?_
    refine SWs.loop (by kernel_rfl) (fun i : Nat => nodeI t i) (fun i => 15 - i) (fun i => i ≤ 15 ∧ nodes t i = true) 0 ⟨by omega, rfl⟩ ?_
    rintro i ⟨hi, hn⟩
    by_cases h15 : i = 15
    · subst h15
      refine SWs.outL tIs_lib Sp.mixed (fuel := 1000) (n := 2) [false] (un := []) (c := nodeCut) (t := nodeI t 15) (ob := true) (obs := []) (by kernel_rfl) rfl trivial ?_
      exact SWs.finvL tIs_lib Sp.mixed (fuel := 1000) (n := 100) [] (ob := true) (obs := []) (v := .c (.bool true)) (by kernel_rfl) rfl trivial (by unfold isTS; rw [hl, hn]; rfl)
    · have hi' : i < 15 := by omega
      cases hA : isKeyS (t.nd i) with
      | false =>
        refine SWs.retR tIs_lib Sp.mixed [true, true] (node_no1 t i hi') (tg_eq rfl (by unfold leafA; rw [hA]; rfl)) trivial fun _ => ?_
        rw [isTS_node hi' (by unfold nodeOk; rw [hA]; rfl)]
      | true =>
        have h1 : tg true (leafA (t.nd i)) false = true := tg_eq rfl (by unfold leafA; rw [hA]; rfl)
        cases hz : t.nd i == 0 with
        | true =>
          refine SWs.roundL tIs_lib Sp.mixed (nodeT i false) (node_yes t i hi') rfl ?_ trivial ⟨i + 1, ⟨by omega, ?_⟩, by omega, rfl⟩
          · rw [h1, tn_eq rfl (by unfold nodeC bne; rw [hz]; rfl)]; simp
          · simp [nodes, hn, nodeOk, hA, hz]
        | false =>
          cases he : Nat.beq (i % 2) 0 with
          | true =>
            refine SWs.retR tIs_lib Sp.mixed [true, false, true, true] (node_no2 t i hi' he) (ty_eq h1 (by unfold nodeC bne; rw [hz]; rfl)) trivial fun _ => ?_
            have : Nat.beq (i % 2) 1 = false := by
              have := Nat.eq_of_beq_eq_true he
              rw [this]; rfl
            rw [isTS_node hi' (by unfold nodeOk; rw [hA, hz, this]; rfl)]
          | false =>
            refine SWs.roundL tIs_lib Sp.mixed (nodeT i false) (node_yes t i hi') rfl ?_ trivial ⟨i + 1, ⟨by omega, ?_⟩, by omega, rfl⟩
            · rw [he, h1]; rfl
            · have h2 : i % 2 = 1 := by
                rcases Nat.mod_two_eq_zero_or_one i with h | h
                · rw [h] at he; cases he
                · exact h
              simp [nodes, hn, nodeOk, hA, h2]
  · have hi' : i < 8 := by omega
    cases hA : isKeyS (t.sg i) with
    | false =>
      refine SWs.retR tIs_lib Sp.mixed [true, true] (leaf_no1 t i hi') (tg_eq rfl (by unfold leafA; rw [hA]; rfl)) trivial fun _ => ?_
      rw [isTS_leaf hi' (by unfold leafOk; rw [hA]; rfl)]
    | true =>
      have h1 : tg true (leafA (t.sg i)) false = true := tg_eq rfl (by unfold leafA; rw [hA]; rfl)
      cases hB : isKeyS (t.sl i) with
      | false =>
        refine SWs.retR tIs_lib Sp.mixed [true, false, true] (leaf_no2 t i hi') (tg_eq h1 (by unfold leafA; rw [hB]; rfl)) trivial fun _ => ?_
        rw [isTS_leaf hi' (by unfold leafOk; rw [hA, hB]; rfl)]
      | true =>
        have h2 : tg (tg true (leafA (t.sg i)) false) (leafA (t.sl i)) false = true := tg_eq h1 (by unfold leafA; rw [hB]; rfl)
        cases hC : leafC (t.sg i) (t.sl i) with
        | true =>
          refine SWs.retR tIs_lib Sp.mixed [true, false, false, true] (leaf_no3 t i hi') (ty_eq h2 hC) trivial fun _ => ?_
          rw [isTS_leaf hi' (by unfold leafOk; unfold leafC at hC; rw [hA, hB]; simpa using hC)]
        | false =>
          refine SWs.roundL tIs_lib Sp.mixed [true, false, false, false] (leaf_yes t i hi') rfl (tn_eq h2 hC) trivial ⟨i + 1, ⟨by omega, ?_⟩, by omega, rfl⟩
          unfold leafC at hC
          simp only [Bool.not_eq_false'] at hC
          simp [leaves, hl, leafOk, hA, hB, hC]
theorem tIs_ok : ConOK Tryz.prog fTIs tIsC := by
  refine pureConB_ok (fn := Tryz.f79) (by kernel_rfl) rfl rfl fun args v hok h => ?_
  split at h <;> try (cases h; done)
  rename_i cs
  simp only [Option.some.injEq] at h; subst h
  simp only at hok
  have e := Tr.of_cs hok
  refine ⟨rfl, by rw [e]; rfl, fun w => ?_⟩
  generalize Tr.of cs 0 = t at e
  subst e
  exact tIs_fn t w

end Go.Proofs.YtabiknpgakhkkaaGreat.Vw
end

section
namespace Go.Proofs.YtabiknpgakhkkaaGreat.Vw
open Go.RowKit Go.Proofs.YtabiknpgakhkkaaGreat.Sx Go.Proofs.YtabiknpgakhkkaaGreat.Pw
set_option linter.unusedVariables false
set_option linter.unusedSimpArgs false

/-! The document's trees. -/
abbrev frTIs : Nat := 77
abbrev rtIsL : List (Nat × Con) := [(frIs, isC)]
theorem rtIs_lib : LibOK Tryz.prog rtIsL := LibOK.cons ris_ok (LibOK.nil _)
/-- Is somebody there? -/
def nz (s p : Int) : Bool := !((s == 0) && ((p == 0) && true))
def rtI (t : Tr) (i : Int) : St := ⟨[(1, .c (.ptr 0 0)), (2, .c (.bool false)), (3, .c (.int i))], [(0, some ⟨t.cs, tTree, false, true⟩)], 1, 51⟩
def rtCut : Cut := ⟨[(1, false), (2, true), (3, true)], [(0, 0, true)], 1⟩
def rnI (t : Tr) (i : Int) : St := ⟨[(1, .c (.ptr 0 0)), (2, .c (.bool false)), (5, .c (.int i))], [(0, some ⟨t.cs, tTree, false, true⟩)], 1, 51⟩
def rnCut : Cut := ⟨[(1, false), (2, true), (5, true)], [(0, 0, true)], 1⟩
theorem rleaf_z (t : Tr) (i : Nat) (hi : i < 8) : stepL Tryz.prog rtIsL 0 1000 4 (loopB ((bodyOf Tryz.prog frTIs).drop 2)) (rtI t i) [true, false, false] [] rtCut = some (tg true (nz (t.sg i) (t.sl i)) false, [], rtI t (i + 1)) := by
  revert i
  refine all8 ?_ ?_ ?_ ?_ ?_ ?_ ?_ ?_ <;> kernel_rfl
theorem rleaf_yes (t : Tr) (i : Nat) (hi : i < 8) : stepL Tryz.prog rtIsL 0 1000 4 (loopB ((bodyOf Tryz.prog frTIs).drop 2)) (rtI t i) [true, true, false, false] [] rtCut = some (tn (tg (tg true (nz (t.sg i) (t.sl i)) true) (!isS (t.sg i)) false) (!isS (t.sl i)), [], rtI t (i + 1)) := by
  revert i
  refine all8 ?_ ?_ ?_ ?_ ?_ ?_ ?_ ?_ <;> kernel_rfl
theorem rleaf_no1 (t : Tr) (i : Nat) (hi : i < 8) : retL Tryz.prog rtIsL frTIs 1000 4 (loopB ((bodyOf Tryz.prog frTIs).drop 2)) (rtI t i) [true, true, true] = some (tg (tg true (nz (t.sg i) (t.sl i)) true) (!isS (t.sg i)) true, [], .c (.bool false)) := by
  revert i
  refine all8 ?_ ?_ ?_ ?_ ?_ ?_ ?_ ?_ <;> kernel_rfl
theorem rleaf_no2 (t : Tr) (i : Nat) (hi : i < 8) : retL Tryz.prog rtIsL frTIs 1000 4 (loopB ((bodyOf Tryz.prog frTIs).drop 2)) (rtI t i) [true, true, false, true] = some (ty_ (tg (tg true (nz (t.sg i) (t.sl i)) true) (!isS (t.sg i)) false) (!isS (t.sl i)), [], .c (.bool false)) := by
  revert i
  refine all8 ?_ ?_ ?_ ?_ ?_ ?_ ?_ ?_ <;> kernel_rfl
theorem rnode_z (t : Tr) (i : Nat) (hi : i < 15) : stepL Tryz.prog rtIsL 0 1000 4 (loopB ((bodyOf Tryz.prog frTIs).drop 4)) (rnI t i) [true, false, false] [] rnCut = some (tg true (nodeC (t.nd i)) false, [], rnI t (i + 1)) := by
  revert i
  refine all15 ?_ ?_ ?_ ?_ ?_ ?_ ?_ ?_ ?_ ?_ ?_ ?_ ?_ ?_ ?_ <;> kernel_rfl
theorem all7 {p : Nat → Prop} (h0 : p 0) (h1 : p 1) (h2 : p 2) (h3 : p 3) (h4 : p 4) (h5 : p 5) (h6 : p 6) : ∀ i, i < 7 → p i := by
  intro i hi
  have : i = 0 ∨ i = 1 ∨ i = 2 ∨ i = 3 ∨ i = 4 ∨ i = 5 ∨ i = 6 := by omega
  rcases this with rfl | rfl | rfl | rfl | rfl | rfl | rfl <;> assumption
theorem rnode_yes' (t : Tr) (j : Nat) (hj : j < 7) : stepL Tryz.prog rtIsL 0 1000 4 (loopB ((bodyOf Tryz.prog frTIs).drop 4)) (rnI t (2 * j + 1 : Nat)) [true, true, false, false] [] rnCut = some (tn (tg true (nodeC (t.nd (2 * j + 1))) true) (!isS (t.nd (2 * j + 1))), [], rnI t ((2 * j + 1 : Nat) + 1)) := by
  revert j
  refine all7 ?_ ?_ ?_ ?_ ?_ ?_ ?_ <;> kernel_rfl
theorem rnode_no1' (t : Tr) (j : Nat) (hj : j < 7) : retL Tryz.prog rtIsL frTIs 1000 4 (loopB ((bodyOf Tryz.prog frTIs).drop 4)) (rnI t (2 * j + 1 : Nat)) [true, true, false, true] = some (ty_ (tg true (nodeC (t.nd (2 * j + 1))) true) (!isS (t.nd (2 * j + 1))), [], .c (.bool false)) := by
  revert j
  refine all7 ?_ ?_ ?_ ?_ ?_ ?_ ?_ <;> kernel_rfl
theorem rnode_no2' (t : Tr) (j : Nat) (hj : j < 8) : retL Tryz.prog rtIsL frTIs 1000 4 (loopB ((bodyOf Tryz.prog frTIs).drop 4)) (rnI t (2 * j : Nat)) [true, true, true] = some (tg true (nodeC (t.nd (2 * j))) true, [], .c (.bool false)) := by
  revert j
  refine all8 ?_ ?_ ?_ ?_ ?_ ?_ ?_ ?_ <;> kernel_rfl

theorem isS_0 : isS 0 = false := rfl
theorem isS_ne {n : Int} (h : isS n = true) : (n == 0) = false := by
  cases hn : n == 0 with
  | false => rfl
  | true =>
    rw [beq_iff_eq] at hn; subst hn; rw [isS_0] at h; cases h
theorem leafOk_z {s p : Int} (h : nz s p = false) : leafOk s p = true := by
  unfold nz at h
  simp only [Bool.and_true, Bool.not_eq_false', Bool.and_eq_true] at h
  unfold leafOk isKeyS
  rw [h.1, h.2]; rfl
theorem leafOk_yes {s p : Int} (h1 : isS s = true) (h2 : isS p = true) : leafOk s p = true := by
  unfold leafOk isKeyS
  rw [isS_ne h1, isS_ne h2, h1, h2]; rfl
theorem leafOk_no1 {s p : Int} (h : nz s p = true) (h1 : isS s = false) : leafOk s p = false := by
  unfold nz at h
  unfold leafOk isKeyS
  cases hs : s == 0 with
  | true =>
    rw [hs] at h
    simp only [Bool.and_true, Bool.true_and, Bool.not_eq_true'] at h
    rw [h]
    cases isS p <;> rfl
  | false => rw [h1]; rfl
theorem leafOk_no2 {s p : Int} (h : nz s p = true) (h1 : isS p = false) : leafOk s p = false := by
  unfold nz at h
  unfold leafOk isKeyS
  cases hp : p == 0 with
  | true =>
    rw [hp] at h
    simp only [Bool.and_true, Bool.not_eq_true'] at h
    rw [h]
    cases isS s <;> rfl
  | false => rw [h1]; simp

theorem rtIs_fn (t : Tr) (w : World) : Sx.Fn Tryz.prog frTIs (atW w 0) [.agg t.cs] [] 0 fun r _ => r = .c (.bool (isTS t)) := by
  refine Sx.Fn.of (nt := 51) (by kernel_rfl) rfl ?_
  refine SWs.stepL rtIs_lib Sp.mixed (fuel := 1000) (n := 2) [] (un := []) (c := rtCut) (t := rtI t 0) (ob := true) (obs := []) (by kernel_rfl) rfl trivial ?_
  refine SWs.loop (by kernel_rfl) (fun i : Nat => rtI t i) (fun i => 8 - i) (fun i => i ≤ 8 ∧ leaves t i = true) 0 ⟨by omega, rfl⟩ ?_
  rintro i ⟨hi, hl⟩
  by_cases h8 : i = 8
  · subst h8
    refine SWs.outL rtIs_lib Sp.mixed (fuel := 1000) (n := 2) [false] (un := []) (c := rtCut) (t := rtI t 8) (ob := true) (obs := []) (by kernel_rfl) rfl trivial ?_
    refine SWs.stepL rtIs_lib Sp.mixed (fuel := 1000) (n := 1) [] (un := []) (c := rnCut) (t := rnI t 0) (ob := true) (obs := []) (by kernel_rfl) rfl trivial ?_
    refine SWs.loop (by kernel_rfl) (fun i : Nat => rnI t i) (fun i => 15 - i) (fun i => i ≤ 15 ∧ nodes t i = true) 0 ⟨by omega, rfl⟩ ?_
    rintro i ⟨hi, hn⟩
    by_cases h15 : i = 15
    · subst h15
      refine SWs.outL rtIs_lib Sp.mixed (fuel := 1000) (n := 2) [false] (un := []) (c := rnCut) (t := rnI t 15) (ob := true) (obs := []) (by kernel_rfl) rfl trivial ?_
      exact SWs.finvL rtIs_lib Sp.mixed (fuel := 1000) (n := 100) [] (ob := true) (obs := []) (v := .c (.bool true)) (by kernel_rfl) rfl trivial (by unfold isTS; rw [hl, hn]; rfl)
    · have hi' : i < 15 := by omega
      cases hz : nodeC (t.nd i) with
      | false =>
        refine SWs.roundL rtIs_lib Sp.mixed [true, false, false] (rnode_z t i hi') rfl (tg_eq rfl hz) trivial ⟨i + 1, ⟨by omega, ?_⟩, by omega, rfl⟩
        unfold nodeC bne at hz
        simp only [Bool.not_eq_false'] at hz
        simp [nodes, hn, nodeOk, isKeyS, hz]
      | true =>
        have hz0 : (t.nd i == 0) = false := by unfold nodeC bne at hz; simpa using hz
        rcases Nat.mod_two_eq_zero_or_one i with h | h
        · obtain ⟨j, rfl⟩ : ∃ j, i = 2 * j := ⟨i / 2, by omega⟩
          refine SWs.retR rtIs_lib Sp.mixed [true, true, true] (rnode_no2' t j (by omega)) (tg_eq rfl hz) trivial fun _ => ?_
          rw [isTS_node hi' (by unfold nodeOk; rw [hz0, h]; cases isKeyS (t.nd (2 * j)) <;> rfl)]
        · obtain ⟨j, rfl⟩ : ∃ j, i = 2 * j + 1 := ⟨i / 2, by omega⟩
          cases hA : isS (t.nd (2 * j + 1)) with
          | true =>
            refine SWs.roundL rtIs_lib Sp.mixed [true, true, false, false] (rnode_yes' t j (by omega)) rfl (tn_eq (tg_eq rfl hz) (by rw [hA]; rfl)) trivial ⟨2 * j + 1 + 1, ⟨by omega, ?_⟩, by omega, rfl⟩
            have e : nodes t (2 * j + 1 + 1) = (nodes t (2 * j + 1) && nodeOk (2 * j + 1) (t.nd (2 * j + 1))) := rfl
            rw [e, hn]
            unfold nodeOk isKeyS
            rw [hz0, hA, h]; rfl
          | false =>
            refine SWs.retR rtIs_lib Sp.mixed [true, true, false, true] (rnode_no1' t j (by omega)) (ty_eq (tg_eq rfl hz) (by rw [hA]; rfl)) trivial fun _ => ?_
            rw [isTS_node hi' (by unfold nodeOk isKeyS; rw [hz0, hA]; rfl)]
  · have hi' : i < 8 := by omega
    cases hz : nz (t.sg i) (t.sl i) with
    | false =>
      refine SWs.roundL rtIs_lib Sp.mixed [true, false, false] (rleaf_z t i hi') rfl (tg_eq rfl hz) trivial ⟨i + 1, ⟨by omega, ?_⟩, by omega, rfl⟩
      simp [leaves, hl, leafOk_z hz]
    | true =>
      cases hA : isS (t.sg i) with
      | false =>
        refine SWs.retR rtIs_lib Sp.mixed [true, true, true] (rleaf_no1 t i hi') (tg_eq (tg_eq rfl hz) (by rw [hA]; rfl)) trivial fun _ => ?_
        rw [isTS_leaf hi' (leafOk_no1 hz hA)]
      | true =>
        cases hB : isS (t.sl i) with
        | false =>
          refine SWs.retR rtIs_lib Sp.mixed [true, true, false, true] (rleaf_no2 t i hi') (ty_eq (tg_eq (tg_eq rfl hz) (by rw [hA]; rfl)) (by rw [hB]; rfl)) trivial fun _ => ?_
          rw [isTS_leaf hi' (leafOk_no2 hz hB)]
        | true =>
          refine SWs.roundL rtIs_lib Sp.mixed [true, true, false, false] (rleaf_yes t i hi') rfl (tn_eq (tg_eq (tg_eq rfl hz) (by rw [hA]; rfl)) (by rw [hB]; rfl)) trivial ⟨i + 1, ⟨by omega, ?_⟩, by omega, rfl⟩
          simp [leaves, hl, leafOk_yes hA hB]
theorem rtIs_ok : ConOK Tryz.prog frTIs tIsC := by
  refine pureConB_ok (fn := Tryz.f77) (by kernel_rfl) rfl rfl fun args v hok h => ?_
  split at h <;> try (cases h; done)
  rename_i cs
  simp only [Option.some.injEq] at h; subst h
  simp only at hok
  have e := Tr.of_cs hok
  refine ⟨rfl, by rw [e]; rfl, fun w => ?_⟩
  generalize Tr.of cs 0 = t at e
  subst e
  exact rtIs_fn t w

end Go.Proofs.YtabiknpgakhkkaaGreat.Vw
end

section
namespace Go.Proofs.YtabiknpgakhkkaaGreat.Vw
open Go.RowKit Go.Proofs.YtabiknpgakhkkaaGreat.Sx Go.Proofs.YtabiknpgakhkkaaGreat.Pw
set_option linter.unusedVariables false
set_option linter.unusedSimpArgs false

abbrev tView : Nat := 32
abbrev fMem : Nat := 51
abbrev frMem : Nat := 43
def memT (t : Tr) (i : Nat) : Bool := nz (t.sg i) (t.sl i)
def memI (v : Vi) (n : Int) : Bool := bif decide (n ≥ 0) then (bif decide (n < 8) then memT v.t n.toNat else false) else false
theorem memI_in {v : Vi} {i : Nat} (hi : i < 8) : memI v i = memT v.t i := by
  unfold memI
  rw [decide_eq_true (by omega), decide_eq_true (by omega)]; rfl
def memC : Con := pureConB (fun | [.agg cs, .c (.int n)] => isVi cs | _ => true) fun | [.agg cs, .c (.int n)] => some (.c (.bool (memI (Vi.of cs) n))) | _ => none
theorem mem_at (v : Vi) (i : Nat) (hi : i < 8) : (xfunL Tryz.prog [] 1000 fMem [.agg v.cs, .c (.int i)] [] 0 []).map (fun q => (q.1, q.2.1, q.2.2.1)) = some (true, [], .c (.bool (memT v.t i))) := by
  revert i
  refine all8 ?_ ?_ ?_ ?_ ?_ ?_ ?_ ?_ <;> kernel_rfl
theorem rmem_at (v : Vi) (i : Nat) (hi : i < 8) : (xfunL Tryz.prog [] 1000 frMem [.agg v.cs, .c (.int i)] [] 0 []).map (fun q => (q.1, q.2.1, q.2.2.1)) = some (true, [], .c (.bool (memT v.t i))) := by
  revert i
  refine all8 ?_ ?_ ?_ ?_ ?_ ?_ ?_ ?_ <;> kernel_rfl
theorem mem_fn (v : Vi) (n : Int) (w : World) : Sx.Fn Tryz.prog fMem (atW w 0) [.agg v.cs, .c (.int n)] [] 0 fun r _ => r = .c (.bool (memI v n)) := by
  cases h1 : decide (n ≥ 0) with
  | false => exact Fn.xvL (fuel := 1000) (LibOK.nil _) Sp.mixed [false] (r := .c (.bool false)) (ob := tg true (decide (n ≥ 0)) false) (obs := []) (by kernel_rfl) (tg_eq rfl h1) trivial (by unfold memI; rw [h1]; rfl)
  | true =>
    cases h2 : decide (n < 8) with
    | false => exact Fn.xvL (fuel := 1000) (LibOK.nil _) Sp.mixed [true, false] (r := .c (.bool false)) (ob := tg (tg true (decide (n ≥ 0)) true) (decide (n < 8)) false) (obs := []) (by kernel_rfl) (tg_eq (tg_eq rfl h1) h2) trivial (by unfold memI; rw [h1, h2]; rfl)
    | true =>
      rw [decide_eq_true_eq] at h1 h2
      obtain ⟨i, rfl⟩ : ∃ i : Nat, n = i := ⟨n.toNat, by omega⟩
      exact Fn.xvL (LibOK.nil _) Sp.mixed [] (mem_at v i (by omega)) rfl trivial (by rw [memI_in (by omega)])
theorem rmem_fn (v : Vi) (n : Int) (w : World) : Sx.Fn Tryz.prog frMem (atW w 0) [.agg v.cs, .c (.int n)] [] 0 fun r _ => r = .c (.bool (memI v n)) := by
  cases h1 : decide (n ≥ 0) with
  | false => exact Fn.xvL (fuel := 1000) (LibOK.nil _) Sp.mixed [false] (r := .c (.bool false)) (ob := tg true (decide (n ≥ 0)) false) (obs := []) (by kernel_rfl) (tg_eq rfl h1) trivial (by unfold memI; rw [h1]; rfl)
  | true =>
    cases h2 : decide (n < 8) with
    | false => exact Fn.xvL (fuel := 1000) (LibOK.nil _) Sp.mixed [true, false] (r := .c (.bool false)) (ob := tg (tg true (decide (n ≥ 0)) true) (decide (n < 8)) false) (obs := []) (by kernel_rfl) (tg_eq (tg_eq rfl h1) h2) trivial (by unfold memI; rw [h1, h2]; rfl)
    | true =>
      rw [decide_eq_true_eq] at h1 h2
      obtain ⟨i, rfl⟩ : ∃ i : Nat, n = i := ⟨n.toNat, by omega⟩
      exact Fn.xvL (LibOK.nil _) Sp.mixed [] (rmem_at v i (by omega)) rfl trivial (by rw [memI_in (by omega)])
theorem mem_ok : ConOK Tryz.prog fMem memC := by
  refine pureConB_ok (fn := Tryz.f51) (by kernel_rfl) rfl rfl fun args v hok h => ?_
  split at h <;> try (cases h; done)
  rename_i cs n
  simp only [Option.some.injEq] at h; subst h
  simp only at hok
  have e := Vi.of_cs hok
  refine ⟨rfl, by rw [e]; rfl, fun w => ?_⟩
  generalize Vi.of cs = t at e
  subst e
  exact mem_fn t n w
theorem rmem_ok : ConOK Tryz.prog frMem memC := by
  refine pureConB_ok (fn := Tryz.f43) (by kernel_rfl) rfl rfl fun args v hok h => ?_
  split at h <;> try (cases h; done)
  rename_i cs n
  simp only [Option.some.injEq] at h; subst h
  simp only at hok
  have e := Vi.of_cs hok
  refine ⟨rfl, by rw [e]; rfl, fun w => ?_⟩
  generalize Vi.of cs = t at e
  subst e
  exact rmem_fn t n w

theorem wrapN {n : Int} (h0 : 0 ≤ n) (h1 : n < 4611686018427387904) : IntKind.i64.wrap n = n := by rw [IntKind.wrap_i64]; omega

/-! Admins. -/
abbrev fAdm : Nat := 53
abbrev frAdm : Nat := 46
def cnt (v : Vi) : Nat → Int
  | 0 => 0
  | i + 1 => bif v.ad i then cnt v i + 1 else cnt v i
theorem cnt_bd (v : Vi) : ∀ i, 0 ≤ cnt v i ∧ cnt v i ≤ i
  | 0 => ⟨Int.le_refl _, Int.le_refl _⟩
  | i + 1 => by
    have := cnt_bd v i
    unfold cnt
    cases v.ad i
    · simp only [cond_false]; omega
    · simp only [cond_true]; omega
def allMem (v : Vi) : Nat → Bool
  | 0 => true
  | i + 1 => allMem v i && (!(v.ad i) || memT v.t i)
theorem allMem_le {v : Vi} : ∀ {n i : Nat}, allMem v n = true → i < n → v.ad i = true → memT v.t i = true
  | 0, i, _, h, _ => absurd h (by omega)
  | n + 1, i, h, hi, ha => by
    simp only [allMem, Bool.and_eq_true] at h
    by_cases hin : i = n
    · subst hin; simpa [ha] using h.2
    · exact allMem_le h.1 (by omega) ha
theorem allMem_no {v : Vi} {i : Nat} (hi : i < 8) (ha : v.ad i = true) (hm : memT v.t i = false) : allMem v 8 = false := by
  cases hh : allMem v 8 with
  | false => rfl
  | true => rw [allMem_le hh hi ha] at hm; cases hm
def admS (v : Vi) : Int := bif allMem v 8 then cnt v 8 else -1
abbrev admL : List (Nat × Con) := [(fMem, memC)]
theorem adm_lib : LibOK Tryz.prog admL := LibOK.cons mem_ok (LibOK.nil _)
def admI (v : Vi) (i n : Int) : St := ⟨[(1, .c (.ptr 0 0)), (2, .c (.int 0)), (3, .c (.int n)), (7, .agg (adC v.ad)), (8, .c (.int i))], [(0, some ⟨v.cs, tView, false, true⟩)], 1, 24⟩
def admCut : Cut := ⟨[(1, false), (2, true), (3, true), (7, true), (8, true)], [(0, 0, true)], 1⟩
theorem adm_z (v : Vi) (n : Int) (i : Nat) (hi : i < 8) : stepL Tryz.prog admL 0 1000 4 (loopB ((bodyOf Tryz.prog fAdm).drop 3)) (admI v i n) [true, false, false, false] [] admCut = some (tn (tg true (v.ad i) false) (v.ad i), [], admI v (i + 1) n) := by
  revert i
  refine all8 ?_ ?_ ?_ ?_ ?_ ?_ ?_ ?_ <;> kernel_rfl
theorem adm_yes (v : Vi) (n : Int) (i : Nat) (hi : i < 8) : stepL Tryz.prog admL 0 1000 4 (loopB ((bodyOf Tryz.prog fAdm).drop 3)) (admI v i n) [true, true, false, true] [] admCut = some (ty_ (tn (tg true (v.ad i) true) (!memI v i)) (v.ad i), [], admI v (i + 1) (IntKind.i64.wrap (n + 1))) := by
  revert i
  refine all8 ?_ ?_ ?_ ?_ ?_ ?_ ?_ ?_ <;> kernel_rfl
theorem adm_no (v : Vi) (n : Int) (i : Nat) (hi : i < 8) : retL Tryz.prog admL fAdm 1000 4 (loopB ((bodyOf Tryz.prog fAdm).drop 3)) (admI v i n) [true, true, true] = some (ty_ (tg true (v.ad i) true) (!memI v i), [], .c (.int (-1))) := by
  revert i
  refine all8 ?_ ?_ ?_ ?_ ?_ ?_ ?_ ?_ <;> kernel_rfl
theorem adm_fn (v : Vi) (w : World) : Sx.Fn Tryz.prog fAdm (atW w 0) [.agg v.cs] [] 0 fun r _ => r = .c (.int (admS v)) := by
  refine Sx.Fn.of (nt := 24) (by kernel_rfl) rfl ?_
  refine SWs.stepL adm_lib Sp.mixed (fuel := 1000) (n := 3) [] (un := []) (c := admCut) (t := admI v 0 (cnt v 0)) (ob := true) (obs := []) (by kernel_rfl) rfl trivial ?_
  refine SWs.loop (by kernel_rfl) (fun i : Nat => admI v i (cnt v i)) (fun i => 8 - i) (fun i => i ≤ 8 ∧ allMem v i = true) 0 ⟨by omega, rfl⟩ ?_
  rintro i ⟨hi, hl⟩
  by_cases h8 : i = 8
  · subst h8
    refine SWs.outL adm_lib Sp.mixed (fuel := 1000) (n := 2) [false] (un := []) (c := admCut) (t := admI v 8 (cnt v 8)) (ob := true) (obs := []) (by kernel_rfl) rfl trivial ?_
    exact SWs.finvL adm_lib Sp.mixed (fuel := 1000) (n := 100) [] (ob := true) (obs := []) (v := .c (.int (cnt v 8))) (by kernel_rfl) rfl trivial (by unfold admS; rw [hl]; rfl)
  · have hi' : i < 8 := by omega
    have hb := cnt_bd v i
    cases ha : v.ad i with
    | false =>
      refine SWs.roundL adm_lib Sp.mixed [true, false, false, false] (adm_z v _ i hi') rfl (tn_eq (tg_eq rfl ha) ha) trivial ⟨i + 1, ⟨by omega, ?_⟩, by omega, ?_⟩
      · simp [allMem, hl, ha]
      · have e : cnt v (i + 1) = cnt v i := by show (bif v.ad i then cnt v i + 1 else cnt v i) = cnt v i; rw [ha]; rfl
        simp only [e]; rfl
    | true =>
      cases hm : memT v.t i with
      | false =>
        refine SWs.retR adm_lib Sp.mixed [true, true, true] (adm_no v _ i hi') (ty_eq (tg_eq rfl ha) (by rw [memI_in hi', hm]; rfl)) trivial fun _ => ?_
        unfold admS
        rw [allMem_no hi' ha hm]; rfl
      | true =>
        refine SWs.roundL adm_lib Sp.mixed [true, true, false, true] (adm_yes v _ i hi') rfl (ty_eq (tn_eq (tg_eq rfl ha) (by rw [memI_in hi', hm]; rfl)) ha) trivial ⟨i + 1, ⟨by omega, ?_⟩, by omega, ?_⟩
        · simp [allMem, hl, ha, hm]
        · have e : cnt v (i + 1) = cnt v i + 1 := by show (bif v.ad i then cnt v i + 1 else cnt v i) = cnt v i + 1; rw [ha]; rfl
          have ew : IntKind.i64.wrap (cnt v i + 1) = cnt v i + 1 := wrapN (by omega) (by omega)
          simp only [e, ew]; rfl
def radmI (v : Vi) (i n : Int) : St := ⟨[(1, .c (.ptr 0 0)), (2, .c (.int 0)), (3, .c (.int n)), (4, .c (.int i))], [(0, some ⟨v.cs, tView, false, true⟩)], 1, 16⟩
def radmCut : Cut := ⟨[(1, false), (2, true), (3, true), (4, true)], [(0, 0, true)], 1⟩
theorem radm_z (v : Vi) (n : Int) (i : Nat) (hi : i < 8) : stepL Tryz.prog [] 0 1000 4 (loopB ((bodyOf Tryz.prog frAdm).drop 3)) (radmI v i n) [true, false] [] radmCut = some (tn true (v.ad i), [], radmI v (i + 1) n) := by
  revert i
  refine all8 ?_ ?_ ?_ ?_ ?_ ?_ ?_ ?_ <;> kernel_rfl
theorem radm_yes (v : Vi) (n : Int) (i : Nat) (hi : i < 8) : stepL Tryz.prog [] 0 1000 4 (loopB ((bodyOf Tryz.prog frAdm).drop 3)) (radmI v i n) [true, true] [] radmCut = some (ty_ true (v.ad i), [], radmI v (i + 1) (IntKind.i64.wrap (n + 1))) := by
  revert i
  refine all8 ?_ ?_ ?_ ?_ ?_ ?_ ?_ ?_ <;> kernel_rfl
theorem radm_fn (v : Vi) (w : World) : Sx.Fn Tryz.prog frAdm (atW w 0) [.agg v.cs] [] 0 fun r _ => r = .c (.int (cnt v 8)) := by
  refine Sx.Fn.of (nt := 16) (by kernel_rfl) rfl ?_
  refine SWs.stepL (LibOK.nil _) Sp.mixed (fuel := 1000) (n := 3) [] (un := []) (c := radmCut) (t := radmI v 0 (cnt v 0)) (ob := true) (obs := []) (by kernel_rfl) rfl trivial ?_
  refine SWs.loop (by kernel_rfl) (fun i : Nat => radmI v i (cnt v i)) (fun i => 8 - i) (fun i => i ≤ 8) 0 (by omega) ?_
  rintro i hi
  by_cases h8 : i = 8
  · subst h8
    refine SWs.outL (LibOK.nil _) Sp.mixed (fuel := 1000) (n := 2) [false] (un := []) (c := radmCut) (t := radmI v 8 (cnt v 8)) (ob := true) (obs := []) (by kernel_rfl) rfl trivial ?_
    exact SWs.finvL (LibOK.nil _) Sp.mixed (fuel := 1000) (n := 100) [] (ob := true) (obs := []) (v := .c (.int (cnt v 8))) (by kernel_rfl) rfl trivial rfl
  · have hi' : i < 8 := by omega
    have hb := cnt_bd v i
    cases ha : v.ad i with
    | false =>
      refine SWs.roundL (LibOK.nil _) Sp.mixed [true, false] (radm_z v _ i hi') rfl (tn_eq rfl ha) trivial ⟨i + 1, by omega, by omega, ?_⟩
      have e : cnt v (i + 1) = cnt v i := by show (bif v.ad i then cnt v i + 1 else cnt v i) = cnt v i; rw [ha]; rfl
      simp only [e]; rfl
    | true =>
      refine SWs.roundL (LibOK.nil _) Sp.mixed [true, true] (radm_yes v _ i hi') rfl (ty_eq rfl ha) trivial ⟨i + 1, by omega, by omega, ?_⟩
      have e : cnt v (i + 1) = cnt v i + 1 := by show (bif v.ad i then cnt v i + 1 else cnt v i) = cnt v i + 1; rw [ha]; rfl
      have ew : IntKind.i64.wrap (cnt v i + 1) = cnt v i + 1 := wrapN (by omega) (by omega)
      simp only [e, ew]; rfl
/-- Contracts of functions of one view. -/
def viC (f : Vi → SV) : Con := pureConB (fun | [.agg cs] => isVi cs | _ => true) fun | [.agg cs] => some (f (Vi.of cs)) | _ => none
theorem viC_ok {f : FuncId} {g : Vi → SV} {fn : Func} (hf : Tryz.prog.funcs[f]? = some fn) (hn : (fn.name == "runtime.NumGoroutine") = false) (hb : fn.body.isNone = false) (hg : ∀ v, (g v).sole = true)
    (h : ∀ v w, Sx.Fn Tryz.prog f (atW w 0) [.agg v.cs] [] 0 fun r _ => r = g v) : ConOK Tryz.prog f (viC g) := by
  refine pureConB_ok hf hn hb fun args v hok he => ?_
  split at he <;> try (cases he; done)
  rename_i cs
  simp only [Option.some.injEq] at he; subst he
  simp only at hok
  have e := Vi.of_cs hok
  refine ⟨hg _, by rw [e]; rfl, fun w => ?_⟩
  generalize Vi.of cs = t at e
  subst e
  exact h t w
def admC : Con := viC fun v => .c (.int (admS v))
theorem adm_ok : ConOK Tryz.prog fAdm admC := viC_ok (fn := Tryz.f53) (by kernel_rfl) rfl rfl (fun _ => rfl) adm_fn
def radmC : Con := viC fun v => .c (.int (cnt v 8))
theorem radm_ok : ConOK Tryz.prog frAdm radmC := viC_ok (fn := Tryz.f46) (by kernel_rfl) rfl rfl (fun _ => rfl) radm_fn

/-! Views that may be. -/
abbrev fVIs : Nat := 49
abbrev frVIs : Nat := 41
def e0 (v : Vi) : Bool := decide (v.ep ≥ 0)
def e1' (v : Vi) : Bool := decide (v.ep ≤ 1099511627776)
def k1 (v : Vi) : Bool := decide (v.k ≥ 1)
def isVS (v : Vi) : Bool := e0 v && (e1' v && (isTS v.t && (k1 v && decide (v.k ≤ admS v))))
abbrev vIsL : List (Nat × Con) := [(fTIs, tIsC), (fAdm, admC)]
theorem vIs_lib : LibOK Tryz.prog vIsL := LibOK.cons tIs_ok (LibOK.cons adm_ok (LibOK.nil _))
theorem vIs_fn (v : Vi) (w : World) : Sx.Fn Tryz.prog fVIs (atW w 0) [.agg v.cs] [] 0 fun r _ => r = .c (.bool (isVS v)) := by
  cases h1 : e0 v with
  | false => exact Fn.xvL (fuel := 1000) vIs_lib Sp.mixed [false] (r := .c (.bool false)) (ob := tg true (e0 v) false) (obs := []) (by kernel_rfl) (tg_eq rfl h1) trivial (by unfold isVS; rw [h1]; rfl)
  | true =>
  cases h2 : e1' v with
  | false => exact Fn.xvL (fuel := 1000) vIs_lib Sp.mixed [true, false] (r := .c (.bool false)) (ob := tg (tg true (e0 v) true) (e1' v) false) (obs := []) (by kernel_rfl) (tg_eq (tg_eq rfl h1) h2) trivial (by unfold isVS; rw [h1, h2]; rfl)
  | true =>
  cases h3 : isTS v.t with
  | false => exact Fn.xvL (fuel := 1000) vIs_lib Sp.mixed [true, true, false] (r := .c (.bool false)) (ob := tg (tg (tg true (e0 v) true) (e1' v) true) (isTS v.t) false) (obs := []) (by kernel_rfl) (tg_eq (tg_eq (tg_eq rfl h1) h2) h3) trivial (by unfold isVS; rw [h1, h2, h3]; rfl)
  | true =>
  cases h4 : k1 v with
  | false => exact Fn.xvL (fuel := 1000) vIs_lib Sp.mixed [true, true, true, false] (r := .c (.bool false)) (ob := tg (tg (tg (tg true (e0 v) true) (e1' v) true) (isTS v.t) true) (k1 v) false) (obs := []) (by kernel_rfl) (tg_eq (tg_eq (tg_eq (tg_eq rfl h1) h2) h3) h4) trivial (by unfold isVS; rw [h1, h2, h3, h4]; rfl)
  | true => exact Fn.xvL (fuel := 1000) vIs_lib Sp.mixed [true, true, true, true] (r := .c (.bool (decide (v.k ≤ admS v)))) (ob := tg (tg (tg (tg true (e0 v) true) (e1' v) true) (isTS v.t) true) (k1 v) true) (obs := []) (by kernel_rfl) (tg_eq (tg_eq (tg_eq (tg_eq rfl h1) h2) h3) h4) trivial (by unfold isVS; rw [h1, h2, h3, h4]; simp)
def vIsC : Con := viC fun v => .c (.bool (isVS v))
theorem vIs_ok : ConOK Tryz.prog fVIs vIsC := viC_ok (fn := Tryz.f49) (by kernel_rfl) rfl rfl (fun _ => rfl) vIs_fn

abbrev rvIsL : List (Nat × Con) := [(frTIs, tIsC), (frAdm, radmC), (frMem, memC)]
theorem rvIs_lib : LibOK Tryz.prog rvIsL := LibOK.cons rtIs_ok (LibOK.cons radm_ok (LibOK.cons rmem_ok (LibOK.nil _)))
def rvI (v : Vi) (i : Int) : St := ⟨[(1, .c (.ptr 0 0)), (2, .c (.bool false)), (3, .c (.int i))], [(0, some ⟨v.cs, tView, false, true⟩)], 1, 43⟩
def rvCut : Cut := ⟨[(1, false), (2, true), (3, true)], [(0, 0, true)], 1⟩
theorem rv_z (v : Vi) (i : Nat) (hi : i < 8) : stepL Tryz.prog rvIsL 0 1000 4 (loopB ((bodyOf Tryz.prog frVIs).drop 2)) (rvI v i) [true, false, false] [] rvCut = some (tg true (v.ad i) false, [], rvI v (i + 1)) := by
  revert i
  refine all8 ?_ ?_ ?_ ?_ ?_ ?_ ?_ ?_ <;> kernel_rfl
theorem rv_yes (v : Vi) (i : Nat) (hi : i < 8) : stepL Tryz.prog rvIsL 0 1000 4 (loopB ((bodyOf Tryz.prog frVIs).drop 2)) (rvI v i) [true, true, false] [] rvCut = some (tn (tg true (v.ad i) true) (!memI v i), [], rvI v (i + 1)) := by
  revert i
  refine all8 ?_ ?_ ?_ ?_ ?_ ?_ ?_ ?_ <;> kernel_rfl
theorem rv_no (v : Vi) (i : Nat) (hi : i < 8) : retL Tryz.prog rvIsL frVIs 1000 4 (loopB ((bodyOf Tryz.prog frVIs).drop 2)) (rvI v i) [true, true, true] = some (ty_ (tg true (v.ad i) true) (!memI v i), [], .c (.bool false)) := by
  revert i
  refine all8 ?_ ?_ ?_ ?_ ?_ ?_ ?_ ?_ <;> kernel_rfl
theorem isVS_no {v : Vi} (h : allMem v 8 = false) : isVS v = false := by
  unfold isVS admS k1
  rw [h]
  cases hk : decide (v.k ≥ 1) with
  | false => simp
  | true =>
    rw [decide_eq_true_eq] at hk
    have : decide (v.k ≤ bif false then cnt v 8 else -1) = false := by
      rw [decide_eq_false_iff_not]
      simp only [cond_false]; omega
    rw [this]; simp
theorem rvIs_fn (v : Vi) (w : World) : Sx.Fn Tryz.prog frVIs (atW w 0) [.agg v.cs] [] 0 fun r _ => r = .c (.bool (isVS v)) := by
  refine Sx.Fn.of (nt := 43) (by kernel_rfl) rfl ?_
  refine SWs.stepL rvIs_lib Sp.mixed (fuel := 1000) (n := 2) [] (un := []) (c := rvCut) (t := rvI v 0) (ob := true) (obs := []) (by kernel_rfl) rfl trivial ?_
  refine SWs.loop (by kernel_rfl) (fun i : Nat => rvI v i) (fun i => 8 - i) (fun i => i ≤ 8 ∧ allMem v i = true) 0 ⟨by omega, rfl⟩ ?_
  rintro i ⟨hi, hl⟩
  by_cases h8 : i = 8
  · subst h8
    refine SWs.outL rvIs_lib Sp.mixed (fuel := 1000) (n := 2) [false] (un := []) (c := rvCut) (t := rvI v 8) (ob := true) (obs := []) (by kernel_rfl) rfl trivial ?_
    have hadm : admS v = cnt v 8 := by unfold admS; rw [hl]; rfl
    cases h1 : e0 v with
    | false => exact SWs.finvL rvIs_lib Sp.mixed (fuel := 1000) (n := 100) [false] (v := .c (.bool false)) (ob := tg true (e0 v) false) (obs := []) (by kernel_rfl) (tg_eq rfl h1) trivial (by unfold isVS; rw [h1]; rfl)
    | true =>
    cases h2 : e1' v with
    | false => exact SWs.finvL rvIs_lib Sp.mixed (fuel := 1000) (n := 100) [true, false] (v := .c (.bool false)) (ob := tg (tg true (e0 v) true) (e1' v) false) (obs := []) (by kernel_rfl) (tg_eq (tg_eq rfl h1) h2) trivial (by unfold isVS; rw [h1, h2]; rfl)
    | true =>
    cases h3 : isTS v.t with
    | false => exact SWs.finvL rvIs_lib Sp.mixed (fuel := 1000) (n := 100) [true, true, false] (v := .c (.bool false)) (ob := tg (tg (tg true (e0 v) true) (e1' v) true) (isTS v.t) false) (obs := []) (by kernel_rfl) (tg_eq (tg_eq (tg_eq rfl h1) h2) h3) trivial (by unfold isVS; rw [h1, h2, h3]; rfl)
    | true =>
    cases h4 : k1 v with
    | false => exact SWs.finvL rvIs_lib Sp.mixed (fuel := 1000) (n := 100) [true, true, true, false] (v := .c (.bool false)) (ob := tg (tg (tg (tg true (e0 v) true) (e1' v) true) (isTS v.t) true) (k1 v) false) (obs := []) (by kernel_rfl) (tg_eq (tg_eq (tg_eq (tg_eq rfl h1) h2) h3) h4) trivial (by unfold isVS; rw [h1, h2, h3, h4]; rfl)
    | true => exact SWs.finvL rvIs_lib Sp.mixed (fuel := 1000) (n := 100) [true, true, true, true] (v := .c (.bool (decide (v.k ≤ cnt v 8)))) (ob := tg (tg (tg (tg true (e0 v) true) (e1' v) true) (isTS v.t) true) (k1 v) true) (obs := []) (by kernel_rfl) (tg_eq (tg_eq (tg_eq (tg_eq rfl h1) h2) h3) h4) trivial (by unfold isVS; rw [h1, h2, h3, h4, hadm]; simp)
  · have hi' : i < 8 := by omega
    cases ha : v.ad i with
    | false =>
      refine SWs.roundL rvIs_lib Sp.mixed [true, false, false] (rv_z v i hi') rfl (tg_eq rfl ha) trivial ⟨i + 1, ⟨by omega, ?_⟩, by omega, rfl⟩
      simp [allMem, hl, ha]
    | true =>
      cases hm : memT v.t i with
      | false =>
        refine SWs.retR rvIs_lib Sp.mixed [true, true, true] (rv_no v i hi') (ty_eq (tg_eq rfl ha) (by rw [memI_in hi', hm]; rfl)) trivial fun _ => ?_
        rw [isVS_no (allMem_no hi' ha hm)]
      | true =>
        refine SWs.roundL rvIs_lib Sp.mixed [true, true, false] (rv_yes v i hi') rfl (tn_eq (tg_eq rfl ha) (by rw [memI_in hi', hm]; rfl)) trivial ⟨i + 1, ⟨by omega, ?_⟩, by omega, rfl⟩
        simp [allMem, hl, ha, hm]
theorem rvIs_ok : ConOK Tryz.prog frVIs vIsC := viC_ok (fn := Tryz.f41) (by kernel_rfl) rfl rfl (fun _ => rfl) rvIs_fn

end Go.Proofs.YtabiknpgakhkkaaGreat.Vw
end

