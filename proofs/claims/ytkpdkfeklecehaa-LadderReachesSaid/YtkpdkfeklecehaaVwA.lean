/-
  Views as values: trees, admins, thresholds.
-/
import Derived.Test.YtkpdkfeklecehaaPwB
import Derived.Test.YtkpdkfeklecehaaSxU
import Derived.Test.YtkpdkfeklecehaaSxR
namespace Go.Proofs.Ytkpdkfeklecehaa.Vw
open Go.RowKit Go.Proofs.Ytkpdkfeklecehaa.Sx Go.Proofs.Ytkpdkfeklecehaa.Pw
set_option linter.unusedVariables false
set_option linter.unusedSimpArgs false

abbrev tTree : Nat := 27
/-- A tree: each leaf's two numbers, the nodes'. -/
structure Tr where
  sg : Nat → Int
  sl : Nat → Int
  nd : Nat → Int
/-- A view. -/
structure Vi where
  ep : Int
  t : Tr
  ad : Nat → Bool
  k : Int
  ch : Nat → UInt8
def Tr.lf (t : Tr) : List SC := [.int (t.sg 0), .int (t.sl 0), .int (t.sg 1), .int (t.sl 1), .int (t.sg 2), .int (t.sl 2), .int (t.sg 3), .int (t.sl 3), .int (t.sg 4), .int (t.sl 4), .int (t.sg 5), .int (t.sl 5), .int (t.sg 6), .int (t.sl 6), .int (t.sg 7), .int (t.sl 7)]
def Tr.ns (t : Tr) : List SC := [.int (t.nd 0), .int (t.nd 1), .int (t.nd 2), .int (t.nd 3), .int (t.nd 4), .int (t.nd 5), .int (t.nd 6), .int (t.nd 7), .int (t.nd 8), .int (t.nd 9), .int (t.nd 10), .int (t.nd 11), .int (t.nd 12), .int (t.nd 13), .int (t.nd 14)]
def Tr.cs (t : Tr) : List SC := t.lf ++ t.ns
def adC (a : Nat → Bool) : List SC := [.bool (a 0), .bool (a 1), .bool (a 2), .bool (a 3), .bool (a 4), .bool (a 5), .bool (a 6), .bool (a 7)]
def chC (c : Nat → UInt8) : List SC := [.u8 (c 0), .u8 (c 1), .u8 (c 2), .u8 (c 3), .u8 (c 4), .u8 (c 5), .u8 (c 6), .u8 (c 7), .u8 (c 8), .u8 (c 9), .u8 (c 10), .u8 (c 11), .u8 (c 12), .u8 (c 13), .u8 (c 14), .u8 (c 15), .u8 (c 16), .u8 (c 17), .u8 (c 18), .u8 (c 19), .u8 (c 20), .u8 (c 21), .u8 (c 22), .u8 (c 23), .u8 (c 24), .u8 (c 25), .u8 (c 26), .u8 (c 27), .u8 (c 28), .u8 (c 29), .u8 (c 30), .u8 (c 31)]
def Vi.cs (v : Vi) : List SC := .int v.ep :: (v.t.cs ++ (adC v.ad ++ (.int v.k :: chC v.ch)))
def gI (cs : List SC) (i : Nat) : Int := (cs.getD i .nilp).asInt
def gB (cs : List SC) (i : Nat) : Bool := (cs.getD i .nilp).asBool
def gU (cs : List SC) (i : Nat) : UInt8 := (cs.getD i .nilp).asU8
def Tr.of (cs : List SC) (o : Nat) : Tr := ⟨fun i => gI cs (o + 2 * i), fun i => gI cs (o + 2 * i + 1), fun i => gI cs (o + 16 + i)⟩
def Vi.of (cs : List SC) : Vi := ⟨gI cs 0, Tr.of cs 1, fun i => gB cs (32 + i), gI cs 40, fun i => gU cs (41 + i)⟩
def isTr (cs : List SC) : Bool := Nat.beq cs.length 31 && cs.all SC.isInt
/-- Kinds of a view's cells. -/
def kindAt (x : SC) (i : Nat) : Bool := bif Nat.blt i 32 then x.isInt else bif Nat.blt i 40 then x.isBool else bif Nat.beq i 40 then x.isInt else x.isU8
def kinds : List SC → Nat → Bool
  | [], _ => true
  | x :: r, i => kindAt x i && kinds r (i + 1)
def isVi (cs : List SC) : Bool := Nat.beq cs.length 73 && kinds cs 0
theorem kinds_get : ∀ {cs : List SC} {j i : Nat} {x : SC}, kinds cs j = true → cs[i]? = some x → kindAt x (j + i) = true
  | [], _, _, _, _, h => by simp at h
  | y :: r, j, 0, x, h, hx => by
    simp only [kinds, Bool.and_eq_true] at h
    simp at hx; subst hx; exact h.1
  | y :: r, j, i + 1, x, h, hx => by
    simp only [kinds, Bool.and_eq_true] at h
    have := kinds_get h.2 (by simpa using hx : r[i]? = some x)
    rwa [show j + 1 + i = j + (i + 1) by omega] at this
theorem int_of {cs : List SC} {i : Nat} {x : SC} (h : cs[i]? = some x) (hx : x.isInt = true) : cs[i]? = some (.int (gI cs i)) := by
  have : cs.getD i .nilp = x := by simp [List.getD, h]
  unfold gI
  rw [this, h]
  cases x <;> first | rfl | (simp [SC.isInt] at hx; done)
theorem bool_of {cs : List SC} {i : Nat} {x : SC} (h : cs[i]? = some x) (hx : x.isBool = true) : cs[i]? = some (.bool (gB cs i)) := by
  have : cs.getD i .nilp = x := by simp [List.getD, h]
  unfold gB
  rw [this, h]
  cases x <;> first | rfl | (simp [SC.isBool] at hx; done)
theorem u8_of {cs : List SC} {i : Nat} {x : SC} (h : cs[i]? = some x) (hx : x.isU8 = true) : cs[i]? = some (.u8 (gU cs i)) := by
  have : cs.getD i .nilp = x := by simp [List.getD, h]
  unfold gU
  rw [this, h]
  cases x <;> first | rfl | (simp [SC.isU8] at hx; done)
theorem Tr.at_ (cs : List SC) : ∀ i, i < 31 → (Tr.of cs 0).cs[i]? = some (.int (gI cs i)) := by
  intro i hi
  match i, hi with
  | 0, _ => rfl
  | 1, _ => rfl
  | 2, _ => rfl
  | 3, _ => rfl
  | 4, _ => rfl
  | 5, _ => rfl
  | 6, _ => rfl
  | 7, _ => rfl
  | 8, _ => rfl
  | 9, _ => rfl
  | 10, _ => rfl
  | 11, _ => rfl
  | 12, _ => rfl
  | 13, _ => rfl
  | 14, _ => rfl
  | 15, _ => rfl
  | 16, _ => rfl
  | 17, _ => rfl
  | 18, _ => rfl
  | 19, _ => rfl
  | 20, _ => rfl
  | 21, _ => rfl
  | 22, _ => rfl
  | 23, _ => rfl
  | 24, _ => rfl
  | 25, _ => rfl
  | 26, _ => rfl
  | 27, _ => rfl
  | 28, _ => rfl
  | 29, _ => rfl
  | 30, _ => rfl
  | n + 31, h => exact absurd h (by omega)
theorem Vi.at_ (cs : List SC) : ∀ i, i < 73 → (Vi.of cs).cs[i]? = some (bif Nat.blt i 32 then .int (gI cs i) else bif Nat.blt i 40 then .bool (gB cs i) else bif Nat.beq i 40 then .int (gI cs i) else .u8 (gU cs i)) := by
  intro i hi
  match i, hi with
  | 0, _ => rfl
  | 1, _ => rfl
  | 2, _ => rfl
  | 3, _ => rfl
  | 4, _ => rfl
  | 5, _ => rfl
  | 6, _ => rfl
  | 7, _ => rfl
  | 8, _ => rfl
  | 9, _ => rfl
  | 10, _ => rfl
  | 11, _ => rfl
  | 12, _ => rfl
  | 13, _ => rfl
  | 14, _ => rfl
  | 15, _ => rfl
  | 16, _ => rfl
  | 17, _ => rfl
  | 18, _ => rfl
  | 19, _ => rfl
  | 20, _ => rfl
  | 21, _ => rfl
  | 22, _ => rfl
  | 23, _ => rfl
  | 24, _ => rfl
  | 25, _ => rfl
  | 26, _ => rfl
  | 27, _ => rfl
  | 28, _ => rfl
  | 29, _ => rfl
  | 30, _ => rfl
  | 31, _ => rfl
  | 32, _ => rfl
  | 33, _ => rfl
  | 34, _ => rfl
  | 35, _ => rfl
  | 36, _ => rfl
  | 37, _ => rfl
  | 38, _ => rfl
  | 39, _ => rfl
  | 40, _ => rfl
  | 41, _ => rfl
  | 42, _ => rfl
  | 43, _ => rfl
  | 44, _ => rfl
  | 45, _ => rfl
  | 46, _ => rfl
  | 47, _ => rfl
  | 48, _ => rfl
  | 49, _ => rfl
  | 50, _ => rfl
  | 51, _ => rfl
  | 52, _ => rfl
  | 53, _ => rfl
  | 54, _ => rfl
  | 55, _ => rfl
  | 56, _ => rfl
  | 57, _ => rfl
  | 58, _ => rfl
  | 59, _ => rfl
  | 60, _ => rfl
  | 61, _ => rfl
  | 62, _ => rfl
  | 63, _ => rfl
  | 64, _ => rfl
  | 65, _ => rfl
  | 66, _ => rfl
  | 67, _ => rfl
  | 68, _ => rfl
  | 69, _ => rfl
  | 70, _ => rfl
  | 71, _ => rfl
  | 72, _ => rfl
  | n + 73, h => exact absurd h (by omega)
theorem Tr.of_cs {cs : List SC} (h : isTr cs = true) : cs = (Tr.of cs 0).cs := by
  unfold isTr at h
  simp only [Bool.and_eq_true, List.all_eq_true] at h
  have hl := Nat.eq_of_beq_eq_true h.1
  apply List.ext_getElem?
  intro i
  by_cases hi : i < 31
  · rw [Tr.at_ cs i hi]
    have hx : cs[i]? = some cs[i] := List.getElem?_eq_getElem (by omega)
    exact int_of hx (h.2 _ (List.getElem_mem _))
  · rw [List.getElem?_eq_none (by omega), List.getElem?_eq_none (by show 31 ≤ i; omega)]
theorem Vi.of_cs {cs : List SC} (h : isVi cs = true) : cs = (Vi.of cs).cs := by
  unfold isVi at h
  simp only [Bool.and_eq_true] at h
  have hl := Nat.eq_of_beq_eq_true h.1
  apply List.ext_getElem?
  intro i
  by_cases hi : i < 73
  · rw [Vi.at_ cs i hi]
    have hx : cs[i]? = some cs[i] := List.getElem?_eq_getElem (by omega)
    have hk := kinds_get h.2 hx
    rw [Nat.zero_add] at hk
    unfold kindAt at hk
    cases h1 : Nat.blt i 32 with
    | true => rw [h1] at hk; exact int_of hx hk
    | false =>
      rw [h1] at hk
      simp only [cond_false] at hk ⊢
      cases h2 : Nat.blt i 40 with
      | true => rw [h2] at hk; exact bool_of hx hk
      | false =>
        rw [h2] at hk
        simp only [cond_false] at hk ⊢
        cases h3 : Nat.beq i 40 with
        | true => rw [h3] at hk; exact int_of hx hk
        | false => rw [h3] at hk; exact u8_of hx hk
  · rw [List.getElem?_eq_none (by omega), List.getElem?_eq_none (by show 73 ≤ i; omega)]
theorem Tr.sole (t : Tr) : t.cs.all SC.sole = true := rfl
theorem Vi.sole (v : Vi) : v.cs.all SC.sole = true := rfl

/-! Keys. -/
def isKeyS (n : Int) : Bool := bif n == 0 then true else isS n

end Go.Proofs.Ytkpdkfeklecehaa.Vw
