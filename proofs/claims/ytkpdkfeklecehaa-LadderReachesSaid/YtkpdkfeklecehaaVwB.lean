/-
  Trees that may be: what the program's and the document's functions answer.
-/
import Derived.Test.YtkpdkfeklecehaaVwA
namespace Go.Proofs.Ytkpdkfeklecehaa.Vw
open Go.RowKit Go.Proofs.Ytkpdkfeklecehaa.Sx Go.Proofs.Ytkpdkfeklecehaa.Pw
set_option linter.unusedVariables false
set_option linter.unusedSimpArgs false

/-- What is told of a guard; of a condition. -/
def tg (acc c t : Bool) : Bool := bnd acc (c == t && true)
def ty_ (acc c : Bool) : Bool := bnd acc c
def tn (acc c : Bool) : Bool := bnd acc (!c)
theorem tg_eq {acc c t : Bool} (h : acc = true) (hc : c = t) : tg acc c t = true := by subst h hc; unfold tg; cases c <;> rfl
theorem ty_eq {acc c : Bool} (h : acc = true) (hc : c = true) : ty_ acc c = true := by subst h hc; rfl
theorem tn_eq {acc c : Bool} (h : acc = true) (hc : c = false) : tn acc c = true := by subst h hc; rfl

theorem all8 {p : Nat → Prop} (h0 : p 0) (h1 : p 1) (h2 : p 2) (h3 : p 3) (h4 : p 4) (h5 : p 5) (h6 : p 6) (h7 : p 7) : ∀ i, i < 8 → p i := by
  intro i hi
  have : i = 0 ∨ i = 1 ∨ i = 2 ∨ i = 3 ∨ i = 4 ∨ i = 5 ∨ i = 6 ∨ i = 7 := by omega
  rcases this with rfl | rfl | rfl | rfl | rfl | rfl | rfl | rfl <;> assumption
theorem all15 {p : Nat → Prop} (h0 : p 0) (h1 : p 1) (h2 : p 2) (h3 : p 3) (h4 : p 4) (h5 : p 5) (h6 : p 6) (h7 : p 7) (h8 : p 8) (h9 : p 9) (h10 : p 10) (h11 : p 11) (h12 : p 12) (h13 : p 13) (h14 : p 14) : ∀ i, i < 15 → p i := by
  intro i hi
  have : i = 0 ∨ i = 1 ∨ i = 2 ∨ i = 3 ∨ i = 4 ∨ i = 5 ∨ i = 6 ∨ i = 7 ∨ i = 8 ∨ i = 9 ∨ i = 10 ∨ i = 11 ∨ i = 12 ∨ i = 13 ∨ i = 14 := by omega
  rcases this with rfl | rfl | rfl | rfl | rfl | rfl | rfl | rfl | rfl | rfl | rfl | rfl | rfl | rfl | rfl <;> assumption

def leafA (s : Int) : Bool := !isKeyS s
def leafC (s p : Int) : Bool := !((s == 0) == (p == 0))
def leafOk (s p : Int) : Bool := isKeyS s && (isKeyS p && ((s == 0) == (p == 0)))
def nodeC (n : Int) : Bool := n != 0
def nodeOk (i : Nat) (n : Int) : Bool := isKeyS n && (Nat.beq (i % 2) 1 || n == 0)
def leaves (t : Tr) : Nat → Bool
  | 0 => true
  | i + 1 => leaves t i && leafOk (t.sg i) (t.sl i)
def nodes (t : Tr) : Nat → Bool
  | 0 => true
  | i + 1 => nodes t i && nodeOk i (t.nd i)
def isTS (t : Tr) : Bool := leaves t 8 && nodes t 15
theorem leaves_le {t : Tr} : ∀ {n i : Nat}, leaves t n = true → i < n → leafOk (t.sg i) (t.sl i) = true
  | 0, i, _, h => absurd h (by omega)
  | n + 1, i, h, hi => by
    simp only [leaves, Bool.and_eq_true] at h
    by_cases hin : i = n
    · subst hin; exact h.2
    · exact leaves_le h.1 (by omega)
theorem nodes_le {t : Tr} : ∀ {n i : Nat}, nodes t n = true → i < n → nodeOk i (t.nd i) = true
  | 0, i, _, h => absurd h (by omega)
  | n + 1, i, h, hi => by
    simp only [nodes, Bool.and_eq_true] at h
    by_cases hin : i = n
    · subst hin; exact h.2
    · exact nodes_le h.1 (by omega)
theorem isTS_leaf {t : Tr} {i : Nat} (hi : i < 8) (h : leafOk (t.sg i) (t.sl i) = false) : isTS t = false := by
  cases hh : isTS t with
  | false => rfl
  | true => unfold isTS at hh; simp only [Bool.and_eq_true] at hh; rw [leaves_le hh.1 hi] at h; cases h
theorem isTS_node {t : Tr} {i : Nat} (hi : i < 15) (h : nodeOk i (t.nd i) = false) : isTS t = false := by
  cases hh : isTS t with
  | false => rfl
  | true => unfold isTS at hh; simp only [Bool.and_eq_true] at hh; rw [nodes_le hh.2 hi] at h; cases h




def tIsC : Con := pureConB (fun | [.agg cs] => isTr cs | _ => true) fun | [.agg cs] => some (.c (.bool (isTS (Tr.of cs 0)))) | _ => none

end Go.Proofs.Ytkpdkfeklecehaa.Vw
