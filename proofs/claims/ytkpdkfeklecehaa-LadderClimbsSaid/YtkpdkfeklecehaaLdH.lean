/-
  Secrets up a path: what is derived, under a name of its own; a secret's key.
-/
import Derived.Test.YtkpdkfeklecehaaLdA
import Derived.Test.YtkpdkfeklecehaaPrD
namespace Go.Proofs.Ytkpdkfeklecehaa.Ld
open Go.RowKit Go.Proofs.Ytkpdkfeklecehaa.Sx Go.Proofs.Ytkpdkfeklecehaa.Pw
set_option linter.unusedVariables false

abbrev fNode : Nat := 17
abbrev DT : Type := List UInt8 → List UInt8 → List UInt8 → Sp.H4
def derG (D : DT) : Con := rowsConB 1073741824 Sp.derOk fun ps rows => match ps with
  | [.agg hcs, .c (.str s)] => some (.agg (Sp.hc (D (hcs.map SC.asU8) s rows.flatten)))
  | _ => none
def rderG (D : DT) : Con := bytesConB 1073741824 Sp.derOk fun ps bs => match ps with
  | [.agg hcs, .c (.str s)] => some (.agg (Sp.hc (D (hcs.map SC.asU8) s bs)))
  | _ => none
theorem derG_ok {D : DT} (hD : D = Sp.deriveS) : ConOK Try.prog Sp.fDer (derG D) := by subst hD; exact Sp.der_ok
theorem rderG_ok {D : DT} (hD : D = Sp.deriveS) : ConOK Try.prog Sp.fRDer (rderG D) := by subst hD; exact Sp.rder_ok

def nodeT : List UInt8 := [110, 111, 100, 101]
def pathT : List UInt8 := [112, 97, 116, 104]
/-- The sum of a sum's bytes and a label. -/
def dv (D : DT) (cs : List SC) (l : List UInt8) : Sp.H4 := D (cs.map SC.asU8) l []
def nodeG (D : DT) (S : List SC → Int) : Con := objNew fun args => match args with
  | [.agg cs] => some (Nat.beq cs.length 32 && cs.all SC.isU8, Pr.tKey, Pr.keyC (S (Sp.hc (dv D cs nodeT))) 0 0 0 0 0 0)
  | _ => none
theorem nodeG_ok {D : DT} {S : List SC → Int} (hD : D = Sp.deriveS) (hS : S = scalS) : ConOK Try.prog fNode (nodeG D S) := by
  refine objNew_ok (fn := Try.f17) (by kernel_rfl) rfl rfl fun args ty cs h hp w => ?_
  split at h <;> try (cases h; done)
  rename_i hs
  simp only [Option.some.injEq, Prod.mk.injEq] at h
  obtain ⟨hh, rfl, rfl⟩ := h
  simp only [Bool.and_eq_true] at hh
  have hl := Nat.eq_of_beq_eq_true hh.1
  have ht : hs.take 32 = hs := List.take_of_length_le (by omega)
  have := Fn.xt (X := atW w 0) (LibOK.cons (derG_ok hD) (LibOK.cons (Pr.fromG_ok hS) (LibOK.nil _))) Sp.mixed (fuel := 1000) (f := fNode) (args := [.agg hs]) (T := []) (nk := 0) (told := []) (ob := bnd (bnd true (Nat.ble (0 + 32) hs.length)) (((hs.take 32).all SC.sole && true) && ((Nat.beq (hs.take 32).length 32 && ((hs.take 32).all SC.isU8 && true)) && true))) (obs := []) (r := .c (.ptr 16 0)) (k := 16) (b := some ⟨Pr.keyC (S (Sp.hc (dv D (hs.take 32) nodeT))) 0 0 0 0 0 0, Pr.tKey, false, true⟩) (by kernel_rfl) (by rw [ht, hh.1, hh.2, soleU hh.2]; simp [bnd_true]; omega) trivial
  rw [ht] at this
  intro ρ w0 vs h1 h2 h3
  exact (this ρ w0 vs h1 h2 h3).mono fun e w' ⟨u, v, T', ρ', a, ⟨b, c⟩, d⟩ => ⟨u, v, T', ρ', a, ⟨16, b, c⟩, d⟩

def ufs : List Nat := [22, 23, 18, 19, 21]
theorem ufs_ok : ufs.all (inlOk Try.prog) = true := by kernel_rfl
abbrev fPub : Nat := Pr.fPub
noncomputable def uL0 (D : DT) (S : List SC → Int) (W : Int → Int → Int) : List (Nat × Con) := [(Sp.fDer, derG D), (Sp.fRDer, rderG D), (fNode, nodeG D S), (Pr.fPub, Pr.pubG W), (Pr.frFrom, Pr.rfromG S W), (fKnown8, knownC)]
noncomputable def uL (D : DT) (S : List SC → Int) (W : Int → Int → Int) : List (Nat × Con) := deep Try.prog 1000 ufs (uL0 D S W) 2
theorem uL_ok {D : DT} {S : List SC → Int} {W : Int → Int → Int} (hD : D = Sp.deriveS) (hS : S = scalS) (hW : W = powS) : LibOK Try.prog (uL D S W) :=
  deep_ok (LibOK.cons (derG_ok hD) (LibOK.cons (rderG_ok hD) (LibOK.cons (nodeG_ok hD hS) (LibOK.cons (Pr.pubG_ok hW) (LibOK.cons (Pr.rfromG_ok hS hW) (LibOK.cons known_ok (LibOK.nil _))))))) Sp.mixed ufs_ok 2

def gN (x : Bool) : Nat → Bool → Bool
  | 0, acc => acc
  | n + 1, acc => bnd (gN x n acc) (x == true && true)
def hN (x : Bool) : Nat → Bool → Bool
  | 0, acc => acc
  | n + 1, acc => bnd (hN x n acc) (x == false && true)
def eqHA (x y : Sp.H4) (acc : Bool) : Bool := Sp.eqHB x.p y.p (Sp.eqHB x.q y.q (Sp.eqHB x.r y.r (Sp.eqHB x.s y.s acc)))
def eqH3 (a b c x y z : Sp.H4) : Bool := Sp.eqH a x && (Sp.eqH b y && (Sp.eqH c z && true))
theorem eqHB_acc (w : UInt64) (acc : Bool) : Sp.eqHB w w acc = acc := by unfold Sp.eqHB; simp
theorem eqHA_self (x : Sp.H4) (acc : Bool) : eqHA x x acc = acc := by unfold eqHA; simp only [eqHB_acc]
theorem eqH3_self (a b c : Sp.H4) : eqH3 a b c a b c = true := by unfold eqH3; rw [Sp.eqH_self, Sp.eqH_self, Sp.eqH_self]; rfl

section
variable (D : DT) (cs : List SC)
def n1 : Sp.H4 := dv D cs pathT
def n2 : Sp.H4 := dv D (Sp.hc (n1 D cs)) pathT
def n3 : Sp.H4 := dv D (Sp.hc (n2 D cs)) pathT
def n4 : Sp.H4 := dv D (Sp.hc (n3 D cs)) pathT
end
/-- A sum by its bytes. -/
theorem list32 {P : List UInt8 → Prop} (h : ∀ b0 b1 b2 b3 b4 b5 b6 b7 b8 b9 b10 b11 b12 b13 b14 b15 b16 b17 b18 b19 b20 b21 b22 b23 b24 b25 b26 b27 b28 b29 b30 b31 : UInt8, P [b0, b1, b2, b3, b4, b5, b6, b7, b8, b9, b10, b11, b12, b13, b14, b15, b16, b17, b18, b19, b20, b21, b22, b23, b24, b25, b26, b27, b28, b29, b30, b31]) : ∀ hs : List UInt8, hs.length = 32 → P hs := by
  intro hs hl
  rcases hs with _ | ⟨b0, hs⟩
  · simp at hl
  rcases hs with _ | ⟨b1, hs⟩
  · simp at hl
  rcases hs with _ | ⟨b2, hs⟩
  · simp at hl
  rcases hs with _ | ⟨b3, hs⟩
  · simp at hl
  rcases hs with _ | ⟨b4, hs⟩
  · simp at hl
  rcases hs with _ | ⟨b5, hs⟩
  · simp at hl
  rcases hs with _ | ⟨b6, hs⟩
  · simp at hl
  rcases hs with _ | ⟨b7, hs⟩
  · simp at hl
  rcases hs with _ | ⟨b8, hs⟩
  · simp at hl
  rcases hs with _ | ⟨b9, hs⟩
  · simp at hl
  rcases hs with _ | ⟨b10, hs⟩
  · simp at hl
  rcases hs with _ | ⟨b11, hs⟩
  · simp at hl
  rcases hs with _ | ⟨b12, hs⟩
  · simp at hl
  rcases hs with _ | ⟨b13, hs⟩
  · simp at hl
  rcases hs with _ | ⟨b14, hs⟩
  · simp at hl
  rcases hs with _ | ⟨b15, hs⟩
  · simp at hl
  rcases hs with _ | ⟨b16, hs⟩
  · simp at hl
  rcases hs with _ | ⟨b17, hs⟩
  · simp at hl
  rcases hs with _ | ⟨b18, hs⟩
  · simp at hl
  rcases hs with _ | ⟨b19, hs⟩
  · simp at hl
  rcases hs with _ | ⟨b20, hs⟩
  · simp at hl
  rcases hs with _ | ⟨b21, hs⟩
  · simp at hl
  rcases hs with _ | ⟨b22, hs⟩
  · simp at hl
  rcases hs with _ | ⟨b23, hs⟩
  · simp at hl
  rcases hs with _ | ⟨b24, hs⟩
  · simp at hl
  rcases hs with _ | ⟨b25, hs⟩
  · simp at hl
  rcases hs with _ | ⟨b26, hs⟩
  · simp at hl
  rcases hs with _ | ⟨b27, hs⟩
  · simp at hl
  rcases hs with _ | ⟨b28, hs⟩
  · simp at hl
  rcases hs with _ | ⟨b29, hs⟩
  · simp at hl
  rcases hs with _ | ⟨b30, hs⟩
  · simp at hl
  rcases hs with _ | ⟨b31, hs⟩
  · simp at hl
  cases hs with
  | nil => exact h b0 b1 b2 b3 b4 b5 b6 b7 b8 b9 b10 b11 b12 b13 b14 b15 b16 b17 b18 b19 b20 b21 b22 b23 b24 b25 b26 b27 b28 b29 b30 b31
  | cons c hs => simp at hl

end Go.Proofs.Ytkpdkfeklecehaa.Ld
