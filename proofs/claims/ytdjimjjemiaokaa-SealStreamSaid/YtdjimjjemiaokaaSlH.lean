/-
  What all laws of boxes ask last; the laws of what is sealed and opened.
-/
import Derived.Test.YtdjimjjemiaokaaSlG
namespace Go.Proofs.Ytdjimjjemiaokaa.Sl
open Go.RowKit Go.Proofs.Ytdjimjjemiaokaa.Sx Go.Proofs.Ytdjimjjemiaokaa.Pw Go.Proofs.Ytdjimjjemiaokaa.Pr
open Go.Proofs.Ytdjimjjemiaokaa.Sp (hc hb deriveS isU8s asU8s tB tH mixed H4)
set_option linter.unusedVariables false

abbrev FT : Type := Int → List SC → List UInt8 → List UInt8 × Int
abbrev OT : Type := Int → List UInt8 → List UInt8 × Int
abbrev kL (S : List SC → Int) (W : Int → Int → Int) (F : FT) (O : OT) : List (Nat × Con) := [(fFrom, fromG S), (fPub, pubG W), (fSeal, sealC F), (fOpen, openC O)]
theorem kL_ok {S : List SC → Int} {W : Int → Int → Int} {F : FT} {O : OT} (hS : S = scalS) (hW : W = powS) (hF : F = sealF) (hO : O = openF) : LibOK Try.prog (kL S W F O) :=
  LibOK.cons (fromG_ok hS) (LibOK.cons (pubG_ok hW) (LibOK.cons (seal_ok hF) (LibOK.cons (open_ok hO) (LibOK.nil _))))
abbrev fKnown5 : Nat := 14
def lit32 (n : UInt8) : List SC := .u8 n :: List.replicate 31 (.u8 0)
def hello : List UInt8 := [104, 101, 108, 108, 111]
section
variable (S : List SC → Int) (W : Int → Int → Int) (F : FT) (O : OT)
def knF : List UInt8 × Int := F (W 4 (S (lit32 9))) (lit32 8) hello
def knO : List UInt8 × Int := O (S (lit32 9)) (ownR (knF S W F).1)
def rok (q : List UInt8) : Bool := (q.map SC.u8).all SC.sole && true
def oRd (q : List UInt8) (r : List UInt8) : Bool := ownL q && (ownU q && (Nat.ble q.length 1000000 && (rok r && true)))
def strOk (q : List UInt8) : Bool := ownL q && ownU q
def kn1 : Bool := bnd (bnd true (rok (knF S W F).1)) (oRd (knF S W F).1 (knO S W F O).1)
def kn2 : Bool := bnd (tg (tg (tg (kn1 S W F O) ((knF S W F).2 == 0) true) (((knF S W F).1.length : Int) == 17) true) ((knO S W F O).2 == 0) true) (strOk (knO S W F O).1)
theorem kn_run : (xfunL Try.prog (kL S W F O) 1000 fKnown5 [] [] 0 [false, true, true, true]).map (fun q => (q.1, q.2.1, q.2.2.1)) = some (kn2 S W F O, [], .c (.bool (ownR (knO S W F O).1 == hello))) := by kernel_rfl
end
theorem rok_eq (q : List UInt8) : rok q = true := by unfold rok; rw [sole_u8s]; rfl
theorem oRd_eq {q : List UInt8} (r : List UInt8) (h : q.length ≤ 1000000) : oRd q r = true := by unfold oRd; rw [ownL_eq, ownU_eq, rok_eq, ble_of h]; rfl
theorem strOk_eq (q : List UInt8) : strOk q = true := by unfold strOk; rw [ownL_eq, ownU_eq]; rfl
theorem known_gen {S : List SC → Int} {W : Int → Int → Int} {F : FT} {O : OT} (hS : S = scalS) (hW : W = powS) (hF : F = sealF) (hO : O = openF) (w : World) : Sx.Fn Try.prog fKnown5 (atW w 0) [] [] 0 fun r _ => r = .c (.bool true) := by
  obtain ⟨X, hX, hX0, hXQ⟩ := scal_nat (lit32 9)
  obtain ⟨D, hD, hD0, hDQ⟩ := scal_nat (lit32 8)
  have e1 : knF S W F = (boxS (D : Int) (powS 4 (X : Int)) hello, 0) := by
    unfold knF
    rw [hS, hW, hF, hX, seal_to hX0 hXQ _ (by decide), hD]
  have e2 : knO S W F O = (hello, 0) := by
    unfold knO
    rw [e1, ownR_eq, hS, hO, hX, open_seal hX0 hXQ hD0 hDQ (by decide)]
  refine Fn.xvL (kL_ok hS hW hF hO) mixed [false, true, true, true] (kn_run S W F O) ?_ trivial ?_
  · unfold kn2 kn1
    rw [e2, e1, rok_eq, oRd_eq _ (by rw [boxS_len]; decide), strOk_eq, boxS_len]; rfl
  · rw [e2, ownR_eq]; simp
def knownC : Con := pureCon fun | [] => some (.c (.bool true)) | _ => none
theorem known_ok : ConOK Try.prog fKnown5 knownC := by
  refine pureCon_ok (fn := Try.f14) (by kernel_rfl) rfl rfl fun args v h => ?_
  split at h <;> try (cases h; done)
  simp only [Option.some.injEq] at h; subst h
  exact ⟨rfl, rfl, fun w => known_gen rfl rfl rfl rfl w⟩

end Go.Proofs.Ytdjimjjemiaokaa.Sl
