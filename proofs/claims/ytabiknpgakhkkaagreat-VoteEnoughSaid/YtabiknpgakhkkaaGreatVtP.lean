/-
  As many approvals as are asked: the walk.
-/
import Derived.Test.YtabiknpgakhkkaaGreatVtO
set_option maxRecDepth 20000
namespace Go.Proofs.YtabiknpgakhkkaaGreat.Vt
open Go.RowKit Go.Proofs.YtabiknpgakhkkaaGreat.Sx Go.Proofs.YtabiknpgakhkkaaGreat.Pw Go.Proofs.YtabiknpgakhkkaaGreat.Vw
open Go.Proofs.YtabiknpgakhkkaaGreat.Pr (fromG fromG_ok rfromG rfromG_ok tKey keyC)
set_option linter.unusedVariables false
set_option linter.unusedSimpArgs false
set_option maxRecDepth 10000

abbrev fEn : Nat := 4
noncomputable abbrev enL (S0 : Int → Int → Int → Vi) (A : AT) (U : UT) (S : List SC → Int) (W : Int → Int → Int) (K : KT) (Q : Vi → Int → List Ope → AQ) : List (Nat × Con) := deep Tryz.prog 1000 [fSeed] [(fSome, someC S0), (fApr, apprC A U W), (frApp, rappG Q), (Pr.fFrom, fromG S), (fChk, chkC K), (fKnownT, knownC)] 1
theorem enL_ok {A : AT} {U : UT} {S : List SC → Int} {W : Int → Int → Int} {K : KT} {Q : Vi → Int → List Ope → AQ} (hA : A = aprR applyQ paperS) (hU : U = usedB applyQ) (hS : S = scalS) (hW : W = powS) (hK : K = chkR applyQ paperS) (hQ : Q = applyQ) : LibOK Tryz.prog (enL someV A U S W K Q) :=
  deep_ok (LibOK.cons (some_ok rfl) (LibOK.cons (appr_ok hA hU hW) (LibOK.cons (rappG_ok hQ) (LibOK.cons (fromG_ok hS) (LibOK.cons (chk_ok hK) (LibOK.cons known_ok (LibOK.nil _))))))) Sp.mixed (by kernel_rfl) 1
def whC (wh : Nat → Bool) : List SC := (List.range 8).map fun i => .bool (wh i)
def enA (m a k : Int) (wh : Nat → Bool) (o1 n1 : Nat) (tu : Bool) : List SV := [.c (.int m), .c (.int a), .c (.int k), .agg (whC wh), .c (.slc 0 o1 5 n1 none), .c (.bool tu)]
def enC (a b c : Nat) : Cut := ⟨[(1, true), (2, true), (4, false), (5, true), (9, false), (13, false), (18, false), (19, true)], [(a, 0, true), (b, 1, true), (c, 2, true)], 3⟩
def enD (a b c d : Nat) : Cut := ⟨[(1, true), (2, true), (4, false), (5, true), (9, false), (13, false), (18, false), (19, true)], [(a, 0, true), (b, 1, true), (c, 2, true), (d, 3, true)], 4⟩
def enB (v : Vi) (wh : Nat → Bool) (c1 : List SC) (t1 : TypeId) : Tab := [(0, some ⟨c1, t1, true, false⟩), (1, some ⟨whC wh, 28, false, true⟩), (2, some ⟨v.cs, tView, false, true⟩)]
def enS (a k : Int) (o1 n1 : Nat) (tu : Bool) (x : SC) (i : Int) : List (Nat × SV) := [(1, .c (.int a)), (2, .c (.int k)), (4, .c (.slc 0 o1 5 n1 none)), (5, .c (.bool tu)), (9, .c (.ptr 1 0)), (13, .c (.ptr 2 0)), (18, .c x), (19, .c (.int i))]
section
variable (S0 : Int → Int → Int → Vi) (A : AT) (U : UT) (S : List SC → Int) (W : Int → Int → Int) (K : KT) (Q : Vi → Int → List Ope → AQ) (v : Vi) (m a k : Int) (wh : Nat → Bool) (o1 n1 : Nat) (c1 : List SC) (t1 : TypeId) (tu : Bool) (i n : Nat) (cs : List SC)
def enN (i : Int) : St := ⟨enS a k o1 n1 tu .nils i, enB v wh c1 t1, 3, 155⟩
def enR (i : Int) (n : Nat) (cs : List SC) : St := ⟨enS a k o1 n1 tu (.slc 3 0 3 n none) i, enB v wh c1 t1 ++ [(3, some ⟨cs, 39, true, true⟩)], 4, 155⟩
noncomputable abbrev enX (told : List Bool) := (xfunL Tryz.prog (enL S0 A U S W K Q) 1000 fEn (enA m a k wh o1 n1 tu) [(0, some ⟨c1, t1, true, false⟩)] 1 told).map (fun q => (q.1, q.2.1, q.2.2.1))
-- the bounds
def en1 (b : Bool) : Bool := tg true (decide (m < 2)) b
def en2 (b : Bool) : Bool := tg (en1 m false) (decide (m > 8)) b
def en3 (b : Bool) : Bool := tg (en2 m false) (decide (a < 1)) b
def en4 (b : Bool) : Bool := tg (en3 m a false) (decide (a > m)) b
def en5 (b : Bool) : Bool := tg (en4 m a false) (decide (k < 1)) b
def en6 (b : Bool) : Bool := tg (en5 m a k false) (decide (k > a)) b
def en7 (b : Bool) : Bool := tg (en6 m a k false) (n0 n1) b
def enE : Int := (Q (Vi.of (S0 m a k).cs) 0 (opsL (rbO o1 n1 c1 t1))).e
def en9 : Bool := bnd (bnd (tn (en7 m a k n1 false) (decide ((n1 : Int) > 4))) (memIn m)) (paOk (rbO o1 n1 c1 t1))
theorem en_1 : enX S0 A U S W K Q m a k wh o1 n1 c1 t1 tu [true, true, true, true, true, true, true, true] = some (en1 m true, [], .c (.bool true)) := by kernel_rfl
theorem en_2 : enX S0 A U S W K Q m a k wh o1 n1 c1 t1 tu [false, true, true, true, true, true, true, true] = some (en2 m true, [], .c (.bool true)) := by kernel_rfl
theorem en_3 : enX S0 A U S W K Q m a k wh o1 n1 c1 t1 tu [false, false, true, true, true, true, true, true] = some (en3 m a true, [], .c (.bool true)) := by kernel_rfl
theorem en_4 : enX S0 A U S W K Q m a k wh o1 n1 c1 t1 tu [false, false, false, true, true, true, true, true] = some (en4 m a true, [], .c (.bool true)) := by kernel_rfl
theorem en_5 : enX S0 A U S W K Q m a k wh o1 n1 c1 t1 tu [false, false, false, false, true, true, true, true] = some (en5 m a k true, [], .c (.bool true)) := by kernel_rfl
theorem en_6 : enX S0 A U S W K Q m a k wh o1 n1 c1 t1 tu [false, false, false, false, false, true, true, true] = some (en6 m a k true, [], .c (.bool true)) := by kernel_rfl
theorem en_7 : enX S0 A U S W K Q m a k wh o1 n1 c1 t1 tu [false, false, false, false, false, false, true, true] = some (en7 m a k n1 true, [], .c (.bool true)) := by kernel_rfl
theorem en_8 : enX S0 A U S W K Q m a k wh o1 n1 c1 t1 tu [false, false, false, false, false, false, false, true] = some (ty_ (en7 m a k n1 false) (decide ((n1 : Int) > 4)), [], .c (.bool true)) := by kernel_rfl
theorem en_9 : enX S0 A U S W K Q m a k wh o1 n1 c1 t1 tu [false, false, false, false, false, false, false, false, true] = some (ty_ (en9 m a k o1 n1 c1 t1) (enE S0 Q m a k o1 n1 c1 t1 != 0), [], .c (.bool true)) := by kernel_rfl
def plN : Bool := c1.all SC.plain && true
theorem en_start : stepL Tryz.prog (enL S0 A U S W K Q) 0 1000 9 (bodyOf Tryz.prog fEn) ⟨argTmps (enA m a k wh o1 n1 tu) 0, [(0, some ⟨c1, t1, true, false⟩)], 1, 155⟩ [false, false, false, false, false, false, false, false, false] [] (enC 0 1 161) =
  some (bnd (tn (en9 m a k o1 n1 c1 t1) (enE S0 Q m a k o1 n1 c1 t1 != 0)) (plN c1), [], enN (S0 m a k) a k wh o1 n1 c1 t1 tu 0) := by kernel_rfl
-- the rounds
noncomputable abbrev enLp : List Code := loopB ((bodyOf Tryz.prog fEn).drop 9)
def plR : Bool := c1.all SC.plain && (cs.all SC.plain && true)
def enI : Bool := bnd (bnd (ty_ true (decide ((i : Int) < a))) (Nat.blt (i : Int).toNat 8)) (Nat.blt (0 + (i : Int).toNat * 1) 8 && ((whC wh).getD (0 + (i : Int).toNat * 1) .nilp).isBool)
def enH : Bool := gB (whC wh) (0 + (i : Int).toNat * 1)
theorem en_n0 : stepL Tryz.prog (enL S0 A U S W K Q) 0 1000 4 enLp (enN v a k wh o1 n1 c1 t1 tu i) [true, false] [] (enC 0 1 2) =
  some (bnd (tn (enI a wh i) (enH wh i)) (plN c1), [], enN v a k wh o1 n1 c1 t1 tu (IntKind.i64.wrap ((i : Int) + 1))) := by kernel_rfl
theorem en_r0 : stepL Tryz.prog (enL S0 A U S W K Q) 0 1000 4 enLp (enR v a k wh o1 n1 c1 t1 tu i n cs) [true, false] [] (enD 0 1 2 3) =
  some (bnd (tn (enI a wh i) (enH wh i)) (plR c1 cs), [], enR v a k wh o1 n1 c1 t1 tu (IntKind.i64.wrap ((i : Int) + 1)) n cs) := by kernel_rfl
def enP : Vot × Int := A (Vi.of v.cs) i (S (seedC i)) (W 4 (S (seedC i))) 0 (opsL (rbO o1 n1 c1 t1))
def enQ (b : Vot × Int) (acc : Bool) : Bool := tn (tg acc (b.2 != 0) false) (b.1.ad != (i : Int))
def mnN : Bool := (((c1.all SC.norow && true) && ((c1.all SC.norow && true) && ((c1.all SC.norow && true) && true))) && true) && true
def nB : Bool := c1.all SC.norow && (cs.all SC.norow && true)
def mnR : Bool := ((nB c1 cs && (nB c1 cs && (nB c1 cs && true))) && true) && true
theorem en_n1 : stepL Tryz.prog (enL S0 A U S W K Q) 0 1000 4 enLp (enN v a k wh o1 n1 c1 t1 tu i) [true, true, false, false] [] (enD 0 1 2 123) =
  some (bnd (enQ i (enP A S W v o1 n1 c1 t1 i) (bnd (bnd (ty_ (enI a wh i) (enH wh i)) (apOk (rbO o1 n1 c1 t1))) (mnN c1))) (plN c1), [], enR v a k wh o1 n1 c1 t1 tu (IntKind.i64.wrap ((i : Int) + 1)) 1 (Vot.cs (enP A S W v o1 n1 c1 t1 i).1)) := by kernel_rfl
def enZ : Bool := Nat.ble (n + 1) maxLen && (Nat.ble ((n + 1) * 24) 140737488355328 && Nat.ble (n * 3) cs.length)
theorem en_r1 : stepL Tryz.prog (enL S0 A U S W K Q) 0 1000 4 enLp (enR v a k wh o1 n1 c1 t1 tu i n cs) [true, true, false, false] [] (enD 0 1 2 124) =
  some (bnd (bnd (enQ i (enP A S W v o1 n1 c1 t1 i) (bnd (bnd (ty_ (enI a wh i) (enH wh i)) (apOk (rbO o1 n1 c1 t1))) (mnR c1 cs))) (enZ n cs)) (plR c1 (cs.take (n * 3) ++ Vot.cs (enP A S W v o1 n1 c1 t1 i).1)), [], enR v a k wh o1 n1 c1 t1 tu (IntKind.i64.wrap ((i : Int) + 1)) (n + 1) (cs.take (n * 3) ++ Vot.cs (enP A S W v o1 n1 c1 t1 i).1)) := by kernel_rfl
end
end Go.Proofs.YtabiknpgakhkkaaGreat.Vt
