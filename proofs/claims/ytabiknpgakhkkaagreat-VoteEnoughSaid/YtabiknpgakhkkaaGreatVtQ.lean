/-
  As many approvals as are asked: what the walk answers.
-/
import Derived.Test.YtabiknpgakhkkaaGreatVtP
set_option maxRecDepth 20000
namespace Go.Proofs.YtabiknpgakhkkaaGreat.Vt
open Go.RowKit Go.Proofs.YtabiknpgakhkkaaGreat.Sx Go.Proofs.YtabiknpgakhkkaaGreat.Pw Go.Proofs.YtabiknpgakhkkaaGreat.Vw
open Go.Proofs.YtabiknpgakhkkaaGreat.Pr (fromG fromG_ok rfromG rfromG_ok tKey keyC)
set_option linter.unusedVariables false
set_option linter.unusedSimpArgs false
set_option maxRecDepth 10000

section
variable (S0 : Int → Int → Int → Vi) (A : AT) (U : UT) (S : List SC → Int) (W : Int → Int → Int) (K : KT) (Q : Vi → Int → List Ope → AQ) (v : Vi) (a k : Int) (wh : Nat → Bool) (o1 n1 : Nat) (c1 : List SC) (t1 : TypeId) (tu : Bool) (i n : Nat) (cs : List SC) (x0 x1 : Vot)
theorem en_no : exitL Tryz.prog (enL S0 A U S W K Q) 0 1000 4 enLp (enN v a k wh o1 n1 c1 t1 tu i) [false] [] (enC 0 1 2) = some (0, bnd (tn true (decide ((i : Int) < a))) (plN c1), [], enN v a k wh o1 n1 c1 t1 tu i) := by kernel_rfl
theorem en_ro : exitL Tryz.prog (enL S0 A U S W K Q) 0 1000 4 enLp (enR v a k wh o1 n1 c1 t1 tu i n cs) [false] [] (enD 0 1 2 3) = some (0, bnd (tn true (decide ((i : Int) < a))) (plR c1 cs), [], enR v a k wh o1 n1 c1 t1 tu i n cs) := by kernel_rfl
def enK (ms : List Vot) : Int := K (Vi.of v.cs) 0 (opsL (rbO o1 n1 c1 t1)) ms
def fE0 (e len : Int) (acc : Bool) : Bool := tg (tg acc ((e == 0) != decide (len ≥ k)) false) (e != 0) false
def fE1 (e len : Int) (acc : Bool) : Bool := tn (tg (tg acc ((e == 0) != decide (len ≥ k)) false) (e != 0) true) (e != 8)
def ckN : Bool := bnd true ((c1.all SC.sole && true) && (okOps (rbO o1 n1 c1 t1) && (Nat.ble n1 1000000 && true)))
noncomputable abbrev enF (st : St) (told : List Bool) := (finL Tryz.prog (enL S0 A U S W K Q) fEn 1000 100 ((bodyOf Tryz.prog fEn).drop 10) st told).map (fun q => (q.1, q.2.1, q.2.2.1))
theorem en_f1 : enF S0 A U S W K Q (enN v a k wh o1 n1 c1 t1 tu i) [false, true, false, false, false] = some (fE1 k (enK K v o1 n1 c1 t1 []) 0 (ckN o1 n1 c1 t1), [], .c (.bool true)) := by kernel_rfl
theorem en_f0 : enF S0 A U S W K Q (enN v a k wh o1 n1 c1 t1 tu i) [false, false, false, false, false] = some (fE0 k (enK K v o1 n1 c1 t1 []) 0 (ckN o1 n1 c1 t1), [], .c (.bool true)) := by kernel_rfl
abbrev enV (n : Nat) (cs : List SC) : RB := rbO 0 n cs 39
def ckR2 (n : Nat) (cs : List SC) (acc : Bool) : Bool := bnd acc (ckOk2 (rbO o1 n1 c1 t1) (enV n cs))
def e2 (n : Nat) : Bool := decide ((n : Int) ≥ 2)
theorem en_g1 : enF S0 A U S W K Q (enR v a k wh o1 n1 c1 t1 tu i n cs) [false, true, false, false, false] = some (tg (fE1 k (enK K v o1 n1 c1 t1 (vtL (enV n cs))) n (ckR2 o1 n1 c1 t1 n cs true)) (e2 n) false, [], .c (.bool true)) := by kernel_rfl
theorem en_g0 : enF S0 A U S W K Q (enR v a k wh o1 n1 c1 t1 tu i n cs) [false, false, false, false, false] = some (tg (fE0 k (enK K v o1 n1 c1 t1 (vtL (enV n cs))) n (ckR2 o1 n1 c1 t1 n cs true)) (e2 n) false, [], .c (.bool true)) := by kernel_rfl
theorem en_h1 : enF S0 A U S W K Q (enR v a k wh o1 n1 c1 t1 tu i n cs) [false, true, false, true, false] = some (tn (tg (fE1 k (enK K v o1 n1 c1 t1 (vtL (enV n cs))) n (ckR2 o1 n1 c1 t1 n cs true)) (e2 n) true) tu, [], .c (.bool true)) := by kernel_rfl
theorem en_h0 : enF S0 A U S W K Q (enR v a k wh o1 n1 c1 t1 tu i n cs) [false, false, false, true, false] = some (tn (tg (fE0 k (enK K v o1 n1 c1 t1 (vtL (enV n cs))) n (ckR2 o1 n1 c1 t1 n cs true)) (e2 n) true) tu, [], .c (.bool true)) := by kernel_rfl
def two (x y : Vot) (cs : List SC) : List SC := .int x.ad :: .int x.E :: .int x.S :: .int y.ad :: .int y.E :: .int y.S :: cs
def en2K (acc : Bool) : Bool := tg (ckR2 o1 n1 c1 t1 (n + 2) (two x1 x1 cs) (tn (ckR2 o1 n1 c1 t1 (n + 2) (two x1 x0 cs) acc) (enK K v o1 n1 c1 t1 (vtL (enV (n + 2) (two x1 x0 cs))) != 6))) (enK K v o1 n1 c1 t1 (vtL (enV (n + 2) (two x1 x1 cs))) == 6) true
theorem en_i1 : enF S0 A U S W K Q (enR v a k wh o1 n1 c1 t1 tu i (n + 2) (two x0 x1 cs)) [false, true, false, true, true, false, true] =
  some (en2K K v o1 n1 c1 t1 n cs x0 x1 (ty_ (tg (fE1 k (enK K v o1 n1 c1 t1 (vtL (enV (n + 2) (two x0 x1 cs)))) (n + 2 : Nat) (ckR2 o1 n1 c1 t1 (n + 2) (two x0 x1 cs) true)) (e2 (n + 2)) true) tu), [], .c (.bool true)) := by kernel_rfl
theorem en_i0 : enF S0 A U S W K Q (enR v a k wh o1 n1 c1 t1 tu i (n + 2) (two x0 x1 cs)) [false, false, false, true, true, false, true] =
  some (en2K K v o1 n1 c1 t1 n cs x0 x1 (ty_ (tg (fE0 k (enK K v o1 n1 c1 t1 (vtL (enV (n + 2) (two x0 x1 cs)))) (n + 2 : Nat) (ckR2 o1 n1 c1 t1 (n + 2) (two x0 x1 cs) true)) (e2 (n + 2)) true) tu), [], .c (.bool true)) := by kernel_rfl
end
end Go.Proofs.YtabiknpgakhkkaaGreat.Vt
