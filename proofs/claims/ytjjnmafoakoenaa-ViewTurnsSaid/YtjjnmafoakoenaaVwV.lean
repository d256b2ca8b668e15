/-
  Views with odd admins may not be.
-/
import Derived.Test.YtjjnmafoakoenaaVwU
namespace Go.Proofs.Ytjjnmafoakoenaa.Vw
open Go.RowKit Go.Proofs.Ytjjnmafoakoenaa.Sx Go.Proofs.Ytjjnmafoakoenaa.Pw
set_option linter.unusedVariables false
set_option linter.unusedSimpArgs false

def adV (v : Vi) (i : Nat) : Vi := { v with ad := fun j => bif Nat.beq j i then true else v.ad j }
/-! Some members: they may be. -/
theorem someT_all : ((List.range 9).all fun m => isTS (someV m 0 0).t) = true := by kernel_rfl
theorem someT {m : Nat} (hm : m ≤ 8) (a k : Int) : isTS (someV m a k).t = true := by
  have h := List.all_eq_true.1 someT_all m (by rw [List.mem_range]; omega)
  exact h
theorem someA_all : ((List.range 9).all fun m => (List.range 9).all fun a => (decide (m < a) || (admS (someV m (Int.ofNat a) 0) == Int.ofNat a))) = true := by kernel_rfl
theorem someA {m a : Nat} (hm : m ≤ 8) (ha : a ≤ m) (k : Int) : admS (someV m a k) = a := by
  have h := List.all_eq_true.1 (List.all_eq_true.1 someA_all m (by rw [List.mem_range]; omega)) a (by rw [List.mem_range]; omega)
  rw [decide_eq_false (by omega), Bool.false_or, beq_iff_eq] at h
  exact h
def oddN (m a i : Nat) : Int := bif Nat.blt i m then (bif Nat.ble a i then Int.ofNat a + 1 else Int.ofNat a) else -1
theorem someB_all : ((List.range 9).all fun m => (List.range 9).all fun a => (List.range 8).all fun i => (decide (m < a) || (admS (adV (someV m (Int.ofNat a) 0) i) == oddN m a i))) = true := by kernel_rfl
theorem someB {m a i : Nat} (hm : m ≤ 8) (ha : a ≤ m) (hi : i < 8) (k : Int) : admS (adV (someV m a k) i) = oddN m a i := by
  have h := List.all_eq_true.1 (List.all_eq_true.1 (List.all_eq_true.1 someB_all m (by rw [List.mem_range]; omega)) a (by rw [List.mem_range]; omega)) i (by rw [List.mem_range]; omega)
  rw [decide_eq_false (by omega), Bool.false_or, beq_iff_eq] at h
  exact h
theorem some_is {m a : Nat} (hm : m ≤ 8) (ha : a ≤ m) (k : Int) : isVS (someV m a k) = (decide (k ≥ 1) && decide (k ≤ a)) := by
  have : isVS (someV m a k) = (isTS (someV m a k).t && (decide (k ≥ 1) && decide (k ≤ admS (someV m a k)))) := rfl
  rw [this, someT hm, someA hm ha]; rfl
theorem some_is2 {m a i : Nat} (hm : m ≤ 8) (ha : a ≤ m) (hi : i < 8) (k : Int) : isVS (adV (someV m a k) i) = (decide (k ≥ 1) && decide (k ≤ oddN m a i)) := by
  have : isVS (adV (someV m a k) i) = (isTS (someV m a k).t && (decide (k ≥ 1) && decide (k ≤ admS (adV (someV m a k) i)))) := rfl
  rw [this, someT hm, someB hm ha hi]; rfl

abbrev fMay : Nat := 11
abbrev mL (V : Vi → Bool) : List (Nat × Con) := [(fSome, someS), (fVIs, viC fun v => .c (.bool (V v))), (fKnown, knownC)]
theorem mL_ok {V : Vi → Bool} (hV : V = isVS) : LibOK Try.prog (mL V) := by
  subst hV
  exact LibOK.cons someS_ok (LibOK.cons vIs_ok (LibOK.cons known_ok (LibOK.nil _)))
def mayA (m a k o : Int) : List SV := [.c (.int m), .c (.int a), .c (.int k), .c (.int o)]
def cc (c acc b : Bool) : Bool := bif c then ty_ acc b else tn acc b
def mayH (m a o : Int) : Bool := tn (tg (tg (tg (tg (tg true (decide (m < 0)) false) (decide (m > 8)) false) (decide (a < 0)) false) (decide (a > m)) false) (decide (o < 0)) false) (decide (o > 7))
def mayOb (V : Vi → Bool) (m a k : Int) (i : Nat) (g c n : Bool) : Bool :=
  tg (tg (tg (cc c (tn (tg (bnd (mayH m a i) (memIn m)) (decide (k ≥ 1)) g) (V (Vi.of (someV m.toNat a k).cs) != bif g then decide (k ≤ a) else false)) (decide ((i : Int) ≥ a))) (decide ((i : Int) < m)) n) (bif n then decide (k ≥ 1) else false) (n && g))
    (V (Vi.of (adV (someV m.toNat a k) i).cs) == bif (n && g) then decide (k ≤ bif c then IntKind.i64.wrap (a + 1) else a) else false) true
section
variable (V : Vi → Bool) (m a k o : Int)
theorem may_p (i : Nat) (hi : i < 8) (g c n : Bool) : (xfunL Try.prog (mL V) 1000 fMay (mayA m a k i) [] 0 [false, false, false, false, false, false, g, false, c, n, n && g, true]).map (fun q => (q.1, q.2.1, q.2.2.1)) = some (mayOb V m a k i g c n, [], .c (.bool true)) := by
  revert i
  refine all8 ?_ ?_ ?_ ?_ ?_ ?_ ?_ ?_ <;> cases g <;> cases c <;> cases n <;> kernel_rfl
end
theorem cc_eq {c acc b : Bool} (h : acc = true) (hb : b = c) : cc c acc b = true := by
  subst hb
  cases b
  · exact tn_eq h rfl
  · exact ty_eq h rfl
theorem viewMay_fn (m a k o : Int) (w : World) : Sx.Fn Try.prog fMay (atW w 0) [.c (.int m), .c (.int a), .c (.int k), .c (.int o)] [] 0 fun x _ => x = .c (.bool true) := by
  cases h1 : decide (m < 0) with
  | true => exact Fn.xvL (fuel := 1000) (mL_ok (V := isVS) rfl) Sp.mixed [true] (r := .c (.bool true)) (ob := tg (true) (decide (m < 0)) true) (obs := []) (by kernel_rfl) (tg_eq (rfl) h1) trivial rfl
  | false =>
  cases h2 : decide (m > 8) with
  | true => exact Fn.xvL (fuel := 1000) (mL_ok (V := isVS) rfl) Sp.mixed [false, true] (r := .c (.bool true)) (ob := tg (tg (true) (decide (m < 0)) false) (decide (m > 8)) true) (obs := []) (by kernel_rfl) (tg_eq (tg_eq (rfl) h1) h2) trivial rfl
  | false =>
  cases h3 : decide (a < 0) with
  | true => exact Fn.xvL (fuel := 1000) (mL_ok (V := isVS) rfl) Sp.mixed [false, false, true] (r := .c (.bool true)) (ob := tg (tg (tg (true) (decide (m < 0)) false) (decide (m > 8)) false) (decide (a < 0)) true) (obs := []) (by kernel_rfl) (tg_eq (tg_eq (tg_eq (rfl) h1) h2) h3) trivial rfl
  | false =>
  cases h4 : decide (a > m) with
  | true => exact Fn.xvL (fuel := 1000) (mL_ok (V := isVS) rfl) Sp.mixed [false, false, false, true] (r := .c (.bool true)) (ob := tg (tg (tg (tg (true) (decide (m < 0)) false) (decide (m > 8)) false) (decide (a < 0)) false) (decide (a > m)) true) (obs := []) (by kernel_rfl) (tg_eq (tg_eq (tg_eq (tg_eq (rfl) h1) h2) h3) h4) trivial rfl
  | false =>
  cases h5 : decide (o < 0) with
  | true => exact Fn.xvL (fuel := 1000) (mL_ok (V := isVS) rfl) Sp.mixed [false, false, false, false, true] (r := .c (.bool true)) (ob := tg (tg (tg (tg (tg (true) (decide (m < 0)) false) (decide (m > 8)) false) (decide (a < 0)) false) (decide (a > m)) false) (decide (o < 0)) true) (obs := []) (by kernel_rfl) (tg_eq (tg_eq (tg_eq (tg_eq (tg_eq (rfl) h1) h2) h3) h4) h5) trivial rfl
  | false =>
  cases h6 : decide (o > 7) with
  | true => exact Fn.xvL (fuel := 1000) (mL_ok (V := isVS) rfl) Sp.mixed [false, false, false, false, false, true] (r := .c (.bool true)) (ob := ty_ (tg (tg (tg (tg (tg (true) (decide (m < 0)) false) (decide (m > 8)) false) (decide (a < 0)) false) (decide (a > m)) false) (decide (o < 0)) false) (decide (o > 7))) (obs := []) (by kernel_rfl) (ty_eq (tg_eq (tg_eq (tg_eq (tg_eq (tg_eq (rfl) h1) h2) h3) h4) h5) h6) trivial rfl
  | false =>
  have H : mayH m a o = true := tn_eq (tg_eq (tg_eq (tg_eq (tg_eq (tg_eq rfl h1) h2) h3) h4) h5) h6
  simp only [decide_eq_false_iff_not] at h1 h2 h3 h4 h5 h6
  have hm : memIn m = true := by unfold memIn; rw [decide_eq_true (by omega), decide_eq_true (by omega)]; rfl
  obtain ⟨i, rfl⟩ : ∃ i : Nat, o = i := ⟨o.toNat, by omega⟩
  obtain ⟨p, rfl⟩ : ∃ i : Nat, m = i := ⟨m.toNat, by omega⟩
  obtain ⟨q, rfl⟩ : ∃ i : Nat, a = i := ⟨a.toNat, by omega⟩
  have hi : i < 8 := by omega
  have hp : p ≤ 8 := by omega
  have hq : q ≤ p := by omega
  refine Fn.xvL (mL_ok rfl) Sp.mixed _ (may_p isVS p q k i hi (decide (k ≥ 1)) (decide ((i : Int) ≥ q)) (decide ((i : Int) < p))) ?_ trivial rfl
  refine tg_eq (tg_eq (tg_eq (cc_eq (tn_eq (tg_eq (bnds H hm) rfl) ?_) rfl) rfl) ?_) ?_
  · rw [isVS_of, Int.toNat_natCast, some_is hp hq]
    cases decide (k ≥ 1) <;> simp
  · cases decide ((i : Int) < p) <;> rfl
  · rw [isVS_of, Int.toNat_natCast, some_is2 hp hq hi]
    unfold oddN
    by_cases hip : i < p
    · rw [decide_eq_true (p := (i : Int) < p) (by omega), show Nat.blt i p = true by rw [Nat.blt_eq]; exact hip]
      have ew : IntKind.i64.wrap ((q : Int) + 1) = q + 1 := wrapN (by omega) (by omega)
      by_cases hqi : q ≤ i
      · rw [decide_eq_true (p := (i : Int) ≥ q) (by omega), show Nat.ble q i = true by rw [Nat.ble_eq]; exact hqi, ew]
        cases decide (k ≥ 1) <;> simp
      · rw [decide_eq_false (p := (i : Int) ≥ q) (by omega), show Nat.ble q i = false by rw [← Bool.not_eq_true, Nat.ble_eq]; exact hqi]
        cases decide (k ≥ 1) <;> simp
    · rw [decide_eq_false (p := (i : Int) < p) (by omega), show Nat.blt i p = false by rw [← Bool.not_eq_true, Nat.blt_eq]; exact hip]
      cases hk : decide (k ≥ 1) with
      | false => rfl
      | true =>
        rw [decide_eq_true_eq] at hk
        simp only [cond_false, Bool.false_and, Bool.true_and]
        rw [decide_eq_false (by omega)]; rfl

end Go.Proofs.Ytjjnmafoakoenaa.Vw
