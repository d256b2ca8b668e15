/-
  The law of a key that is asked many times.
-/
import Derived.Test.YtgemcihcnmkkbaaPrH
namespace Go.Proofs.Ytgemcihcnmkkbaa.Pr
open Go.RowKit Go.Proofs.Ytgemcihcnmkkbaa.Sx Go.Proofs.Ytgemcihcnmkkbaa.Pw
set_option linter.unusedVariables false

abbrev fMany : Nat := 7
abbrev tRKey : Nat := 35
def mI (cs : List SC) (ty : TypeId) (len : Nat) (x Y n i d y m u : Int) : St := ⟨[(1, .c (.slc 0 0 1 len none)), (5, .c (.ptr 1 0)), (6, .c (.ptr 2 0)), (7, .c (.int n)), (8, .c (.int i))], [(0, some ⟨cs, ty, true, false⟩), (1, some ⟨keyC x d 0 0 y m u, tKey, false, true⟩), (2, some ⟨[.int x, .int Y], tRKey, false, true⟩)], 3, 79⟩
def mCut (j l : Nat) : Cut := ⟨[(1, false), (5, false), (6, false), (7, true), (8, true)], [(0, 0, true), (j, 1, true), (l, 2, true)], 3⟩
def mL (S : List SC → Int) (W : Int → Int → Int) : List (Nat × Con) := [(fShared, sharedC), (frShared, rsharedC), (fPub, pubG W), (fUses, usesC), (fMade, madeC), (fKnown3, knownC), (fFrom, fromG S), (frFrom, rfromG S W)]
theorem mL_ok {S : List SC → Int} {W : Int → Int → Int} (hS : S = scalS) (hW : W = powS) : LibOK Try.prog (mL S W) :=
  LibOK.cons shared_ok (LibOK.cons rshared_ok (LibOK.cons (pubG_ok hW) (LibOK.cons uses_ok (LibOK.cons made_ok (LibOK.cons known_ok (LibOK.cons (fromG_ok hS) (LibOK.cons (rfromG_ok hS hW) (LibOK.nil _))))))))

def hN (x : Bool) : Nat → Bool → Bool
  | 0, acc => acc
  | n + 1, acc => bnd (hN x n acc) (x == false && true)
theorem hN_false (n : Nat) (acc : Bool) : hN false n acc = acc := by
  induction n with
  | zero => rfl
  | succ n ih => simp [hN, ih, bnd]
section
variable (cs : List SC) (len : Nat) (i : Int) (x Y : Int)
def mP : Int := (cs.getD (0 + i.toNat * 1) .nilp).asInt
def mRd (acc : Bool) : Bool := bnd (bnd acc (decide (0 ≤ i) && (Nat.blt i.toNat len && true))) (Nat.blt (0 + i.toNat * 1) cs.length && (cs.getD (0 + i.toNat * 1) .nilp).isInt)
def mA : Bool := !(Sp.eqH (shI x (mP cs i)) (shI x (mP cs i)))
def mB : Bool := bif mA cs i x then true else !(isS (mP cs i) == isS (mP cs i))
def mC : Bool := bif mB cs i x then true else !(Y == Y)
def mOb (is : Bool) : Bool := bnd (bnd (bnd (hN (mB cs i x) 5 (hN (mA cs i x) 3 (mRd cs len i (mRd cs len i (bnd true (decide (i < (len : Int)))))))) (!mC cs i x Y)) is) (cs.all SC.plain && true)
end
def mPre (hs cs : List SC) (len : Nat) : Bool := bnd (bnd (bnd (bnd (bnd (bnd true (!decide ((len : Int) > 20))) (Nat.ble (0 + 32) hs.length)) (sF hs)) (Nat.ble (0 + 32) hs.length)) (h32 (hs.take 32))) (cs.all SC.plain && true)
def mE (len : Nat) (b : Bool) (n : Int) : Bool := bif n == n then b == decide ((len : Int) > 0) else false
def mFin (len : Nat) (b : Bool) (n : Int) : Bool := gN (mE len b n) 1 (gN (n == n) 6 true)

theorem many_at {S : List SC → Int} {W : Int → Int → Int} (hS : S = scalS) (hW : W = powS) (hs : List UInt8) (xs : List Int) (ty : TypeId) (w : World) (hh : hs.length = 32) : Sx.Fn Try.prog fMany (atW w 0) [.agg (hs.map SC.u8), .c (.slc 0 0 1 xs.length none)] [(0, some ⟨xs.map SC.int, ty, true, false⟩)] 1 fun r _ => r = .c (.bool true) := by
  have htk : (hs.map SC.u8).take 32 = hs.map SC.u8 := take32 hh
  by_cases hA : (xs.length : Int) > 20
  · exact Fn.xv (fuel := 1000) (told := [true]) (mL_ok hS hW) Sp.mixed (r := .c (.bool true)) (ob := bnd true (decide ((xs.length : Int) > 20))) (obs := []) (by kernel_rfl) (by rw [decide_eq_true hA]; rfl) trivial rfl
  have hpl : (xs.map SC.int).all SC.plain = true := by rw [List.all_eq_true]; intro y hy; obtain ⟨_, _, rfl⟩ := List.mem_map.1 hy; rfl
  have hrd : ∀ i : Int, 0 ≤ i → i < xs.length → ∀ acc, mRd (xs.map SC.int) xs.length i acc = acc := fun i h0 h1 acc => by
    have hlt : i.toNat < xs.length := by omega
    have hb : Nat.blt i.toNat xs.length = true := by rw [Nat.blt_eq]; exact hlt
    have hg : ((xs.map SC.int).getD i.toNat .nilp).isInt = true := by simp [List.getD, hlt, SC.isInt]
    unfold mRd
    rw [Nat.zero_add, Nat.mul_one, List.length_map, hb, hg, decide_eq_true h0]
    simp [bnd]
  have hob : ∀ (i : Int) (x Y : Int) (is : Bool), 0 ≤ i → i < xs.length → is = true → mOb (xs.map SC.int) xs.length i x Y is = true := fun i x Y is h0 h1 h2 => by
    have e1 : mA (xs.map SC.int) i x = false := by unfold mA; rw [Sp.eqH_self]; rfl
    have e2 : mB (xs.map SC.int) i x = false := by unfold mB; rw [e1]; simp
    have e3 : mC (xs.map SC.int) i x Y = false := by unfold mC; rw [e2]; simp
    unfold mOb
    rw [e1, e2, e3, hN_false, hN_false, hrd i h0 h1, hrd i h0 h1, hpl, h2, decide_eq_true h1]; rfl
  refine Sx.Fn.of (nt := 79) (by kernel_rfl) rfl ?_
  refine SWs.step (mL_ok hS hW) Sp.mixed (fuel := 1000) (n := 8) (told := [false, false]) (un := []) (c := mCut 25 37) (t := mI (xs.map SC.int) ty xs.length (S ((hs.map SC.u8).take 32)) (W 4 (S ((hs.map SC.u8).take 32))) 0 0 0 0 0 0) (ob := mPre (hs.map SC.u8) (xs.map SC.int) xs.length) (obs := []) (by kernel_rfl) ?_ trivial ?_
  · unfold mPre
    rw [sF_eq hh, take32 hh, h32_of hh, hpl, decide_eq_false hA, List.length_map, hh]; rfl
  generalize S ((hs.map SC.u8).take 32) = x
  refine SWs.loop (by kernel_rfl) (fun q : Nat × Int => match q.1 with
    | 0 => mI (xs.map SC.int) ty xs.length x (W 4 x) 0 0 0 0 0 0
    | k + 1 => mI (xs.map SC.int) ty xs.length x (W 4 x) q.2 ((k + 1 : Nat) : Int) 1 (W 4 x) 1 q.2) (fun q => xs.length - q.1) (fun q => q.1 ≤ xs.length ∧ 0 ≤ q.2 ∧ q.2 ≤ q.1) (0, 0) ⟨Nat.zero_le _, by omega, by omega⟩ ?_
  rintro ⟨i, n⟩ ⟨h1, h2, h3⟩
  simp only at h1 h2 h3
  have w1 : ∀ k : Int, 0 ≤ k → k ≤ 20 → IntKind.i64.wrap (k + 1) = k + 1 := fun k hk0 hk1 => Sp.wrap_id (by omega) (by omega)
  cases i with
  | zero =>
    simp only
    by_cases hlt : 0 < xs.length
    · cases hi : isS (mP (xs.map SC.int) 0) with
      | true =>
        refine SWs.round (mL_ok hS hW) Sp.mixed (fuel := 1000) (n := 4) (told := [true, false, false, false, true]) (un := []) (c := mCut 1 2) (t := mI (xs.map SC.int) ty xs.length x (W 4 x) (IntKind.i64.wrap (0 + 1)) (IntKind.i64.wrap (0 + 1)) 1 (W 4 x) 1 (bif isS (mP (xs.map SC.int) 0) then IntKind.i64.wrap (0 + 1) else 0))
          (ob := mOb (xs.map SC.int) xs.length 0 x (W 4 x) (isS (mP (xs.map SC.int) 0))) (obs := [.c (.int (W 4 x)) = SV.c (.int (W 4 x))]) (by kernel_rfl) (by kernel_rfl) (hob 0 _ _ _ (by omega) (by omega) hi) ⟨rfl, trivial⟩ ?_
        rw [hi, cond_true, w1 0 (by omega) (by omega)]
        exact ⟨(1, 1), ⟨by omega, by omega, by omega⟩, by simp only; omega, rfl⟩
      | false =>
        refine SWs.round (mL_ok hS hW) Sp.mixed (fuel := 1000) (n := 4) (told := [true, false, false, false, false]) (un := []) (c := mCut 1 2) (t := mI (xs.map SC.int) ty xs.length x (W 4 x) 0 (IntKind.i64.wrap (0 + 1)) 1 (W 4 x) 1 (bif isS (mP (xs.map SC.int) 0) then IntKind.i64.wrap (0 + 1) else 0))
          (ob := mOb (xs.map SC.int) xs.length 0 x (W 4 x) (!isS (mP (xs.map SC.int) 0))) (obs := [.c (.int (W 4 x)) = SV.c (.int (W 4 x))]) (by kernel_rfl) (by kernel_rfl) (hob 0 _ _ _ (by omega) (by omega) (by rw [hi]; rfl)) ⟨rfl, trivial⟩ ?_
        rw [hi, cond_false, w1 0 (by omega) (by omega)]
        exact ⟨(1, 0), ⟨by omega, by omega, by omega⟩, by simp only; omega, rfl⟩
    · refine SWs.out (mL_ok hS hW) Sp.mixed (fuel := 1000) (n := 2) (told := [false]) (un := []) (c := mCut 1 2) (t := mI (xs.map SC.int) ty xs.length x (W 4 x) 0 0 0 0 0 0) (ob := bnd (bnd true (!decide ((0 : Int) < (xs.length : Int)))) ((xs.map SC.int).all SC.plain && true)) (obs := []) (by kernel_rfl) (by rw [hpl, decide_eq_false (by omega)]; rfl) trivial ?_
      have hE : mE xs.length false 0 = true := by unfold mE; rw [decide_eq_false (by omega)]; rfl
      refine SWs.finv (mL_ok hS hW) Sp.mixed (fuel := 1000) (n := 100) (told := [true, true]) (v := .c (.bool (bif mE xs.length false 0 then true else false))) (ob := mFin xs.length false 0) (obs := []) (by kernel_rfl) ?_ trivial (by rw [hE]; rfl)
      unfold mFin
      rw [hE]; rfl
  | succ k =>
    simp only
    by_cases hlt : k + 1 < xs.length
    · cases hi : isS (mP (xs.map SC.int) ((k + 1 : Nat) : Int)) with
      | true =>
        refine SWs.round (mL_ok hS hW) Sp.mixed (fuel := 1000) (n := 4) (told := [true, false, false, false, true]) (un := []) (c := mCut 1 2) (t := mI (xs.map SC.int) ty xs.length x (W 4 x) (IntKind.i64.wrap (n + 1)) (IntKind.i64.wrap (((k + 1 : Nat) : Int) + 1)) 1 (W 4 x) 1 (bif isS (mP (xs.map SC.int) ((k + 1 : Nat) : Int)) then IntKind.i64.wrap (n + 1) else n))
          (ob := mOb (xs.map SC.int) xs.length ((k + 1 : Nat) : Int) x (W 4 x) (isS (mP (xs.map SC.int) ((k + 1 : Nat) : Int)))) (obs := [.c (.int (W 4 x)) = SV.c (.int (W 4 x))]) (by kernel_rfl) (by kernel_rfl) (hob _ _ _ _ (by omega) (by omega) hi) ⟨rfl, trivial⟩ ?_
        rw [hi, cond_true, w1 n (by omega) (by omega), w1 ((k + 1 : Nat) : Int) (by omega) (by omega)]
        exact ⟨(k + 2, n + 1), ⟨by omega, by omega, by omega⟩, by simp only; omega, rfl⟩
      | false =>
        refine SWs.round (mL_ok hS hW) Sp.mixed (fuel := 1000) (n := 4) (told := [true, false, false, false, false]) (un := []) (c := mCut 1 2) (t := mI (xs.map SC.int) ty xs.length x (W 4 x) n (IntKind.i64.wrap (((k + 1 : Nat) : Int) + 1)) 1 (W 4 x) 1 (bif isS (mP (xs.map SC.int) ((k + 1 : Nat) : Int)) then IntKind.i64.wrap (n + 1) else n))
          (ob := mOb (xs.map SC.int) xs.length ((k + 1 : Nat) : Int) x (W 4 x) (!isS (mP (xs.map SC.int) ((k + 1 : Nat) : Int)))) (obs := [.c (.int (W 4 x)) = SV.c (.int (W 4 x))]) (by kernel_rfl) (by kernel_rfl) (hob _ _ _ _ (by omega) (by omega) (by rw [hi]; rfl)) ⟨rfl, trivial⟩ ?_
        rw [hi, cond_false, w1 ((k + 1 : Nat) : Int) (by omega) (by omega)]
        exact ⟨(k + 2, n), ⟨by omega, by omega, by omega⟩, by simp only; omega, rfl⟩
    · refine SWs.out (mL_ok hS hW) Sp.mixed (fuel := 1000) (n := 2) (told := [false]) (un := []) (c := mCut 1 2) (t := mI (xs.map SC.int) ty xs.length x (W 4 x) n ((k + 1 : Nat) : Int) 1 (W 4 x) 1 n) (ob := bnd (bnd true (!decide (((k + 1 : Nat) : Int) < (xs.length : Int)))) ((xs.map SC.int).all SC.plain && true)) (obs := []) (by kernel_rfl) (by rw [hpl, decide_eq_false (by omega)]; rfl) trivial ?_
      have hE : mE xs.length true n = true := by unfold mE; rw [decide_eq_true (by omega)]; simp
      refine SWs.finv (mL_ok hS hW) Sp.mixed (fuel := 1000) (n := 100) (told := [true, true]) (v := .c (.bool (bif mE xs.length true n then true else false))) (ob := mFin xs.length true n) (obs := []) (by kernel_rfl) ?_ trivial (by rw [hE]; rfl)
      unfold mFin
      rw [hE]
      simp [gN, bnd]
theorem pairMany_fn (hs : List UInt8) (xs : List Int) (ty : TypeId) (w : World) (hh : hs.length = 32) : Sx.Fn Try.prog fMany (atW w 0) [.agg (hs.map SC.u8), .c (.slc 0 0 1 xs.length none)] [(0, some ⟨xs.map SC.int, ty, true, false⟩)] 1 fun r _ => r = .c (.bool true) := many_at rfl rfl hs xs ty w hh

end Go.Proofs.Ytgemcihcnmkkbaa.Pr
