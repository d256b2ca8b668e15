/-
  Whether signatures hold; that those which are made do.
-/
import Derived.Test.YtionkonamhbjoaaSgA
namespace Go.Proofs.Ytionkonamhbjoaa.Sg
open Go.RowKit Go.Proofs.Ytionkonamhbjoaa.Sx Go.Proofs.Ytionkonamhbjoaa.Pw Go.Proofs.Ytionkonamhbjoaa.Pr
open Go.Proofs.Ytionkonamhbjoaa.Sp (rd rdB rd_eq rdB_eq rd_own rdB_own hc deriveS isU8s asU8s)
set_option linter.unusedVariables false

def inQ (a : Int) : Bool := bif g0 a then decide (a < 1073741789) else false
theorem inQ_iff {a : Int} : inQ a = true ↔ 0 ≤ a ∧ a < 1073741789 := by
  unfold inQ g0
  by_cases h : a ≥ 0
  · rw [decide_eq_true h]; simp; omega
  · rw [decide_eq_false h]; simp; omega
def inQC : Con := pureCon fun | [.c (.int a)] => some (.c (.bool (inQ a))) | _ => none
theorem inQ_ok : ConOK Try.prog fInQ inQC := by
  refine pureCon_ok (fn := Try.f33) (by kernel_rfl) rfl rfl fun args v h => ?_
  split at h <;> try (cases h; done)
  rename_i a
  simp only [Option.some.injEq] at h; subst h
  refine ⟨rfl, rfl, fun w => ?_⟩
  cases hg : g0 a with
  | true => exact Fn.xv (fuel := 1000) (told := [true]) (LibOK.nil _) Sp.mixed (r := .c (.bool (bif g0 a then decide (a < 1073741789) else false))) (ob := bnd (bnd true (g0 a == true && true)) (g0 a == true && true)) (obs := []) (by kernel_rfl) (by rw [hg]; rfl) trivial rfl
  | false => exact Fn.xv (fuel := 1000) (told := [false]) (LibOK.nil _) Sp.mixed (r := .c (.bool false)) (ob := bnd (bnd (bnd true (g0 a == false && true)) (g0 a == false && true)) (!g0 a)) (obs := []) (by kernel_rfl) (by rw [hg]; rfl) trivial (by unfold inQ; rw [hg]; rfl)

/-- The point that a signature stands for. -/
def backS (y E S : Int) : Int := mulS (powS 4 S) (powS y (IntKind.i64.wrap (1073741789 - E)))
def vA (y : Int) : Bool := !isS y
def vB (y E : Int) : Bool := bif vA y then true else !inQ E
def vC (y E S : Int) : Bool := bif vB y E then true else !inQ S
def verS (y : Int) (bs : List UInt8) (E S : Int) : Bool := bif vC y E S then false else E == chalS (backS y E S) y bs
def q4 (x g acc : Bool) : Bool := bnd (bnd (bnd (bnd acc (x == g && true)) (x == g && true)) (x == g && true)) (x == g && true)
def q3 (x g acc : Bool) : Bool := bnd (bnd (bnd acc (x == g && true)) (x == g && true)) (x == g && true)
theorem q4_eq (x : Bool) : q4 x x true = true := by cases x <;> rfl
theorem q3_eq (x : Bool) : q3 x x true = true := by cases x <;> rfl
def verSpec (ps : List SV) (bs : List UInt8) : Option SV := match ps with | [.c (.int y), .agg [.int E, .int S]] => some (.c (.bool (verS y bs E S))) | _ => none
def verC : Con := bytesMid 1 100000 (fun _ => true) verSpec
theorem ver_lib : LibOK Try.prog [(fpIs, isC), (fInQ, inQC), (fpPow, powC), (fpMul, mulC), (fChal, chalC)] := LibOK.cons pis_ok (LibOK.cons inQ_ok (LibOK.cons ppow_ok (LibOK.cons pmul_ok (LibOK.cons chal_ok (LibOK.nil _)))))
theorem ver_split {pre post : List SV} {bs : List UInt8} {v : SV} (hl : pre.length = 1) (h : verSpec (pre ++ post) bs = some v) : ∃ y E S, pre = [.c (.int y)] ∧ post = [.agg [.int E, .int S]] ∧ v = .c (.bool (verS y bs E S)) := by
  match pre, hl with
  | [p0], _ =>
    unfold verSpec at h
    split at h <;> try (cases h; done)
    rename_i ps y E S heq
    simp only [List.singleton_append, List.cons.injEq] at heq
    obtain ⟨rfl, rfl⟩ := heq
    simp only [Option.some.injEq] at h
    exact ⟨y, E, S, rfl, rfl, h.symm⟩
theorem ver_ok : ConOK Try.prog fVer verC := by
  refine bytesMid_ok (fn := Try.f15) (by kernel_rfl) rfl rfl fun pre post bs v hl _ h => ?_
  obtain ⟨y, E, S, rfl, rfl, rfl⟩ := ver_split hl h
  refine ⟨fun ρ ρ' u h => plainS_R h rfl, fun w off b hb hbl => ?_⟩
  cases hA : vA y with
  | true =>
    have hC : vC y E S = true := by unfold vC vB; rw [hA]; rfl
    exact Fn.xv (fuel := 1000) (told := [true]) ver_lib Sp.mixed (r := .c (.bool false)) (ob := bnd (q4 (vA y) true true) (vA y)) (obs := []) (by kernel_rfl) (by rw [hA]; rfl) trivial (by unfold verS; rw [hC]; rfl)
  | false =>
  cases hB : vB y E with
  | true =>
    have hC : vC y E S = true := by unfold vC; rw [hB]; rfl
    exact Fn.xv (fuel := 1000) (told := [false, true]) ver_lib Sp.mixed (r := .c (.bool false)) (ob := bnd (q4 (vB y E) true (q4 (vA y) false true)) (vB y E)) (obs := []) (by kernel_rfl) (by rw [hA, hB]; rfl) trivial (by unfold verS; rw [hC]; rfl)
  | false =>
  cases hC : vC y E S with
  | true => exact Fn.xv (fuel := 1000) (told := [false, false, true]) ver_lib Sp.mixed (r := .c (.bool false)) (ob := bnd (q4 (vB y E) false (q4 (vA y) false true)) (vC y E S)) (obs := []) (by kernel_rfl) (by rw [hA, hB, hC]; rfl) trivial (by unfold verS; rw [hC]; rfl)
  | false => exact Fn.xv (fuel := 1000) (told := [false, false, false]) ver_lib Sp.mixed (r := .c (.bool (E == chalS (backS y E S) y (rdB off bs.length b)))) (ob := bnd (bnd (q4 (vB y E) false (q4 (vA y) false true)) (!vC y E S)) (rowOk1 off bs.length b)) (obs := []) (by kernel_rfl) (by rw [hA, hB, hC, rowOk1_eq hb (by omega)]; rfl) trivial (by unfold verS; rw [hC, rdB_eq hb]; rfl)

/-! The document's. -/
def wB (y E : Int) : Bool := bif vA y then true else decide (E < 0)
def wC (y E : Int) : Bool := bif wB y E then true else decide (E ≥ 1073741789)
def wD (y E S : Int) : Bool := bif wC y E then true else decide (S < 0)
def wE (y E S : Int) : Bool := bif wD y E S then true else decide (S ≥ 1073741789)
theorem wE_eq (y E S : Int) : wE y E S = vC y E S := by
  have hq : ∀ a : Int, (!inQ a) = (decide (a < 0) || decide (a ≥ 1073741789)) := fun a => by
    cases h : inQ a with
    | true => have := inQ_iff.1 h; simp; omega
    | false =>
      have : ¬ (0 ≤ a ∧ a < 1073741789) := fun h' => by rw [inQ_iff.2 h'] at h; cases h
      simp; omega
  unfold wE wD wC wB vC vB
  rw [hq, hq]
  cases vA y <;> cases decide (E < 0) <;> cases decide (E ≥ 1073741789) <;> cases decide (S < 0) <;> rfl
theorem rver_lib : LibOK Try.prog [(frIs, isC), (frPow, powC), (frMul, mulC), (frChal, chalC)] := LibOK.cons ris_ok (LibOK.cons rpow_ok (LibOK.cons rmul_ok (LibOK.cons rchal_ok (LibOK.nil _))))
theorem rver_ok : ConOK Try.prog frVer verC := by
  refine bytesMid_ok (fn := Try.f17) (by kernel_rfl) rfl rfl fun pre post bs v hl _ h => ?_
  obtain ⟨y, E, S, rfl, rfl, rfl⟩ := ver_split hl h
  refine ⟨fun ρ ρ' u h => plainS_R h rfl, fun w off b hb hbl => ?_⟩
  have hv : wE y E S = true → (SV.c (.bool false)) = .c (.bool (verS y bs E S)) := fun h => by
    rw [wE_eq] at h
    unfold verS; rw [h]; rfl
  cases hA : vA y with
  | true =>
    have hE : wE y E S = true := by unfold wE wD wC wB; rw [hA]; rfl
    exact Fn.xv (fuel := 1000) (told := [true]) rver_lib Sp.mixed (r := .c (.bool false)) (ob := bnd (q3 (vA y) true true) (vA y)) (obs := []) (by kernel_rfl) (by rw [hA]; rfl) trivial (hv hE)
  | false =>
  cases hB : wB y E with
  | true =>
    have hE : wE y E S = true := by unfold wE wD wC; rw [hB]; rfl
    exact Fn.xv (fuel := 1000) (told := [false, true]) rver_lib Sp.mixed (r := .c (.bool false)) (ob := bnd (q3 (wB y E) true (q3 (vA y) false true)) (wB y E)) (obs := []) (by kernel_rfl) (by rw [hA, hB]; rfl) trivial (hv hE)
  | false =>
  cases hC : wC y E with
  | true =>
    have hE : wE y E S = true := by unfold wE wD; rw [hC]; rfl
    exact Fn.xv (fuel := 1000) (told := [false, false, true]) rver_lib Sp.mixed (r := .c (.bool false)) (ob := bnd (q3 (wC y E) true (q3 (wB y E) false (q3 (vA y) false true))) (wC y E)) (obs := []) (by kernel_rfl) (by rw [hA, hB, hC]; rfl) trivial (hv hE)
  | false =>
  cases hD : wD y E S with
  | true =>
    have hE : wE y E S = true := by unfold wE; rw [hD]; rfl
    exact Fn.xv (fuel := 1000) (told := [false, false, false, true]) rver_lib Sp.mixed (r := .c (.bool false)) (ob := bnd (q3 (wD y E S) true (q3 (wC y E) false (q3 (wB y E) false (q3 (vA y) false true)))) (wD y E S)) (obs := []) (by kernel_rfl) (by rw [hA, hB, hC, hD]; rfl) trivial (hv hE)
  | false =>
  cases hE : wE y E S with
  | true => exact Fn.xv (fuel := 1000) (told := [false, false, false, false, true]) rver_lib Sp.mixed (r := .c (.bool false)) (ob := bnd (q3 (wD y E S) false (q3 (wC y E) false (q3 (wB y E) false (q3 (vA y) false true)))) (wE y E S)) (obs := []) (by kernel_rfl) (by rw [hA, hB, hC, hD, hE]; rfl) trivial (hv hE)
  | false => exact Fn.xv (fuel := 1000) (told := [false, false, false, false, false]) rver_lib Sp.mixed (r := .c (.bool (chalS (backS y E S) y (rdB off bs.length b) == E))) (ob := bnd (bnd (q3 (wD y E S) false (q3 (wC y E) false (q3 (wB y E) false (q3 (vA y) false true)))) (!wE y E S)) (rowOk1 off bs.length b)) (obs := []) (by kernel_rfl) (by rw [hA, hB, hC, hD, hE, rowOk1_eq hb (by omega)]; rfl) trivial (by
      have hc : vC y E S = false := by rw [← wE_eq]; exact hE
      unfold verS; rw [hc, rdB_eq hb, cond_false, Bool.beq_comm])

/-! What is signed holds. -/
theorem four_mod (m : Nat) : 4 ^ (m % prQ) % prP = 4 ^ m % prP := by
  have h : m = prQ * (m / prQ) + m % prQ := (Nat.div_add_mod m prQ).symm
  have e : 4 ^ m = (4 ^ prQ) ^ (m / prQ) * 4 ^ (m % prQ) := by rw [← Nat.pow_mul, ← Nat.pow_add, ← h]
  have h1 : (4 ^ prQ) ^ (m / prQ) % prP = 1 := by rw [Nat.pow_mod, four_q, Nat.one_pow]; rfl
  rw [e, Nat.mul_mod, h1, Nat.one_mul, Nat.mod_mod]
theorem back_eq {x n e : Nat} (hx0 : 0 < x) (hx : x < prQ) (hn : n < prQ) (he : e < prQ) : backS (powS 4 (x : Int)) (e : Int) (((n + e * x) % prQ : Nat) : Int) = powS 4 (n : Int) := by
  have hQ : prQ = 1073741789 := rfl
  have hw : IntKind.i64.wrap (1073741789 - (e : Int)) = ((prQ - e : Nat) : Int) := by rw [IntKind.wrap_i64]; omega
  have hm : (n + e * x) % prQ < prQ := Nat.mod_lt _ (by decide)
  unfold backS
  rw [hw, pub_nat hm, pub_nat hx, powS_nat (Nat.mod_lt _ (by decide)) (Nat.sub_le _ _), mulS_eq (Nat.mod_lt _ (by decide)) (Nat.mod_lt _ (by decide)), pub_nat hn]
  congr 1
  rw [← Nat.pow_mod, ← Nat.pow_mul, four_mod, ← Nat.mul_mod, ← Nat.pow_add]
  have : n + e * x + x * (prQ - e) = n + prQ * x := by
    have h1 : x * (prQ - e) + x * e = x * prQ := by rw [← Nat.mul_add]; congr 1; omega
    have h2 : e * x = x * e := Nat.mul_comm _ _
    have h3 : prQ * x = x * prQ := Nat.mul_comm _ _
    omega
  rw [this, ← four_mod, Nat.add_mul_mod_self_left, four_mod]
theorem chal_nat (r y : Int) (bs : List UInt8) : ∃ e : Nat, chalS r y bs = (e : Int) ∧ e < prQ := by
  have ⟨h1, h2⟩ := numS_bd (hc (chalH r y bs))
  have hQ : prQ = 1073741789 := rfl
  have e : chalS r y bs = numS (hc (chalH r y bs)) := rfl
  exact ⟨(chalS r y bs).toNat, by omega, by omega⟩
theorem nonce_nat (x : Int) (bs : List UInt8) : ∃ n : Nat, nonceS x bs = (n : Int) ∧ 0 < n ∧ n < prQ := scal_nat _
/-- A signature's parts. -/
theorem sign_nat {x : Nat} (hx : x < prQ) (y : Int) (bs : List UInt8) : ∃ n e : Nat, nonceS x bs = n ∧ n < prQ ∧ signEE x y bs = e ∧ e < prQ ∧ signSS x y bs = (((n + e * x) % prQ : Nat) : Int) := by
  obtain ⟨n, hn, _, hnQ⟩ := nonce_nat x bs
  obtain ⟨e, he, heQ⟩ := chal_nat (powS 4 (nonceS x bs)) y bs
  have hQ : prQ = 1073741789 := rfl
  refine ⟨n, e, hn, hnQ, he, heQ, ?_⟩
  have hmul : e * x ≤ 1073741789 * 1073741789 := Nat.mul_le_mul (by omega) (by omega)
  unfold signSS
  have he' : signEE x y bs = e := he
  rw [hn, he']
  have h1 : IntKind.i64.wrap ((e : Int) * (x : Int)) = ((e * x : Nat) : Int) := by rw [← Int.natCast_mul, IntKind.wrap_i64]; omega
  have h2 : IntKind.i64.wrap ((n : Int) + ((e * x : Nat) : Int)) = ((n + e * x : Nat) : Int) := by rw [IntKind.wrap_i64]; omega
  rw [h1, h2, Int.tmod_eq_emod_of_nonneg (by omega)]
  exact (Int.natCast_emod _ _).symm
theorem sign_holds {x : Nat} (hx0 : 0 < x) (hx : x < prQ) (bs : List UInt8) : verS (powS 4 (x : Int)) bs (signEE x (powS 4 (x : Int)) bs) (signSS x (powS 4 (x : Int)) bs) = true := by
  obtain ⟨n, e, hn, hnQ, he, heQ, hs⟩ := sign_nat hx (powS 4 (x : Int)) bs
  have hQ : prQ = 1073741789 := rfl
  have hm : (n + e * x) % prQ < prQ := Nat.mod_lt _ (by decide)
  have hA : vA (powS 4 (x : Int)) = false := by
    unfold vA
    rw [pub_nat hx, isS_pow (q_coprime hx0 hx)]; rfl
  have hB : inQ (e : Int) = true := inQ_iff.2 ⟨by omega, by omega⟩
  have hC : inQ (((n + e * x) % prQ : Nat) : Int) = true := inQ_iff.2 ⟨by omega, by omega⟩
  unfold verS vC vB
  rw [he, hs, hA, hB, hC, back_eq hx0 hx hnQ heQ]
  simp only [cond_false, Bool.not_true, beq_iff_eq]
  rw [← he, ← hn]
  rfl

end Go.Proofs.Ytionkonamhbjoaa.Sg
