/-
  The numbers that G's powers are: how often G times itself is one.
-/
import Derived.Test.YtkpdkfeklecehaaPwA
namespace Go.Proofs.Ytkpdkfeklecehaa.Pw
open Go.RowKit Go.Proofs.Ytkpdkfeklecehaa.Sx
set_option linter.unusedVariables false

/-- No number from 2 to k + 1 divides. -/
def noDiv : Nat → Bool
  | 0 => true
  | k + 1 => !(Nat.beq (prQ % (k + 2)) 0) && noDiv k
theorem noDiv_spec : ∀ {k : Nat}, noDiv k = true → ∀ d, 2 ≤ d → d ≤ k + 1 → ¬ d ∣ prQ
  | 0, _, d, h1, h2, _ => by omega
  | k + 1, h, d, h1, h2, hd => by
    simp only [noDiv, Bool.and_eq_true, Bool.not_eq_true'] at h
    rcases Nat.eq_or_lt_of_le h2 with rfl | h2
    · have := Nat.mod_eq_zero_of_dvd hd
      rw [this] at h; simp at h
    · exact noDiv_spec h.2 d h1 (by omega) hd
theorem noDiv_Q : noDiv 32767 = true := by kernel_rfl
theorem q_prime {d : Nat} (hd : d ∣ prQ) : d = 1 ∨ d = prQ := by
  obtain ⟨c, hc⟩ := hd
  have hQ : prQ = 1073741789 := rfl
  rcases Nat.lt_or_ge 32768 d with h | h
  · right
    have hc1 : c ≤ 32768 := by
      refine Classical.byContradiction fun hn => ?_
      have : 32769 * 32769 ≤ d * c := Nat.mul_le_mul (by omega) (by omega)
      omega
    have hc2 : ¬ 2 ≤ c := fun h2 => noDiv_spec noDiv_Q c h2 (by omega) ⟨d, by rw [hc, Nat.mul_comm]⟩
    have : c = 1 := by
      rcases Nat.eq_zero_or_pos c with rfl | h0
      · simp at hc
      · omega
    subst this; omega
  · left
    have hd2 : ¬ 2 ≤ d := fun h2 => noDiv_spec noDiv_Q d h2 (by omega) ⟨c, hc⟩
    rcases Nat.eq_zero_or_pos d with rfl | h0
    · simp at hc
    · omega
theorem q_coprime {s : Nat} (h0 : 0 < s) (h1 : s < prQ) : Nat.gcd s prQ = 1 := by
  rcases q_prime (Nat.gcd_dvd_right s prQ) with h | h
  · exact h
  · exfalso
    have : prQ ∣ s := by rw [← h]; exact Nat.gcd_dvd_left s prQ
    have := Nat.le_of_dvd h0 this
    omega

/-- Powers by squaring. -/
def pmodF : Nat → Nat → Nat → Nat
  | 0, _, _ => 1
  | f + 1, b, e => bif Nat.beq (e % 2) 1 then b * pmodF f (b * b % prP) (e / 2) % prP else pmodF f (b * b % prP) (e / 2)
theorem pmodF_eq : ∀ (f b e : Nat), e < 2 ^ f → pmodF f b e = b ^ e % prP
  | 0, b, e, h => by
    have : e = 0 := by omega
    subst this; rfl
  | f + 1, b, e, h => by
    have ih := pmodF_eq f (b * b % prP) (e / 2) (by rw [Nat.pow_succ] at h; omega)
    have h2 : (b * b % prP) ^ (e / 2) % prP = b ^ (2 * (e / 2)) % prP := by rw [← Nat.pow_mod, Nat.pow_mul, Nat.pow_two]
    simp only [pmodF, ih, h2]
    by_cases ho : e % 2 = 1
    · rw [ho]
      simp only [Nat.beq_refl, cond_true]
      have he : e = 2 * (e / 2) + 1 := by omega
      conv => rhs; rw [he, Nat.pow_succ]
      rw [Nat.mul_mod, Nat.mod_mod, ← Nat.mul_mod, Nat.mul_comm]
    · have h0 : e % 2 = 0 := by omega
      rw [h0]
      have : Nat.beq 0 1 = false := rfl
      rw [this, cond_false]
      have he : e = 2 * (e / 2) := by omega
      conv => rhs; rw [he]
theorem four_q : 4 ^ prQ % prP = 1 := by
  rw [← pmodF_eq 30 4 prQ (by decide)]
  kernel_rfl

/-- How often is closed under differences. -/
theorem one_gcd (a : Nat) : ∀ (k m n : Nat), m + n ≤ k → a ^ m % prP = 1 → a ^ n % prP = 1 → a ^ Nat.gcd m n % prP = 1
  | 0, m, n, hk, hm, hn => by
    have h1 : m = 0 := by omega
    have h2 : n = 0 := by omega
    subst h1 h2; rfl
  | k + 1, m, n, hk, hm, hn => by
    have sub : ∀ {x y : Nat}, x ≤ y → a ^ x % prP = 1 → a ^ y % prP = 1 → a ^ (y - x) % prP = 1 := fun {x y} h hx hy => by
      have : a ^ y = a ^ (y - x) * a ^ x := by rw [← Nat.pow_add]; congr 1; omega
      rw [this, Nat.mul_mod, hx, Nat.mul_one, Nat.mod_mod] at hy
      exact hy
    rcases Nat.eq_zero_or_pos m with rfl | hm0
    · rw [Nat.gcd_zero_left]; exact hn
    rcases Nat.eq_zero_or_pos n with rfl | hn0
    · rw [Nat.gcd_zero_right]; exact hm
    rcases Nat.le_total m n with h | h
    · have := one_gcd a k m (n - m) (by omega) hm (sub h hm hn)
      rwa [Nat.gcd_sub_self_right h] at this
    · have := one_gcd a k (m - n) n (by omega) (sub h hn hm) hn
      rwa [Nat.gcd_sub_self_left h] at this

theorem pow_q (m : Nat) : (4 ^ m % prP) ^ prQ % prP = 1 := by
  rw [← Nat.pow_mod, ← Nat.pow_mul, Nat.mul_comm, Nat.pow_mul, Nat.pow_mod, four_q, Nat.one_pow]; rfl
theorem pow_gt {m : Nat} (h : Nat.gcd m prQ = 1) : 1 < 4 ^ m % prP := by
  have h1 : 4 ^ m % prP ≠ 1 := fun e => by
    have := one_gcd 4 (m + prQ) m prQ (Nat.le_refl _) e four_q
    rw [h] at this
    exact absurd this (by decide)
  have h0 : 4 ^ m % prP ≠ 0 := fun e => by
    have := pow_q m
    rw [e, Nat.zero_pow (by decide)] at this
    exact absurd this (by decide)
  omega
theorem powN_q {y : Nat} (h : y ^ prQ % prP = 1) : powN y prQ = 1 := by rw [powN_eq]; exact h
theorem powS_of {b e : Nat} (h : pgQ (b : Int) (e : Int) = false) : powS b e = (powN b e : Nat) := by
  unfold powS
  rw [h, cond_false, Int.toNat_natCast, Int.toNat_natCast]
theorem isS_of {y : Nat} (h1 : 1 < y) (h2 : y < 2147483579) (h : powS (y : Int) ((prQ : Nat) : Int) = 1) : isS (y : Int) = true := by
  unfold isS
  rw [decide_eq_true (show (y : Int) > 1 by omega), decide_eq_true (show (y : Int) < 2147483579 by omega), cond_true, cond_true, beq_iff_eq]
  exact h
theorem isS_pow {m : Nat} (h : Nat.gcd m prQ = 1) : isS ((4 ^ m % prP : Nat) : Int) = true := by
  have h1 := pow_gt h
  have h2 : 4 ^ m % prP < prP := Nat.mod_lt _ (by decide)
  have hq := pow_q m
  generalize 4 ^ m % prP = y at h1 h2 hq
  have hin : inN (y : Int) = true := inN_iff.2 ⟨by omega, by simp only [prP] at h2; omega⟩
  refine isS_of h1 h2 ?_
  rw [powS_of (pgQ_iff.2 ⟨hin, by omega, by simp only [prQ]; omega⟩), powN_q hq]; rfl

/-- What a secret's public number is. -/
theorem powS_nat {b e : Nat} (hb : b < prP) (he : e ≤ prQ) : powS b e = ((b ^ e % prP : Nat) : Int) := by
  have hP : prP = 2147483579 := rfl
  have hQ : prQ = 1073741789 := rfl
  have : pgQ (b : Int) (e : Int) = false := pgQ_iff.2 ⟨inN_iff.2 ⟨by omega, by omega⟩, by omega, by omega⟩
  unfold powS
  rw [this, cond_false]; rw [Int.toNat_natCast, Int.toNat_natCast, powN_eq]
theorem scal_nat (cs : List SC) : ∃ s : Nat, scalS cs = (s : Int) ∧ 0 < s ∧ s < prQ := by
  have ⟨h1, h2⟩ := scalS_bd cs
  have hQ : prQ = 1073741789 := rfl
  exact ⟨(scalS cs).toNat, by omega, by omega, by omega⟩
theorem pub_nat {s : Nat} (h : s < prQ) : powS 4 (s : Int) = ((4 ^ s % prP : Nat) : Int) := powS_nat (b := 4) (by decide) (Nat.le_of_lt h)
theorem share_nat {s t : Nat} (hs : s < prQ) (ht : t < prQ) : powS (powS 4 (s : Int)) (t : Int) = ((4 ^ (s * t) % prP : Nat) : Int) := by
  rw [pub_nat hs, powS_nat (Nat.mod_lt _ (by decide)) (Nat.le_of_lt ht), ← Nat.pow_mod, Nat.pow_mul]
theorem share_coprime {s t : Nat} (hs0 : 0 < s) (hs : s < prQ) (ht0 : 0 < t) (ht : t < prQ) : Nat.gcd (s * t) prQ = 1 :=
  Nat.Coprime.mul_left (q_coprime hs0 hs) (q_coprime ht0 ht)

end Go.Proofs.Ytkpdkfeklecehaa.Pw
