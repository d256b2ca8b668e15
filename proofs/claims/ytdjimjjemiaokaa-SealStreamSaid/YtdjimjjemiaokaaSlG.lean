/-
  What was sealed to a key is opened by it as it was.
-/
import Derived.Test.YtdjimjjemiaokaaSlF
import Derived.Test.YtdjimjjemiaokaaPwB
namespace Go.Proofs.Ytdjimjjemiaokaa.Sl
open Go.RowKit Go.Proofs.Ytdjimjjemiaokaa.Sx Go.Proofs.Ytdjimjjemiaokaa.Pw Go.Proofs.Ytdjimjjemiaokaa.Pr
open Go.Proofs.Ytdjimjjemiaokaa.Sp (hc hb deriveS isU8s asU8s tB tH mixed H4)
set_option linter.unusedVariables false

theorem streamS_twice (hs bs : List UInt8) : streamS hs (streamS hs bs) = bs := ext_getD (by rw [streamS_len, streamS_len]) fun i hi => by
  have h1 : i < (streamS hs bs).length := by rw [streamS_len]; exact hi
  have e : ∀ l : List UInt8, i < l.length → (streamS hs l).getD i 0 = l.getD i 0 ^^^ ks (stmK hs) i := fun l hl => by
    unfold streamS
    rw [xorTo_get hl, if_pos hl]
  rw [e _ h1, e _ hi]
  rw [UInt8.xor_assoc, UInt8.xor_self, UInt8.xor_zero]
theorem ofInt_toNat (x : Int) : (UInt8.ofInt x).toNat = (x % 256).toNat := by
  simp [UInt8.ofInt]
  omega
theorem or_add {a b k : Nat} (h : b < 2 ^ k) : a * 2 ^ k ||| b = a * 2 ^ k + b := by
  rw [Nat.mul_comm, Nat.two_pow_add_eq_or_of_lt h]
set_option maxRecDepth 100000 in
theorem numF_nat (a b c d : UInt8) : numF [a, b, c, d] = ((((a.toNat * 256 + b.toNat) * 256 + c.toNat) * 256 + d.toNat : Nat) : Int) := by
  have ha := a.toNat_lt
  have hb := b.toNat_lt
  have hc := c.toNat_lt
  have hd := d.toNat_lt
  generalize hA : a.toNat = A at ha
  generalize hB : b.toNat = B at hb
  generalize hC : c.toNat = C at hc
  generalize hD : d.toNat = D at hd
  have st : ∀ (x : Nat) (c : UInt8), x < 2 ^ 32 → numStep (x : Int) c = ((x * 256 + c.toNat : Nat) : Int) := fun x c hx => by
    have hc := c.toNat_lt
    unfold numStep
    have hw : IntKind.i64.wrap ((x : Int) * 256) = ((x * 256 : Nat) : Int) := by rw [wrap_id (by omega) (by omega)]; omega
    have := or_add (a := x) (b := c.toNat) (k := 8) (by omega)
    rw [show (2 : Nat) ^ 8 = 256 from rfl] at this
    rw [hw, orI_nat (by omega) (by omega), this]
  show numStep (numStep (numStep (numStep 0 a) b) c) d = _
  rw [show numStep 0 a = numStep ((0 : Nat) : Int) a from rfl, st 0 a (by omega), st _ b (by omega), st _ c (by omega), st _ d (by omega), hA, hB, hC, hD]
  congr 1
  omega
theorem four_back {N : Nat} (h : N < 2 ^ 32) : numF (fourB (N : Int)) = (N : Int) := by
  unfold fourB
  rw [numF_nat, ofInt_toNat, ofInt_toNat, ofInt_toNat, ofInt_toNat]
  have e : ∀ k : Nat, ((N : Int).fdiv (k : Int) % 256).toNat = N / k % 256 := fun k => by
    rw [Int.fdiv_eq_ediv_of_nonneg _ (by omega)]
    omega
  have e1 := e 16777216
  have e2 := e 65536
  have e3 := e 256
  have e4 : ((N : Int) % 256).toNat = N % 256 := by omega
  rw [show ((16777216 : Nat) : Int) = 16777216 from by simp] at e1
  rw [show ((65536 : Nat) : Int) = 65536 from by simp] at e2
  rw [show ((256 : Nat) : Int) = 256 from by simp] at e3
  rw [e1, e2, e3, e4]
  congr 1
  omega
theorem pub_range {s : Nat} (h : s < prQ) : ∃ N : Nat, powS 4 (s : Int) = N ∧ N < 2 ^ 32 := ⟨_, pub_nat h, Nat.lt_trans (Nat.mod_lt _ (by decide)) (by decide)⟩
theorem isS_secret {s : Nat} (h0 : 0 < s) (h : s < prQ) : isS (powS 4 (s : Int)) = true := by
  rw [pub_nat h]
  exact isS_pow (q_coprime h0 h)
theorem shI_sym {s t : Nat} (hs0 : 0 < s) (hs : s < prQ) (ht0 : 0 < t) (ht : t < prQ) : shI (s : Int) (powS 4 (t : Int)) = shI (t : Int) (powS 4 (s : Int)) := by
  unfold shI
  rw [isS_secret hs0 hs, isS_secret ht0 ht, cond_true, cond_true]
  unfold shS
  rw [share_nat ht hs, share_nat hs ht, Nat.mul_comm]
section
variable {x : Int} {D : Nat} {pub : Int} {bs : List UInt8}
theorem box_parts (x pub : Int) (bs : List UInt8) : (boxS x pub bs).take 4 = fourB (powS 4 x) ∧ (boxS x pub bs).drop 12 = bodyS x pub bs ∧ ((boxS x pub bs).drop 4).take 8 = tagB (tagH (hl (shI x pub)) (fourB (powS 4 x)) (bodyS x pub bs)) := by
  unfold boxS
  have l4 : (fourB (powS 4 x)).length = 4 := rfl
  have l8 : ∀ H, (tagB H).length = 8 := fun _ => rfl
  refine ⟨by rw [List.take_append_of_le_length (by omega), List.take_of_length_le (by omega)], ?_, ?_⟩
  · rw [show (12 : Nat) = 4 + 8 from rfl, ← List.drop_drop, List.drop_append_of_le_length (by omega), List.drop_of_length_le (l := fourB _) (by omega), List.nil_append, List.drop_append_of_le_length (by rw [l8]; omega), List.drop_of_length_le (l := tagB _) (by rw [l8]; omega), List.nil_append]
  · rw [List.drop_append_of_le_length (by omega), List.drop_of_length_le (l := fourB _) (by omega), List.nil_append, List.take_append_of_le_length (by rw [l8]; omega), List.take_of_length_le (by rw [l8]; omega)]
end
theorem open_seal {X D : Nat} (hX0 : 0 < X) (hX : X < prQ) (hD0 : 0 < D) (hD : D < prQ) {bs : List UInt8} (hl : bs.length ≤ 200) : openF (X : Int) (boxS (D : Int) (powS 4 (X : Int)) bs) = (bs, 0) := by
  obtain ⟨p1, p2, p3⟩ := box_parts (D : Int) (powS 4 (X : Int)) bs
  obtain ⟨N, hN, hNl⟩ := pub_range hD
  have hnum : numF (fourB (powS 4 (D : Int))) = powS 4 (D : Int) := by rw [hN]; exact four_back hNl
  unfold openF
  rw [boxS_len, decide_eq_false (by omega), decide_eq_false (by omega), p1, p2, p3, hnum, isS_secret hD0 hD]
  unfold tagIs
  rw [shI_sym hX0 hX hD0 hD]
  simp only [beq_self_eq_true, Bool.not_true, cond_false]
  unfold bodyS
  rw [streamS_twice]
theorem seal_to {X : Nat} (hX0 : 0 < X) (hX : X < prQ) (dc : List SC) {bs : List UInt8} (hl : bs.length ≤ 200) : sealF (powS 4 (X : Int)) dc bs = (boxS (scalS dc) (powS 4 (X : Int)) bs, 0) := by
  unfold sealF
  rw [isS_secret hX0 hX, decide_eq_false (by omega)]; rfl

end Go.Proofs.Ytdjimjjemiaokaa.Sl
