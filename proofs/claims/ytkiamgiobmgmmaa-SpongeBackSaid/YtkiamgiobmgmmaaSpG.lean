/-
  Turning is undone: of two unlike fives the turned ones are unlike.
-/
import Derived.Test.YtkiamgiobmgmmaaSpE
import Derived.Test.YtkiamgiobmgmmaaSxL
namespace Go.Proofs.Ytkiamgiobmgmmaa.Sp
open Go.RowKit Go.Proofs.Ytkiamgiobmgmmaa.Sx
set_option linter.unusedVariables false

/-- The bits of a word. -/
def bt (x : UInt64) (i : Nat) : Bool := x.toBitVec.getLsbD (i % 64)
theorem bt_ext {x y : UInt64} (h : ∀ i, bt x i = bt y i) : x = y := by
  apply UInt64.toBitVec_inj.1
  apply BitVec.eq_of_getLsbD_eq
  intro i hi
  have := h i
  simpa [bt, Nat.mod_eq_of_lt hi] using this
theorem bt_xor (x y : UInt64) (i : Nat) : bt (x ^^^ y) i = (bt x i ^^ bt y i) := by simp [bt]
theorem bt_and (x y : UInt64) (i : Nat) : bt (x &&& y) i = (bt x i && bt y i) := by simp [bt]
theorem bt_not (x : UInt64) (i : Nat) : bt (~~~x) i = !(bt x i) := by
  have : i % 64 < 64 := Nat.mod_lt _ (by decide)
  simp [bt, this]
theorem bt_per (x : UInt64) (i k : Nat) : bt x (i + 64 * k) = bt x i := by simp [bt]

/-- A row of bits and itself moved by a and by b. -/
def lin (a b : Nat) (g : Nat → Bool) (i : Nat) : Bool := (g i ^^ g (i + a)) ^^ g (i + b)
theorem lin_lin (a b : Nat) (g : Nat → Bool) : lin a b (lin a b g) = lin (2 * a) (2 * b) g := by
  funext i
  simp only [lin]
  have e1 : i + a + a = i + 2 * a := by omega
  have e2 : i + b + b = i + 2 * b := by omega
  have e3 : i + b + a = i + a + b := by omega
  rw [e1, e2, e3]
  cases g i <;> cases g (i + a) <;> cases g (i + b) <;> cases g (i + 2 * a) <;> cases g (i + a + b) <;> cases g (i + 2 * b) <;> rfl
theorem lin_up {a b : Nat} {g g' : Nat → Bool} (h : lin a b g = lin a b g') : lin (2 * a) (2 * b) g = lin (2 * a) (2 * b) g' := by
  rw [← lin_lin, ← lin_lin, h]
theorem lin_inj {a b : Nat} {g g' : Nat → Bool} (hg : ∀ i k, g (i + 64 * k) = g i) (hg' : ∀ i k, g' (i + 64 * k) = g' i) (h : lin a b g = lin a b g') : g = g' := by
  have h6 := lin_up (lin_up (lin_up (lin_up (lin_up (lin_up h)))))
  have e : ∀ c, 2 * (2 * (2 * (2 * (2 * (2 * c))))) = 64 * c := fun c => by omega
  rw [e, e] at h6
  funext i
  have := congrFun h6 i
  simp only [lin, hg, hg'] at this
  revert this
  cases g i <;> cases g' i <;> decide

theorem bt_right (x : UInt64) (n : Nat) (h0 : 0 < n) (h : n < 64) (i : Nat) : bt (x >>> UInt64.ofNat n ||| x <<< UInt64.ofNat (64 - n)) i = bt x (i + n) := by
  have hi : i % 64 < 64 := Nat.mod_lt _ (by decide)
  have e1 : (UInt64.ofNat n).toBitVec.toNat % 64 = n := by simp; omega
  have e2 : (UInt64.ofNat (64 - n)).toBitVec.toNat % 64 = 64 - n := by simp; omega
  simp only [bt, UInt64.toBitVec_or, UInt64.toBitVec_shiftRight, UInt64.toBitVec_shiftLeft, BitVec.getLsbD_or]
  have s1 : (x.toBitVec >>> ((UInt64.ofNat n).toBitVec % 64)).getLsbD (i % 64) = x.toBitVec.getLsbD (n + i % 64) := by
    rw [BitVec.ushiftRight_eq', BitVec.getLsbD_ushiftRight, BitVec.toNat_umod]
    congr 2
  have s2 : (x.toBitVec <<< ((UInt64.ofNat (64 - n)).toBitVec % 64)).getLsbD (i % 64) = (decide (i % 64 < 64) && !decide (i % 64 < 64 - n) && x.toBitVec.getLsbD (i % 64 - (64 - n))) := by
    rw [BitVec.shiftLeft_eq', BitVec.getLsbD_shiftLeft, BitVec.toNat_umod]
    have : (UInt64.ofNat (64 - n)).toBitVec.toNat % (64 : BitVec 64).toNat = 64 - n := e2
    rw [this]
  rw [s1, s2]
  by_cases hc : i % 64 + n < 64
  · have : (i + n) % 64 = n + i % 64 := by omega
    rw [this]
    have h2 : i % 64 < 64 - n := by omega
    simp [hi, h2]
  · have : (i + n) % 64 = i % 64 - (64 - n) := by omega
    rw [this]
    have h2 : ¬ i % 64 < 64 - n := by omega
    have h3 : x.toBitVec.getLsbD (n + i % 64) = false := BitVec.getLsbD_of_ge _ _ (by omega)
    simp [hi, h2, h3]

/-- A round's mixing, of single bits. -/
def mixB (k a b c d e : Bool) : Bool × Bool × Bool × Bool × Bool :=
  let c1 := c ^^ k
  let a1 := a ^^ e
  let e1 := e ^^ d
  let c2 := c1 ^^ b
  let t0 := !a1 && b
  let t1 := !b && c2
  let t2 := !c2 && d
  let t3 := !d && e1
  let t4 := !e1 && a1
  let a2 := a1 ^^ t1
  let b2 := b ^^ t2
  let c3 := c2 ^^ t3
  let d2 := d ^^ t4
  let e2 := e1 ^^ t0
  let b3 := b2 ^^ a2
  let a3 := a2 ^^ e2
  let d3 := d2 ^^ c3
  let c4 := !c3
  (a3, b3, c4, d3, e2)
def bools : List Bool := [false, true]
def fives : List (Bool × Bool × Bool × Bool × Bool) := bools.flatMap fun a => bools.flatMap fun b => bools.flatMap fun c => bools.flatMap fun d => bools.map fun e => (a, b, c, d, e)
/-- Mixing undone: the five that is mixed to this one. -/
def unmix (k : Bool) (o : Bool × Bool × Bool × Bool × Bool) : Option (Bool × Bool × Bool × Bool × Bool) := fives.find? fun t => mixB k t.1 t.2.1 t.2.2.1 t.2.2.2.1 t.2.2.2.2 == o
theorem unmix_mix (k a b c d e : Bool) : unmix k (mixB k a b c d e) = some (a, b, c, d, e) := by
  cases k <;> cases a <;> cases b <;> cases c <;> cases d <;> cases e <;> rfl
theorem mixB_inj (k a b c d e a' b' c' d' e' : Bool) (h : mixB k a b c d e = mixB k a' b' c' d' e') : a = a' ∧ b = b' ∧ c = c' ∧ d = d' ∧ e = e' := by
  have := unmix_mix k a b c d e
  rw [h, unmix_mix] at this
  simp only [Option.some.injEq, Prod.mk.injEq] at this
  obtain ⟨h1, h2, h3, h4, h5⟩ := this
  exact ⟨h1.symm, h2.symm, h3.symm, h4.symm, h5.symm⟩
theorem W5.ext5 {x y : W5} (ha : x.a = y.a) (hb : x.b = y.b) (hc : x.c = y.c) (hd : x.d = y.d) (he : x.e = y.e) : x = y := by
  cases x; cases y
  simp only at ha hb hc hd he
  subst ha hb hc hd he; rfl
theorem mixed5_bits (x : W5) (k : UInt64) (i : Nat) : mixB (bt k i) (bt x.a i) (bt x.b i) (bt x.c i) (bt x.d i) (bt x.e i) = (bt (mixed5 x k).a i, bt (mixed5 x k).b i, bt (mixed5 x k).c i, bt (mixed5 x k).d i, bt (mixed5 x k).e i) := by
  simp only [mixB, mixed5, bt_xor, bt_and, bt_not]
theorem mixed5_inj {x y : W5} {k : UInt64} (h : mixed5 x k = mixed5 y k) : x = y := by
  have key : ∀ i, bt x.a i = bt y.a i ∧ bt x.b i = bt y.b i ∧ bt x.c i = bt y.c i ∧ bt x.d i = bt y.d i ∧ bt x.e i = bt y.e i := fun i => by
    refine mixB_inj (bt k i) _ _ _ _ _ _ _ _ _ _ ?_
    rw [mixed5_bits, mixed5_bits, h]
  have ha := bt_ext fun i => (key i).1
  have hb := bt_ext fun i => (key i).2.1
  have hc := bt_ext fun i => (key i).2.2.1
  have hd := bt_ext fun i => (key i).2.2.2.1
  have he := bt_ext fun i => (key i).2.2.2.2
  exact W5.ext5 ha hb hc hd he

theorem lin_word {n m : Nat} {N M : UInt64} (hn0 : 0 < n) (hn : n < 64) (hm0 : 0 < m) (hm : m < 64) (hN : ∀ x, right x N = x >>> UInt64.ofNat n ||| x <<< UInt64.ofNat (64 - n)) (hM : ∀ x, right x M = x >>> UInt64.ofNat m ||| x <<< UInt64.ofNat (64 - m)) {x y : UInt64}
    (h : x ^^^ right x N ^^^ right x M = y ^^^ right y N ^^^ right y M) : x = y := by
  have key : ∀ z : UInt64, lin n m (bt z) = bt (z ^^^ right z N ^^^ right z M) := fun z => by
    funext i
    rw [bt_xor, bt_xor, hN, hM, bt_right z n hn0 hn, bt_right z m hm0 hm]
    rfl
  have := lin_inj (a := n) (b := m) (bt_per x) (bt_per y) (by rw [key, key, h])
  exact bt_ext fun i => congrFun this i

theorem round_inj {x y : W5} {r : Int} (h : round x r = round y r) : x = y := by
  rw [← rround_eq, ← rround_eq] at h
  simp only [rround, W5.mk.injEq] at h
  obtain ⟨ha, hb, hc, hd, he⟩ := h
  have ga := lin_word (n := 19) (m := 28) (by decide) (by decide) (by decide) (by decide) (fun _ => rfl) (fun _ => rfl) ha
  have gb := lin_word (n := 61) (m := 39) (by decide) (by decide) (by decide) (by decide) (fun _ => rfl) (fun _ => rfl) hb
  have gc := lin_word (n := 1) (m := 6) (by decide) (by decide) (by decide) (by decide) (fun _ => rfl) (fun _ => rfl) hc
  have gd := lin_word (n := 10) (m := 17) (by decide) (by decide) (by decide) (by decide) (fun _ => rfl) (fun _ => rfl) hd
  have ge := lin_word (n := 7) (m := 41) (by decide) (by decide) (by decide) (by decide) (fun _ => rfl) (fun _ => rfl) he
  exact mixed5_inj (W5.ext5 ga gb gc gd ge)
theorem turnN_inj {x y : W5} : ∀ n, turnN n x = turnN n y → x = y
  | 0, h => h
  | n + 1, h => turnN_inj n (round_inj h)

theorem eq5_iff (x y : W5) : eq5 x y = true ↔ x = y := by
  constructor
  · intro h
    simp only [eq5, Bool.and_eq_true, beq_iff_eq, and_true] at h
    obtain ⟨ha, hb, hc, hd, he⟩ := h
    exact W5.ext5 ha hb hc hd he
  · rintro rfl; exact eq5_self _
theorem eq5_turn (x y : W5) : (eq5 (turn x) (turn y) == eq5 x y) = true := by
  have : eq5 (turn x) (turn y) = eq5 x y := by
    rw [Bool.eq_iff_iff, eq5_iff, eq5_iff]
    exact ⟨turnN_inj 12, fun h => by rw [h]⟩
  rw [this]; simp

theorem arg_w5 {W : World} {base : Nat} {v : Value} (h : Value.okWide Try.prog W .any base tW5 v) : ∃ x : W5, v = .agg #[.int .u64 x.a.toNat, .int .u64 x.b.toNat, .int .u64 x.c.toNat, .int .u64 x.d.toNat, .int .u64 x.e.toNat] := by
  obtain ⟨xs, hl, rfl⟩ := arg_u64s (t := tW5) (n := 5) Try.underlying23 Try.underlying22 (ts := List.replicate 5 22) (by kernel_rfl) (by kernel_rfl) (by decide) h
  rcases xs with _ | ⟨a, _ | ⟨b, _ | ⟨c, _ | ⟨d, _ | ⟨e, _ | ⟨f, xs⟩⟩⟩⟩⟩⟩ <;> simp at hl
  exact ⟨⟨a, b, c, d, e⟩, rfl⟩

theorem spongeBack_fn (x y : W5) (w : World) : Sx.Fn Try.prog 5 (atW w 0) [.agg (cw x), .agg (cw y)] [] 0 fun r _ => r = .c (.bool true) := by
  have h := eq5_turn x y
  refine Fn.xv (fuel := 1000) (told := [true]) law_lib mixed (r := .c (.bool (bif eq5 (turn x) (turn y) == eq5 x y then true else false))) (ob := bnd true ((eq5 (turn x) (turn y) == eq5 x y) == true && true)) (obs := []) (by kernel_rfl) (by rw [h]; rfl) trivial (by rw [h]; rfl)

end Go.Proofs.Ytkiamgiobmgmmaa.Sp
