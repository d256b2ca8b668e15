/-
  Numbers round a prime: what the functions of power, and the document's, compute. The numbers that G's powers are: how often G times itself is one.
-/
import Derived.Test.YtabiknpgakhkkaaGreatSxK
import Derived.Test.YtabiknpgakhkkaaGreatSpC
set_option maxRecDepth 20000
section
namespace Go.Proofs.YtabiknpgakhkkaaGreat.Pw
open Go.RowKit Go.Proofs.YtabiknpgakhkkaaGreat.Sx
set_option linter.unusedVariables false

abbrev prP : Nat := 2147483579
abbrev prQ : Nat := 1073741789
def g0 (a : Int) : Bool := decide (a ≥ 0)
/-- Is it a number round the prime? -/
def inN (a : Int) : Bool := bif g0 a then decide (a < 2147483579) else false
theorem inN_iff {a : Int} : inN a = true ↔ 0 ≤ a ∧ a < 2147483579 := by
  unfold inN g0
  by_cases h : a ≥ 0
  · rw [decide_eq_true h]; simp; omega
  · rw [decide_eq_false h]; simp; omega
def inC : Con := pureCon fun | [.c (.int a)] => some (.c (.bool (inN a))) | _ => none
/-- The product. -/
def mulS (a b : Int) : Int := bif inN a && inN b then (IntKind.i64.wrap (a * b)).tmod 2147483579 else 0
def mulC : Con := pureCon fun | [.c (.int a), .c (.int b)] => some (.c (.int (mulS a b))) | _ => none
def gM (a : Int) : Bool := !(inN a)
def oM (a : Int) (g : Bool) : Bool := bnd (bnd (bnd true (gM a == g && true)) (gM a == g && true)) (gM a == g && true)
theorem oM_eq (a : Int) : oM a (gM a) = true := by unfold oM; cases gM a <;> rfl
theorem mulS_eq {a b : Nat} (ha : a < prP) (hb : b < prP) : mulS a b = ((a * b % prP : Nat) : Int) := by
  have h1 : inN (a : Int) = true := inN_iff.2 ⟨by omega, by simp only [prP] at ha; omega⟩
  have h2 : inN (b : Int) = true := inN_iff.2 ⟨by omega, by simp only [prP] at hb; omega⟩
  have hm : a * b ≤ 2147483579 * 2147483579 := Nat.mul_le_mul (by simp only [prP] at ha; omega) (by simp only [prP] at hb; omega)
  have hw : IntKind.i64.wrap ((a : Int) * (b : Int)) = ((a * b : Nat) : Int) := by
    rw [IntKind.wrap_i64]; rw [← Int.natCast_mul]; omega
  unfold mulS
  rw [h1, h2, hw, Bool.and_self, cond_true, Int.tmod_eq_emod_of_nonneg (by omega)]
  exact (Int.natCast_emod _ _).symm
theorem mulS_1 {a b : Int} (h : gM a = true) : (SV.c (.int 0)) = .c (.int (mulS a b)) := by
  have : inN a = false := by simpa [gM] using h
  unfold mulS; rw [this]; rfl
theorem mulS_2 {a b : Int} (ha : gM a = false) (h : gM b = true) : (SV.c (.int 0)) = .c (.int (mulS a b)) := by
  have h1 : inN a = true := by simpa [gM] using ha
  have h2 : inN b = false := by simpa [gM] using h
  unfold mulS; rw [h1, h2]; rfl
theorem mulS_3 {a b : Int} (ha : gM a = false) (h : gM b = false) : (SV.c (.int ((IntKind.i64.wrap (a * b)).tmod 2147483579))) = .c (.int (mulS a b)) := by
  have h1 : inN a = true := by simpa [gM] using ha
  have h2 : inN b = true := by simpa [gM] using h
  unfold mulS; rw [h1, h2]; rfl

/-! Powers. -/
def e1 (e : Int) : Bool := IntKind.i64.wrap (BitVec.ofInt 64 e &&& BitVec.ofInt 64 1).toNat == 1
theorem e1_nat {e : Nat} (h : e < 2 ^ 63) : e1 (e : Int) = decide (e % 2 = 1) := by
  unfold e1
  have : (BitVec.ofInt 64 (e : Int) &&& BitVec.ofInt 64 1).toNat = e % 2 := by
    rw [BitVec.toNat_and, BitVec.toNat_ofInt, BitVec.toNat_ofInt]
    have h1 : ((e : Int) % ((2 ^ 64 : Nat) : Int)).toNat = e := by omega
    have h2 : ((1 : Int) % ((2 ^ 64 : Nat) : Int)).toNat = 1 := by decide
    rw [h1, h2, Nat.and_one_is_mod]
  rw [this]
  have hw : IntKind.i64.wrap ((e % 2 : Nat) : Int) = ((e % 2 : Nat) : Int) := by rw [IntKind.wrap_i64]; omega
  rw [hw]
  by_cases h2 : e % 2 = 1
  · rw [h2]; rfl
  · have : e % 2 = 0 := by omega
    rw [this]; rfl
theorem pow_step {n b e : Nat} (hn : n < prP) (hb : b < prP) : (bif decide (e % 2 = 1) then n * b % prP else n) * (b * b % prP) ^ (e / 2) % prP = n * b ^ e % prP := by
  have h1 : ∀ x, x * (b * b % prP) ^ (e / 2) % prP = x * (b * b) ^ (e / 2) % prP := fun x => by
    rw [Nat.mul_mod, ← Nat.pow_mod, ← Nat.mul_mod]
  have h2 : (b * b) ^ (e / 2) = b ^ (2 * (e / 2)) := by rw [Nat.pow_mul, Nat.pow_two]
  by_cases h : e % 2 = 1
  · rw [decide_eq_true h, cond_true, h1, h2, Nat.mul_mod, Nat.mod_mod, ← Nat.mul_mod]
    have he : e = 2 * (e / 2) + 1 := by omega
    conv => rhs; rw [he, Nat.pow_succ]
    congr 1
    simp only [Nat.mul_assoc, Nat.mul_comm]
  · rw [decide_eq_false h, cond_false, h1, h2]
    have he : e = 2 * (e / 2) := by omega
    conv => rhs; rw [he]
/-- A number so often, squared again and again. -/
def powF : Nat → Nat → Nat → Nat → Nat
  | 0, n, _, _ => n
  | k + 1, n, b, e => powF k (bif Nat.beq (e % 2) 1 then n * b % prP else n) (b * b % prP) (e / 2)
theorem powF_eq : ∀ (k : Nat) {n b e : Nat}, n < prP → b < prP → e < 2 ^ k → powF k n b e = n * b ^ e % prP
  | 0, n, b, e, hn, _, he => by
    have : e = 0 := by omega
    subst this
    simp only [powF, Nat.pow_zero, Nat.mul_one]
    exact (Nat.mod_eq_of_lt hn).symm
  | k + 1, n, b, e, hn, hb, he => by
    have hlt : ∀ x, x % prP < prP := fun x => Nat.mod_lt _ (by decide)
    have h2 : e / 2 < 2 ^ k := by rw [Nat.pow_succ] at he; omega
    have hd : Nat.beq (e % 2) 1 = decide (e % 2 = 1) := by
      by_cases h : e % 2 = 1
      · rw [decide_eq_true h, h]; rfl
      · have : e % 2 = 0 := by omega
        rw [decide_eq_false h, this]; rfl
    have hn' : (bif decide (e % 2 = 1) then n * b % prP else n) < prP := by
      cases decide (e % 2 = 1)
      · exact hn
      · exact hlt _
    unfold powF
    rw [hd, powF_eq k hn' (hlt _) h2, pow_step hn hb]
/-- A number so often. -/
def powN (b e : Nat) : Nat := bif Nat.ble e 4294967295 then powF 32 1 (b % prP) e else b ^ e % prP
theorem powN_eq (b e : Nat) : powN b e = b ^ e % prP := by
  unfold powN
  cases h : Nat.ble e 4294967295 with
  | false => rfl
  | true =>
    rw [Nat.ble_eq] at h
    rw [cond_true, powF_eq 32 (by decide) (Nat.mod_lt _ (by decide)) (by omega), Nat.one_mul, ← Nat.pow_mod]
def pgE (b e : Int) : Bool := bif gM b then true else decide (e < 0)
def pgQ (b e : Int) : Bool := bif pgE b e then true else decide (e > 1073741789)
def powS (b e : Int) : Int := bif pgQ b e then 0 else (powN b.toNat e.toNat : Nat)
def powC : Con := pureCon fun | [.c (.int a), .c (.int b)] => some (.c (.int (powS a b))) | _ => none
def powI (a : Int × Int × Int) : St := ⟨[(0, .c (.int a.1)), (1, .c (.int a.2.1)), (5, .c (.int a.2.2))], [], 0, 31⟩
def powCut : Cut := ⟨[(0, true), (1, true), (5, true)], [], 0⟩
def powO (b e : Int) (x y : Bool) : Bool := bnd (bnd (bnd (bnd true (gM b == x && true)) (gM b == x && true)) (pgE b e == y && true)) (pgE b e == y && true)
theorem pgQ_iff {b e : Int} : pgQ b e = false ↔ inN b = true ∧ 0 ≤ e ∧ e ≤ 1073741789 := by
  unfold pgQ pgE gM
  cases hb : inN b
  · simp
  · simp only [Bool.not_true, cond_false]
    by_cases h : e < 0
    · rw [decide_eq_true h]; simp; omega
    · rw [decide_eq_false h]; simp; omega

/-! Hashes as numbers. -/
def bB (cs : List SC) (i : Nat) : UInt64 := (cs.getD (0 + i * 1) .nilp).asU8.toUInt64
def bW (cs : List SC) : UInt64 := shlW (shlW (shlW (shlW (shlW (shlW (shlW (shlW 0 8 ||| bB cs 0) 8 ||| bB cs 1) 8 ||| bB cs 2) 8 ||| bB cs 3) 8 ||| bB cs 4) 8 ||| bB cs 5) 8 ||| bB cs 6) 8 ||| bB cs 7
def bOk (cs : List SC) (i : Nat) (acc : Bool) : Bool := bnd acc (Nat.blt (0 + i * 1) cs.length && (cs.getD (0 + i * 1) .nilp).isU8)
def bOks (cs : List SC) (acc : Bool) : Bool := bOk cs 7 (bOk cs 6 (bOk cs 5 (bOk cs 4 (bOk cs 3 (bOk cs 2 (bOk cs 1 (bOk cs 0 acc)))))))
def h32 (cs : List SC) : Bool := Nat.beq cs.length 32 && cs.all SC.isU8
theorem getD_isU8 {cs : List SC} (h : cs.all SC.isU8 = true) {i : Nat} (hi : i < cs.length) : (cs.getD i .nilp).isU8 = true := by
  rw [List.all_eq_true] at h
  simp only [List.getD, List.getElem?_eq_getElem hi, Option.getD_some]
  exact h _ (List.getElem_mem _)
theorem bOk_eq {cs : List SC} (h : h32 cs = true) (i : Nat) (hi : i < 32) (acc : Bool) : bOk cs i acc = acc := by
  simp only [h32, Bool.and_eq_true] at h
  have h1 := Nat.eq_of_beq_eq_true h.1
  have : (Nat.blt (0 + i * 1) cs.length && (cs.getD (0 + i * 1) .nilp).isU8) = true := by
    rw [Bool.and_eq_true]
    refine ⟨by rw [Nat.blt_eq]; omega, getD_isU8 h.2 (by omega)⟩
  unfold bOk
  rw [this]; rfl
theorem bOks_eq {cs : List SC} (h : h32 cs = true) (acc : Bool) : bOks cs acc = acc := by
  unfold bOks
  simp only [bOk_eq h _ (by omega : 7 < 32), bOk_eq h _ (by omega : 6 < 32), bOk_eq h _ (by omega : 5 < 32), bOk_eq h _ (by omega : 4 < 32), bOk_eq h _ (by omega : 3 < 32), bOk_eq h _ (by omega : 2 < 32), bOk_eq h _ (by omega : 1 < 32), bOk_eq h _ (by omega : 0 < 32)]
def begS (cs : List SC) (n : UInt64) : Int := IntKind.i64.wrap ((bW cs % n).toNat : Int)
theorem soleU {cs : List SC} (h : cs.all SC.isU8 = true) : cs.all SC.sole = true := by
  rw [List.all_eq_true] at h ⊢
  intro x hx
  have := h x hx
  cases x <;> first | rfl | (simp [SC.isU8] at this; done)
def scalS (cs : List SC) : Int := IntKind.i64.wrap (begS cs 1073741788 + 1)
theorem scalS_bd (cs : List SC) : 1 ≤ scalS cs ∧ scalS cs ≤ 1073741788 := by
  have h1 : (bW cs % (1073741788 : UInt64)).toNat < 1073741788 := by
    rw [UInt64.toNat_mod]
    exact Nat.mod_lt _ (by decide)
  unfold scalS begS
  rw [IntKind.wrap_i64, IntKind.wrap_i64]
  omega
/-- A contract of plain values that must be such. -/
def pureConB (ok : List SV → Bool) (spec : List SV → Option SV) : Con := ⟨false, fun args _ _ => match spec args with
  | some v => some (.new ⟨ok args, [], v, []⟩)
  | none => none⟩
theorem pureConB_ok {P : Program} {f : FuncId} {ok : List SV → Bool} {spec : List SV → Option SV} {fn : Func} (hf : P.funcs[f]? = some fn) (hn : (fn.name == "runtime.NumGoroutine") = false) (hb : fn.body.isNone = false)
    (h : ∀ args v, ok args = true → spec args = some v → v.sole = true ∧ args.all SV.sole = true ∧ ∀ w, Sx.Fn P f (atW w 0) args [] 0 fun r _ => r = v) : ConOK P f (pureConB ok spec) := by
  refine ⟨fun args w => enters_of hf hn hb args w, fun args T kb r hr hob hobs X ρ w vs hrel ha hfr => ?_, fun args T kb r hr => ?_⟩
  · simp only [pureConB] at hr
    split at hr <;> try (cases hr; done)
    rename_i v hv
    simp only [Option.some.injEq, Eff.new.injEq] at hr; subst hr
    obtain ⟨h1, h2, h3⟩ := h args v hob hv
    refine (h3 w renNone w vs (rel0 w) (plains_R ha h2) fun k _ => rfl).mono fun e w' ⟨u, v', T', ρ', he, hv', hur, _, hrel'⟩ => ⟨u, ρ, he, ?_, New.of_below hrel'.below⟩
    subst hv'; exact plainS_R hur h1
  · simp only [pureConB] at hr
    split at hr <;> cases hr
def scalC : Con := pureConB (fun | [.agg cs] => h32 cs | _ => true) fun | [.agg cs] => some (.c (.int (scalS cs))) | _ => none
def isS (y : Int) : Bool := bif (bif decide (y > 1) then decide (y < 2147483579) else false) then powS y 1073741789 == 1 else false
def isC : Con := pureCon fun | [.c (.int y)] => some (.c (.bool (isS y))) | _ => none

/-! The program's. -/
abbrev fpIn : Nat := 86
abbrev fpMul : Nat := 75
abbrev fpPow : Nat := 56
abbrev fpIs : Nat := 73
abbrev fpScal : Nat := 25
theorem pin_ok : ConOK Tryz.prog fpIn inC := by
  refine pureCon_ok (fn := Tryz.f86) (by kernel_rfl) rfl rfl fun args v h => ?_
  split at h <;> try (cases h; done)
  rename_i a
  simp only [Option.some.injEq] at h; subst h
  refine ⟨rfl, rfl, fun w => ?_⟩
  cases hg : g0 a with
  | true => exact Fn.xv (fuel := 1000) (told := [true]) (LibOK.nil _) Sp.mixed (r := .c (.bool (bif g0 a then decide (a < 2147483579) else false))) (ob := bnd (bnd true (g0 a == true && true)) (g0 a == true && true)) (obs := []) (by kernel_rfl) (by rw [hg]; rfl) trivial rfl
  | false => exact Fn.xv (fuel := 1000) (told := [false]) (LibOK.nil _) Sp.mixed (r := .c (.bool false)) (ob := bnd (bnd (bnd true (g0 a == false && true)) (g0 a == false && true)) (!g0 a)) (obs := []) (by kernel_rfl) (by rw [hg]; rfl) trivial (by unfold inN; rw [hg]; rfl)
theorem pin_lib : LibOK Tryz.prog [(fpIn, inC)] := LibOK.cons pin_ok (LibOK.nil _)
theorem pmul_ok : ConOK Tryz.prog fpMul mulC := by
  refine pureCon_ok (fn := Tryz.f75) (by kernel_rfl) rfl rfl fun args v h => ?_
  split at h <;> try (cases h; done)
  rename_i a b
  simp only [Option.some.injEq] at h; subst h
  refine ⟨rfl, rfl, fun w => ?_⟩
  have hO := oM_eq a
  cases hg : gM a with
  | true =>
    rw [hg] at hO
    exact Fn.xv (fuel := 1000) (told := [true, true]) pin_lib Sp.mixed (r := .c (.int 0)) (ob := bnd (oM a true) (gM a)) (obs := []) (by kernel_rfl) (by rw [hg, hO]; rfl) trivial (mulS_1 hg)
  | false =>
    rw [hg] at hO
    have ha : inN a = true := by simpa [gM] using hg
    cases hb : gM b with
    | true => exact Fn.xv (fuel := 1000) (told := [false, true]) pin_lib Sp.mixed (r := .c (.int 0)) (ob := bnd (oM a false) (bif gM a then true else gM b)) (obs := []) (by kernel_rfl) (by rw [hg, hO, hb]; rfl) trivial (mulS_2 hg hb)
    | false => exact Fn.xv (fuel := 1000) (told := [false, false]) pin_lib Sp.mixed (r := .c (.int ((IntKind.i64.wrap (a * b)).tmod 2147483579))) (ob := bnd (oM a false) (!(bif gM a then true else gM b))) (obs := []) (by kernel_rfl) (by rw [hg, hO, hb]; rfl) trivial (mulS_3 hg hb)
theorem pmul_lib : LibOK Tryz.prog [(fpMul, mulC), (fpIn, inC)] := LibOK.cons pmul_ok pin_lib
theorem ppow_ok : ConOK Tryz.prog fpPow powC := by
  refine pureCon_ok (fn := Tryz.f56) (by kernel_rfl) rfl rfl fun args v h => ?_
  split at h <;> try (cases h; done)
  rename_i b e
  simp only [Option.some.injEq] at h; subst h
  refine ⟨rfl, rfl, fun w => ?_⟩
  have h0 : pgQ b e = true → (.c (.int 0) : SV) = .c (.int (powS b e)) := fun h => by unfold powS; rw [h]; rfl
  cases hg : gM b with
  | true =>
    have hE : pgE b e = true := by unfold pgE; rw [hg]; rfl
    have hQ : pgQ b e = true := by unfold pgQ; rw [hE]; rfl
    exact Fn.xv (fuel := 1000) (told := [true]) pmul_lib Sp.mixed (r := .c (.int 0)) (ob := bnd (bnd (bnd true (gM b == true && true)) (gM b == true && true)) (gM b)) (obs := []) (by kernel_rfl) (by rw [hg]; rfl) trivial (h0 hQ)
  | false =>
  cases hE : pgE b e with
  | true =>
    have hQ : pgQ b e = true := by unfold pgQ; rw [hE]; rfl
    exact Fn.xv (fuel := 1000) (told := [false, true]) pmul_lib Sp.mixed (r := .c (.int 0)) (ob := bnd (powO b e false true) (pgE b e)) (obs := []) (by kernel_rfl) (by unfold powO; rw [hg, hE]; rfl) trivial (h0 hQ)
  | false =>
  have hO : powO b e false false = true := by unfold powO; rw [hg, hE]; rfl
  cases hQ : pgQ b e with
  | true => exact Fn.xv (fuel := 1000) (told := [false, false, true]) pmul_lib Sp.mixed (r := .c (.int 0)) (ob := bnd (powO b e false false) (pgQ b e)) (obs := []) (by kernel_rfl) (by rw [hO, hQ]; rfl) trivial (h0 hQ)
  | false =>
  obtain ⟨hin, he0, heQ⟩ := pgQ_iff.1 hQ
  obtain ⟨hb0, hbP⟩ := inN_iff.1 hin
  refine Sx.Fn.of (nt := 31) (by kernel_rfl) rfl ?_
  refine SWs.step pmul_lib Sp.mixed (fuel := 1000) (n := 4) (told := [false, false, false]) (un := []) (c := powCut) (t := powI (b, e, 1)) (ob := bnd (powO b e false false) (!pgQ b e)) (obs := []) (by kernel_rfl) (by rw [hO, hQ]; rfl) trivial ?_
  refine SWs.loop (by kernel_rfl) powI (fun a => a.2.1.toNat) (fun a => ∃ n b1 e1 : Nat, a = ((b1 : Int), (e1 : Int), (n : Int)) ∧ n < prP ∧ b1 < prP ∧ e1 ≤ 1073741789 ∧ n * b1 ^ e1 % prP = powN b.toNat e.toNat) (b, e, 1) ⟨1, b.toNat, e.toNat, by rw [Int.toNat_of_nonneg hb0, Int.toNat_of_nonneg he0]; rfl, by decide, by simp only [prP]; omega, by omega, by simp [powN_eq]⟩ ?_
  rintro _ ⟨n, b1, e2, rfl, hn, hb1, he2, hinv⟩
  by_cases hpos : 0 < e2
  · have hd : decide ((e2 : Int) > 0) = true := decide_eq_true (by omega)
    have hf : (e2 : Int).fdiv 2 = ((e2 / 2 : Nat) : Int) := by rw [Int.fdiv_eq_ediv_of_nonneg _ (by omega)]; norm_cast
    have hbb := mulS_eq hb1 hb1
    have hnb := mulS_eq hn hb1
    have hst := pow_step (e := e2) hn hb1
    have hlt : ∀ x, x % prP < prP := fun x => Nat.mod_lt _ (by decide)
    have hm : ((e2 : Int).fdiv 2).toNat < (e2 : Int).toNat := by rw [hf, Int.toNat_natCast, Int.toNat_natCast]; omega
    have h1 := e1_nat (e := e2) (by omega)
    cases hodd : e1 (e2 : Int) with
    | true =>
      rw [h1] at hodd
      rw [hodd, cond_true] at hst
      refine SWs.round pmul_lib Sp.mixed (fuel := 1000) (n := 4) (told := [true, true]) (un := []) (c := powCut) (t := powI (mulS b1 b1, (e2 : Int).fdiv 2, mulS n b1)) (ob := bnd (bnd true (decide ((e2 : Int) > 0))) (e1 (e2 : Int))) (obs := []) (by kernel_rfl) (by kernel_rfl) (by rw [hd, h1, hodd]; rfl) trivial ?_
      exact ⟨_, ⟨n * b1 % prP, b1 * b1 % prP, e2 / 2, by rw [hbb, hnb, hf], hlt _, hlt _, by omega, by rw [hst]; exact hinv⟩, hm, rfl⟩
    | false =>
      rw [h1] at hodd
      rw [hodd, cond_false] at hst
      refine SWs.round pmul_lib Sp.mixed (fuel := 1000) (n := 4) (told := [true, false]) (un := []) (c := powCut) (t := powI (mulS b1 b1, (e2 : Int).fdiv 2, n)) (ob := bnd (bnd true (decide ((e2 : Int) > 0))) (!e1 (e2 : Int))) (obs := []) (by kernel_rfl) (by kernel_rfl) (by rw [hd, h1, hodd]; rfl) trivial ?_
      exact ⟨_, ⟨n, b1 * b1 % prP, e2 / 2, by rw [hbb, hf], hn, hlt _, by omega, by rw [hst]; exact hinv⟩, hm, rfl⟩
  · obtain rfl : e2 = 0 := by omega
    refine SWs.out pmul_lib Sp.mixed (fuel := 1000) (n := 2) (told := [false]) (un := []) (c := powCut) (t := powI ((b1 : Int), ((0 : Nat) : Int), (n : Int))) (ob := bnd true (!decide (((0 : Nat) : Int) > 0))) (obs := []) (by kernel_rfl) (by decide) trivial ?_
    refine SWs.finv pmul_lib Sp.mixed (fuel := 1000) (n := 100) (told := []) (v := .c (.int n)) (ob := true) (obs := []) (by kernel_rfl) rfl trivial ?_
    rw [Nat.pow_zero, Nat.mul_one, Nat.mod_eq_of_lt hn] at hinv
    unfold powS
    rw [hQ, cond_false, hinv]
theorem ppow_lib : LibOK Tryz.prog [(fpPow, powC)] := LibOK.cons ppow_ok (LibOK.nil _)
theorem pis_ok : ConOK Tryz.prog fpIs isC := by
  refine pureCon_ok (fn := Tryz.f73) (by kernel_rfl) rfl rfl fun args v h => ?_
  split at h <;> try (cases h; done)
  rename_i y
  simp only [Option.some.injEq] at h; subst h
  refine ⟨rfl, rfl, fun w => ?_⟩
  let a1 := decide (y > 1)
  let a2 := bif decide (y > 1) then decide (y < 2147483579) else false
  cases h1 : decide (y > 1) with
  | false => exact Fn.xv (fuel := 1000) (told := [false]) ppow_lib Sp.mixed (r := .c (.bool false)) (ob := bnd (bnd (bnd true (decide (y > 1) == false && true)) (decide (y > 1) == false && true)) (!decide (y > 1))) (obs := []) (by kernel_rfl) (by rw [h1]; rfl) trivial (by unfold isS; rw [h1]; rfl)
  | true =>
  have hO : (bnd (bnd true (decide (y > 1) == true && true)) (decide (y > 1) == true && true)) = true := by rw [h1]; rfl
  cases h2 : (bif decide (y > 1) then decide (y < 2147483579) else false) with
  | false => exact Fn.xv (fuel := 1000) (told := [true, false]) ppow_lib Sp.mixed (r := .c (.bool false)) (ob := bnd (bnd (bnd (bnd (bnd (bnd true (decide (y > 1) == true && true)) (decide (y > 1) == true && true)) ((bif decide (y > 1) then decide (y < 2147483579) else false) == false && true)) ((bif decide (y > 1) then decide (y < 2147483579) else false) == false && true)) ((bif decide (y > 1) then decide (y < 2147483579) else false) == false && true)) (!(bif decide (y > 1) then decide (y < 2147483579) else false))) (obs := []) (by kernel_rfl) (by rw [hO, h2]; rfl) trivial (by unfold isS; rw [h2]; rfl)
  | true => exact Fn.xv (fuel := 1000) (told := [true, true]) ppow_lib Sp.mixed (r := .c (.bool (bif (bif decide (y > 1) then decide (y < 2147483579) else false) then powS y 1073741789 == 1 else false))) (ob := bnd (bnd (bnd (bnd (bnd true (decide (y > 1) == true && true)) (decide (y > 1) == true && true)) ((bif decide (y > 1) then decide (y < 2147483579) else false) == true && true)) ((bif decide (y > 1) then decide (y < 2147483579) else false) == true && true)) ((bif decide (y > 1) then decide (y < 2147483579) else false) == true && true)) (obs := []) (by kernel_rfl) (by rw [hO, h2]; rfl) trivial rfl
abbrev fpBeg : Nat := 61
def pbegC : Con := pureConB (fun | [.agg cs, .c (.int n)] => h32 cs && ((UInt64.ofInt n) != 0) | _ => true) fun | [.agg cs, .c (.int n)] => some (.c (.int (begS cs (UInt64.ofInt n)))) | _ => none
theorem pbeg_ok : ConOK Tryz.prog fpBeg pbegC := by
  refine pureConB_ok (fn := Tryz.f61) (by kernel_rfl) rfl rfl fun args v hok h => ?_
  split at h <;> try (cases h; done)
  rename_i cs n
  simp only [Option.some.injEq] at h; subst h
  simp only [Bool.and_eq_true] at hok
  have h1 := hok.1
  simp only [h32, Bool.and_eq_true] at h1
  refine ⟨rfl, by simp [SV.sole, soleU h1.2, SC.sole], fun w => ?_⟩
  exact Fn.xv (fuel := 1000) (told := []) (LibOK.nil _) Sp.mixed (r := .c (.int (begS cs (UInt64.ofInt n)))) (ob := bnd (bOks cs (bnd true (Nat.ble (0 + 32 * 1) cs.length))) ((UInt64.ofInt n) != 0)) (obs := []) (by kernel_rfl) (by rw [bOks_eq hok.1, hok.2]; rw [Nat.eq_of_beq_eq_true h1.1]; rfl) trivial rfl
theorem pscal_ok : ConOK Tryz.prog fpScal scalC := by
  refine pureConB_ok (fn := Tryz.f25) (by kernel_rfl) rfl rfl fun args v hok h => ?_
  split at h <;> try (cases h; done)
  rename_i cs
  simp only [Option.some.injEq] at h; subst h
  simp only at hok
  have hok' := hok
  simp only [h32, Bool.and_eq_true] at hok'
  have hl := Nat.eq_of_beq_eq_true hok'.1
  have ht : cs.take 32 = cs := List.take_of_length_le (by omega)
  refine ⟨rfl, by simp [SV.sole, soleU hok'.2], fun w => ?_⟩
  refine Fn.xv (fuel := 1000) (told := []) (LibOK.cons pbeg_ok (LibOK.nil _)) Sp.mixed (r := .c (.int (scalS (cs.take 32)))) (ob := bnd (bnd true (Nat.ble (0 + 32) cs.length)) (h32 (cs.take 32) && true)) (obs := []) (by kernel_rfl) (by rw [ht, hok]; simp [bnd_true]; omega) trivial (by rw [ht])

/-! The document's. -/
abbrev frIn : Nat := 65
abbrev frMul : Nat := 66
abbrev frPow : Nat := 29
abbrev frIs : Nat := 76
abbrev frScal : Nat := 28
theorem rin_ok : ConOK Tryz.prog frIn inC := by
  refine pureCon_ok (fn := Tryz.f65) (by kernel_rfl) rfl rfl fun args v h => ?_
  split at h <;> try (cases h; done)
  rename_i a
  simp only [Option.some.injEq] at h; subst h
  refine ⟨rfl, rfl, fun w => ?_⟩
  cases hg : g0 a with
  | true => exact Fn.xv (fuel := 1000) (told := [true]) (LibOK.nil _) Sp.mixed (r := .c (.bool (bif g0 a then decide (a < 2147483579) else false))) (ob := bnd (bnd true (g0 a == true && true)) (g0 a == true && true)) (obs := []) (by kernel_rfl) (by rw [hg]; rfl) trivial rfl
  | false => exact Fn.xv (fuel := 1000) (told := [false]) (LibOK.nil _) Sp.mixed (r := .c (.bool false)) (ob := bnd (bnd (bnd true (g0 a == false && true)) (g0 a == false && true)) (!g0 a)) (obs := []) (by kernel_rfl) (by rw [hg]; rfl) trivial (by unfold inN; rw [hg]; rfl)
theorem rin_lib : LibOK Tryz.prog [(frIn, inC)] := LibOK.cons rin_ok (LibOK.nil _)
theorem rmul_ok : ConOK Tryz.prog frMul mulC := by
  refine pureCon_ok (fn := Tryz.f66) (by kernel_rfl) rfl rfl fun args v h => ?_
  split at h <;> try (cases h; done)
  rename_i a b
  simp only [Option.some.injEq] at h; subst h
  refine ⟨rfl, rfl, fun w => ?_⟩
  have hO := oM_eq a
  cases hg : gM a with
  | true =>
    rw [hg] at hO
    exact Fn.xv (fuel := 1000) (told := [true, true]) rin_lib Sp.mixed (r := .c (.int 0)) (ob := bnd (oM a true) (gM a)) (obs := []) (by kernel_rfl) (by rw [hg, hO]; rfl) trivial (mulS_1 hg)
  | false =>
    rw [hg] at hO
    have ha : inN a = true := by simpa [gM] using hg
    cases hb : gM b with
    | true => exact Fn.xv (fuel := 1000) (told := [false, true]) rin_lib Sp.mixed (r := .c (.int 0)) (ob := bnd (oM a false) (bif gM a then true else gM b)) (obs := []) (by kernel_rfl) (by rw [hg, hO, hb]; rfl) trivial (mulS_2 hg hb)
    | false => exact Fn.xv (fuel := 1000) (told := [false, false]) rin_lib Sp.mixed (r := .c (.int ((IntKind.i64.wrap (a * b)).tmod 2147483579))) (ob := bnd (oM a false) (!(bif gM a then true else gM b))) (obs := []) (by kernel_rfl) (by rw [hg, hO, hb]; rfl) trivial (mulS_3 hg hb)
theorem rmul_lib : LibOK Tryz.prog [(frMul, mulC), (frIn, inC)] := LibOK.cons rmul_ok rin_lib
theorem rpow_ok : ConOK Tryz.prog frPow powC := by
  refine pureCon_ok (fn := Tryz.f29) (by kernel_rfl) rfl rfl fun args v h => ?_
  split at h <;> try (cases h; done)
  rename_i b e
  simp only [Option.some.injEq] at h; subst h
  refine ⟨rfl, rfl, fun w => ?_⟩
  have h0 : pgQ b e = true → (.c (.int 0) : SV) = .c (.int (powS b e)) := fun h => by unfold powS; rw [h]; rfl
  cases hg : gM b with
  | true =>
    have hE : pgE b e = true := by unfold pgE; rw [hg]; rfl
    have hQ : pgQ b e = true := by unfold pgQ; rw [hE]; rfl
    exact Fn.xv (fuel := 1000) (told := [true]) rmul_lib Sp.mixed (r := .c (.int 0)) (ob := bnd (bnd (bnd true (gM b == true && true)) (gM b == true && true)) (gM b)) (obs := []) (by kernel_rfl) (by rw [hg]; rfl) trivial (h0 hQ)
  | false =>
  cases hE : pgE b e with
  | true =>
    have hQ : pgQ b e = true := by unfold pgQ; rw [hE]; rfl
    exact Fn.xv (fuel := 1000) (told := [false, true]) rmul_lib Sp.mixed (r := .c (.int 0)) (ob := bnd (powO b e false true) (pgE b e)) (obs := []) (by kernel_rfl) (by unfold powO; rw [hg, hE]; rfl) trivial (h0 hQ)
  | false =>
  have hO : powO b e false false = true := by unfold powO; rw [hg, hE]; rfl
  cases hQ : pgQ b e with
  | true => exact Fn.xv (fuel := 1000) (told := [false, false, true]) rmul_lib Sp.mixed (r := .c (.int 0)) (ob := bnd (powO b e false false) (pgQ b e)) (obs := []) (by kernel_rfl) (by rw [hO, hQ]; rfl) trivial (h0 hQ)
  | false =>
  obtain ⟨hin, he0, heQ⟩ := pgQ_iff.1 hQ
  obtain ⟨hb0, hbP⟩ := inN_iff.1 hin
  refine Sx.Fn.of (nt := 31) (by kernel_rfl) rfl ?_
  refine SWs.step rmul_lib Sp.mixed (fuel := 1000) (n := 4) (told := [false, false, false]) (un := []) (c := powCut) (t := powI (b, e, 1)) (ob := bnd (powO b e false false) (!pgQ b e)) (obs := []) (by kernel_rfl) (by rw [hO, hQ]; rfl) trivial ?_
  refine SWs.loop (by kernel_rfl) powI (fun a => a.2.1.toNat) (fun a => ∃ n b1 e1 : Nat, a = ((b1 : Int), (e1 : Int), (n : Int)) ∧ n < prP ∧ b1 < prP ∧ e1 ≤ 1073741789 ∧ n * b1 ^ e1 % prP = powN b.toNat e.toNat) (b, e, 1) ⟨1, b.toNat, e.toNat, by rw [Int.toNat_of_nonneg hb0, Int.toNat_of_nonneg he0]; rfl, by decide, by simp only [prP]; omega, by omega, by simp [powN_eq]⟩ ?_
  rintro _ ⟨n, b1, e2, rfl, hn, hb1, he2, hinv⟩
  by_cases hpos : 0 < e2
  · have hd : decide ((e2 : Int) > 0) = true := decide_eq_true (by omega)
    have hf : (e2 : Int).fdiv 2 = ((e2 / 2 : Nat) : Int) := by rw [Int.fdiv_eq_ediv_of_nonneg _ (by omega)]; norm_cast
    have hbb := mulS_eq hb1 hb1
    have hnb := mulS_eq hn hb1
    have hst := pow_step (e := e2) hn hb1
    have hlt : ∀ x, x % prP < prP := fun x => Nat.mod_lt _ (by decide)
    have hm : ((e2 : Int).fdiv 2).toNat < (e2 : Int).toNat := by rw [hf, Int.toNat_natCast, Int.toNat_natCast]; omega
    have h1 := e1_nat (e := e2) (by omega)
    cases hodd : e1 (e2 : Int) with
    | true =>
      rw [h1] at hodd
      rw [hodd, cond_true] at hst
      refine SWs.round rmul_lib Sp.mixed (fuel := 1000) (n := 4) (told := [true, true]) (un := []) (c := powCut) (t := powI (mulS b1 b1, (e2 : Int).fdiv 2, mulS n b1)) (ob := bnd (bnd true (decide ((e2 : Int) > 0))) (e1 (e2 : Int))) (obs := []) (by kernel_rfl) (by kernel_rfl) (by rw [hd, h1, hodd]; rfl) trivial ?_
      exact ⟨_, ⟨n * b1 % prP, b1 * b1 % prP, e2 / 2, by rw [hbb, hnb, hf], hlt _, hlt _, by omega, by rw [hst]; exact hinv⟩, hm, rfl⟩
    | false =>
      rw [h1] at hodd
      rw [hodd, cond_false] at hst
      refine SWs.round rmul_lib Sp.mixed (fuel := 1000) (n := 4) (told := [true, false]) (un := []) (c := powCut) (t := powI (mulS b1 b1, (e2 : Int).fdiv 2, n)) (ob := bnd (bnd true (decide ((e2 : Int) > 0))) (!e1 (e2 : Int))) (obs := []) (by kernel_rfl) (by kernel_rfl) (by rw [hd, h1, hodd]; rfl) trivial ?_
      exact ⟨_, ⟨n, b1 * b1 % prP, e2 / 2, by rw [hbb, hf], hn, hlt _, by omega, by rw [hst]; exact hinv⟩, hm, rfl⟩
  · obtain rfl : e2 = 0 := by omega
    refine SWs.out rmul_lib Sp.mixed (fuel := 1000) (n := 2) (told := [false]) (un := []) (c := powCut) (t := powI ((b1 : Int), ((0 : Nat) : Int), (n : Int))) (ob := bnd true (!decide (((0 : Nat) : Int) > 0))) (obs := []) (by kernel_rfl) (by decide) trivial ?_
    refine SWs.finv rmul_lib Sp.mixed (fuel := 1000) (n := 100) (told := []) (v := .c (.int n)) (ob := true) (obs := []) (by kernel_rfl) rfl trivial ?_
    rw [Nat.pow_zero, Nat.mul_one, Nat.mod_eq_of_lt hn] at hinv
    unfold powS
    rw [hQ, cond_false, hinv]
theorem rpow_lib : LibOK Tryz.prog [(frPow, powC)] := LibOK.cons rpow_ok (LibOK.nil _)
theorem ris_ok : ConOK Tryz.prog frIs isC := by
  refine pureCon_ok (fn := Tryz.f76) (by kernel_rfl) rfl rfl fun args v h => ?_
  split at h <;> try (cases h; done)
  rename_i y
  simp only [Option.some.injEq] at h; subst h
  refine ⟨rfl, rfl, fun w => ?_⟩
  let a1 := decide (y > 1)
  let a2 := bif decide (y > 1) then decide (y < 2147483579) else false
  cases h1 : decide (y > 1) with
  | false => exact Fn.xv (fuel := 1000) (told := [false]) rpow_lib Sp.mixed (r := .c (.bool false)) (ob := bnd (bnd (bnd true (decide (y > 1) == false && true)) (decide (y > 1) == false && true)) (!decide (y > 1))) (obs := []) (by kernel_rfl) (by rw [h1]; rfl) trivial (by unfold isS; rw [h1]; rfl)
  | true =>
  have hO : (bnd (bnd true (decide (y > 1) == true && true)) (decide (y > 1) == true && true)) = true := by rw [h1]; rfl
  cases h2 : (bif decide (y > 1) then decide (y < 2147483579) else false) with
  | false => exact Fn.xv (fuel := 1000) (told := [true, false]) rpow_lib Sp.mixed (r := .c (.bool false)) (ob := bnd (bnd (bnd (bnd (bnd (bnd true (decide (y > 1) == true && true)) (decide (y > 1) == true && true)) ((bif decide (y > 1) then decide (y < 2147483579) else false) == false && true)) ((bif decide (y > 1) then decide (y < 2147483579) else false) == false && true)) ((bif decide (y > 1) then decide (y < 2147483579) else false) == false && true)) (!(bif decide (y > 1) then decide (y < 2147483579) else false))) (obs := []) (by kernel_rfl) (by rw [hO, h2]; rfl) trivial (by unfold isS; rw [h2]; rfl)
  | true => exact Fn.xv (fuel := 1000) (told := [true, true]) rpow_lib Sp.mixed (r := .c (.bool (bif (bif decide (y > 1) then decide (y < 2147483579) else false) then powS y 1073741789 == 1 else false))) (ob := bnd (bnd (bnd (bnd (bnd true (decide (y > 1) == true && true)) (decide (y > 1) == true && true)) ((bif decide (y > 1) then decide (y < 2147483579) else false) == true && true)) ((bif decide (y > 1) then decide (y < 2147483579) else false) == true && true)) ((bif decide (y > 1) then decide (y < 2147483579) else false) == true && true)) (obs := []) (by kernel_rfl) (by rw [hO, h2]; rfl) trivial rfl
abbrev frBeg : Nat := 64
def rbegC : Con := pureConB (fun | [.agg cs, .c (.u64 n)] => h32 cs && (n != 0) | _ => true) fun | [.agg cs, .c (.u64 n)] => some (.c (.int (begS cs n))) | _ => none
theorem rbeg_ok : ConOK Tryz.prog frBeg rbegC := by
  refine pureConB_ok (fn := Tryz.f64) (by kernel_rfl) rfl rfl fun args v hok h => ?_
  split at h <;> try (cases h; done)
  rename_i cs n
  simp only [Option.some.injEq] at h; subst h
  simp only [Bool.and_eq_true] at hok
  have h1 := hok.1
  simp only [h32, Bool.and_eq_true] at h1
  refine ⟨rfl, by simp [SV.sole, soleU h1.2, SC.sole], fun w => ?_⟩
  exact Fn.xv (fuel := 1000) (told := []) (LibOK.nil _) Sp.mixed (r := .c (.int (begS cs n))) (ob := bnd (bOks cs true) (n != 0)) (obs := []) (by kernel_rfl) (by rw [bOks_eq hok.1, hok.2]; rfl) trivial rfl
theorem rscal_ok : ConOK Tryz.prog frScal scalC := by
  refine pureConB_ok (fn := Tryz.f28) (by kernel_rfl) rfl rfl fun args v hok h => ?_
  split at h <;> try (cases h; done)
  rename_i cs
  simp only [Option.some.injEq] at h; subst h
  simp only at hok
  have hok' := hok
  simp only [h32, Bool.and_eq_true] at hok'
  have hl := Nat.eq_of_beq_eq_true hok'.1
  have ht : cs.take 32 = cs := List.take_of_length_le (by omega)
  refine ⟨rfl, by simp [SV.sole, soleU hok'.2], fun w => ?_⟩
  refine Fn.xv (fuel := 1000) (told := []) (LibOK.cons rbeg_ok (LibOK.nil _)) Sp.mixed (r := .c (.int (scalS (cs.take 32)))) (ob := bnd (bnd true (Nat.ble (0 + 32) cs.length)) (h32 (cs.take 32) && true)) (obs := []) (by kernel_rfl) (by rw [ht, hok]; simp [bnd_true]; omega) trivial (by rw [ht])

end Go.Proofs.YtabiknpgakhkkaaGreat.Pw
end

section
namespace Go.Proofs.YtabiknpgakhkkaaGreat.Pw
open Go.RowKit Go.Proofs.YtabiknpgakhkkaaGreat.Sx
set_option linter.unusedVariables false

/-- No number from 2 to k + 1 divides. -/
def noDiv : Nat → Bool
  | 0 => true
  | k + 1 => !(Nat.beq (prQ % (k + 2)) 0) && noDiv k
theorem noDiv_spec : ∀ {k : Nat}, noDiv k = true → ∀ d, 2 ≤ d → d ≤ k + 1 → ¬ d ∣ prQ
  | 0, _, d, h1, h2, _ => by omega
  | k + 1, h, d, h1, h2, hd => by
    simp only [noDiv, Bool.and_eq_true, Bool.not_eq_true'] at h
    rcases Nat.eq_or_lt_of_le h2 with rfl | h2
    · have := Nat.mod_eq_zero_of_dvd hd
      rw [this] at h; simp at h
    · exact noDiv_spec h.2 d h1 (by omega) hd
theorem noDiv_Q : noDiv 32767 = true := by kernel_rfl
theorem q_prime {d : Nat} (hd : d ∣ prQ) : d = 1 ∨ d = prQ := by
  obtain ⟨c, hc⟩ := hd
  have hQ : prQ = 1073741789 := rfl
  rcases Nat.lt_or_ge 32768 d with h | h
  · right
    have hc1 : c ≤ 32768 := by
      refine Classical.byContradiction fun hn => ?_
      have : 32769 * 32769 ≤ d * c := Nat.mul_le_mul (by omega) (by omega)
      omega
    have hc2 : ¬ 2 ≤ c := fun h2 => noDiv_spec noDiv_Q c h2 (by omega) ⟨d, by rw [hc, Nat.mul_comm]⟩
    have : c = 1 := by
      rcases Nat.eq_zero_or_pos c with rfl | h0
      · simp at hc
      · omega
    subst this; omega
  · left
    have hd2 : ¬ 2 ≤ d := fun h2 => noDiv_spec noDiv_Q d h2 (by omega) ⟨c, hc⟩
    rcases Nat.eq_zero_or_pos d with rfl | h0
    · simp at hc
    · omega
theorem q_coprime {s : Nat} (h0 : 0 < s) (h1 : s < prQ) : Nat.gcd s prQ = 1 := by
  rcases q_prime (Nat.gcd_dvd_right s prQ) with h | h
  · exact h
  · exfalso
    have : prQ ∣ s := by rw [← h]; exact Nat.gcd_dvd_left s prQ
    have := Nat.le_of_dvd h0 this
    omega

/-- Powers by squaring. -/
def pmodF : Nat → Nat → Nat → Nat
  | 0, _, _ => 1
  | f + 1, b, e => bif Nat.beq (e % 2) 1 then b * pmodF f (b * b % prP) (e / 2) % prP else pmodF f (b * b % prP) (e / 2)
theorem pmodF_eq : ∀ (f b e : Nat), e < 2 ^ f → pmodF f b e = b ^ e % prP
  | 0, b, e, h => by
    have : e = 0 := by omega
    subst this; rfl
  | f + 1, b, e, h => by
    have ih := pmodF_eq f (b * b % prP) (e / 2) (by rw [Nat.pow_succ] at h; omega)
    have h2 : (b * b % prP) ^ (e / 2) % prP = b ^ (2 * (e / 2)) % prP := by rw [← Nat.pow_mod, Nat.pow_mul, Nat.pow_two]
    simp only [pmodF, ih, h2]
    by_cases ho : e % 2 = 1
    · rw [ho]
      simp only [Nat.beq_refl, cond_true]
      have he : e = 2 * (e / 2) + 1 := by omega
      conv => rhs; rw [he, Nat.pow_succ]
      rw [Nat.mul_mod, Nat.mod_mod, ← Nat.mul_mod, Nat.mul_comm]
    · have h0 : e % 2 = 0 := by omega
      rw [h0]
      have : Nat.beq 0 1 = false := rfl
      rw [this, cond_false]
      have he : e = 2 * (e / 2) := by omega
      conv => rhs; rw [he]
theorem four_q : 4 ^ prQ % prP = 1 := by
  rw [← pmodF_eq 30 4 prQ (by decide)]
  kernel_rfl

/-- How often is closed under differences. -/
theorem one_gcd (a : Nat) : ∀ (k m n : Nat), m + n ≤ k → a ^ m % prP = 1 → a ^ n % prP = 1 → a ^ Nat.gcd m n % prP = 1
  | 0, m, n, hk, hm, hn => by
    have h1 : m = 0 := by omega
    have h2 : n = 0 := by omega
    subst h1 h2; rfl
  | k + 1, m, n, hk, hm, hn => by
    have sub : ∀ {x y : Nat}, x ≤ y → a ^ x % prP = 1 → a ^ y % prP = 1 → a ^ (y - x) % prP = 1 := fun {x y} h hx hy => by
      have : a ^ y = a ^ (y - x) * a ^ x := by rw [← Nat.pow_add]; congr 1; omega
      rw [this, Nat.mul_mod, hx, Nat.mul_one, Nat.mod_mod] at hy
      exact hy
    rcases Nat.eq_zero_or_pos m with rfl | hm0
    · rw [Nat.gcd_zero_left]; exact hn
    rcases Nat.eq_zero_or_pos n with rfl | hn0
    · rw [Nat.gcd_zero_right]; exact hm
    rcases Nat.le_total m n with h | h
    · have := one_gcd a k m (n - m) (by omega) hm (sub h hm hn)
      rwa [Nat.gcd_sub_self_right h] at this
    · have := one_gcd a k (m - n) n (by omega) (sub h hn hm) hn
      rwa [Nat.gcd_sub_self_left h] at this

theorem pow_q (m : Nat) : (4 ^ m % prP) ^ prQ % prP = 1 := by
  rw [← Nat.pow_mod, ← Nat.pow_mul, Nat.mul_comm, Nat.pow_mul, Nat.pow_mod, four_q, Nat.one_pow]; rfl
theorem pow_gt {m : Nat} (h : Nat.gcd m prQ = 1) : 1 < 4 ^ m % prP := by
  have h1 : 4 ^ m % prP ≠ 1 := fun e => by
    have := one_gcd 4 (m + prQ) m prQ (Nat.le_refl _) e four_q
    rw [h] at this
    exact absurd this (by decide)
  have h0 : 4 ^ m % prP ≠ 0 := fun e => by
    have := pow_q m
    rw [e, Nat.zero_pow (by decide)] at this
    exact absurd this (by decide)
  omega
theorem powN_q {y : Nat} (h : y ^ prQ % prP = 1) : powN y prQ = 1 := by rw [powN_eq]; exact h
theorem powS_of {b e : Nat} (h : pgQ (b : Int) (e : Int) = false) : powS b e = (powN b e : Nat) := by
  unfold powS
  rw [h, cond_false, Int.toNat_natCast, Int.toNat_natCast]
theorem isS_of {y : Nat} (h1 : 1 < y) (h2 : y < 2147483579) (h : powS (y : Int) ((prQ : Nat) : Int) = 1) : isS (y : Int) = true := by
  unfold isS
  rw [decide_eq_true (show (y : Int) > 1 by omega), decide_eq_true (show (y : Int) < 2147483579 by omega), cond_true, cond_true, beq_iff_eq]
  exact h
theorem isS_pow {m : Nat} (h : Nat.gcd m prQ = 1) : isS ((4 ^ m % prP : Nat) : Int) = true := by
  have h1 := pow_gt h
  have h2 : 4 ^ m % prP < prP := Nat.mod_lt _ (by decide)
  have hq := pow_q m
  generalize 4 ^ m % prP = y at h1 h2 hq
  have hin : inN (y : Int) = true := inN_iff.2 ⟨by omega, by simp only [prP] at h2; omega⟩
  refine isS_of h1 h2 ?_
  rw [powS_of (pgQ_iff.2 ⟨hin, by omega, by simp only [prQ]; omega⟩), powN_q hq]; rfl

/-- What a secret's public number is. -/
theorem powS_nat {b e : Nat} (hb : b < prP) (he : e ≤ prQ) : powS b e = ((b ^ e % prP : Nat) : Int) := by
  have hP : prP = 2147483579 := rfl
  have hQ : prQ = 1073741789 := rfl
  have : pgQ (b : Int) (e : Int) = false := pgQ_iff.2 ⟨inN_iff.2 ⟨by omega, by omega⟩, by omega, by omega⟩
  unfold powS
  rw [this, cond_false]; rw [Int.toNat_natCast, Int.toNat_natCast, powN_eq]
theorem scal_nat (cs : List SC) : ∃ s : Nat, scalS cs = (s : Int) ∧ 0 < s ∧ s < prQ := by
  have ⟨h1, h2⟩ := scalS_bd cs
  have hQ : prQ = 1073741789 := rfl
  exact ⟨(scalS cs).toNat, by omega, by omega, by omega⟩
theorem pub_nat {s : Nat} (h : s < prQ) : powS 4 (s : Int) = ((4 ^ s % prP : Nat) : Int) := powS_nat (b := 4) (by decide) (Nat.le_of_lt h)
theorem share_nat {s t : Nat} (hs : s < prQ) (ht : t < prQ) : powS (powS 4 (s : Int)) (t : Int) = ((4 ^ (s * t) % prP : Nat) : Int) := by
  rw [pub_nat hs, powS_nat (Nat.mod_lt _ (by decide)) (Nat.le_of_lt ht), ← Nat.pow_mod, Nat.pow_mul]
theorem share_coprime {s t : Nat} (hs0 : 0 < s) (hs : s < prQ) (ht0 : 0 < t) (ht : t < prQ) : Nat.gcd (s * t) prQ = 1 :=
  Nat.Coprime.mul_left (q_coprime hs0 hs) (q_coprime ht0 ht)

end Go.Proofs.YtabiknpgakhkkaaGreat.Pw
end

