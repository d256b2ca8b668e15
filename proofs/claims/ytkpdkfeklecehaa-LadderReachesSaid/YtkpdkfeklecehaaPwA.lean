/-
  Numbers round a prime: what the functions of power, and the document's, compute.
-/
import Derived.Test.YtkpdkfeklecehaaSxK
import Derived.Test.YtkpdkfeklecehaaSpA
namespace Go.Proofs.Ytkpdkfeklecehaa.Pw
open Go.RowKit Go.Proofs.Ytkpdkfeklecehaa.Sx
set_option linter.unusedVariables false

abbrev prP : Nat := 2147483579
abbrev prQ : Nat := 1073741789
def g0 (a : Int) : Bool := decide (a ≥ 0)
/-- Is it a number round the prime? -/
def inN (a : Int) : Bool := bif g0 a then decide (a < 2147483579) else false
theorem inN_iff {a : Int} : inN a = true ↔ 0 ≤ a ∧ a < 2147483579 := by
  unfold inN g0
  by_cases h : a ≥ 0
  · rw [decide_eq_true h]; simp; omega
  · rw [decide_eq_false h]; simp; omega
def inC : Con := pureCon fun | [.c (.int a)] => some (.c (.bool (inN a))) | _ => none
/-- The product. -/
def mulS (a b : Int) : Int := bif inN a && inN b then (IntKind.i64.wrap (a * b)).tmod 2147483579 else 0
def mulC : Con := pureCon fun | [.c (.int a), .c (.int b)] => some (.c (.int (mulS a b))) | _ => none
def gM (a : Int) : Bool := !(inN a)
def oM (a : Int) (g : Bool) : Bool := bnd (bnd (bnd true (gM a == g && true)) (gM a == g && true)) (gM a == g && true)
theorem oM_eq (a : Int) : oM a (gM a) = true := by unfold oM; cases gM a <;> rfl
theorem mulS_eq {a b : Nat} (ha : a < prP) (hb : b < prP) : mulS a b = ((a * b % prP : Nat) : Int) := by
  have h1 : inN (a : Int) = true := inN_iff.2 ⟨by omega, by simp only [prP] at ha; omega⟩
  have h2 : inN (b : Int) = true := inN_iff.2 ⟨by omega, by simp only [prP] at hb; omega⟩
  have hm : a * b ≤ 2147483579 * 2147483579 := Nat.mul_le_mul (by simp only [prP] at ha; omega) (by simp only [prP] at hb; omega)
  have hw : IntKind.i64.wrap ((a : Int) * (b : Int)) = ((a * b : Nat) : Int) := by
    rw [IntKind.wrap_i64]; rw [← Int.natCast_mul]; omega
  unfold mulS
  rw [h1, h2, hw, Bool.and_self, cond_true, Int.tmod_eq_emod_of_nonneg (by omega)]
  exact (Int.natCast_emod _ _).symm
theorem mulS_1 {a b : Int} (h : gM a = true) : (SV.c (.int 0)) = .c (.int (mulS a b)) := by
  have : inN a = false := by simpa [gM] using h
  unfold mulS; rw [this]; rfl
theorem mulS_2 {a b : Int} (ha : gM a = false) (h : gM b = true) : (SV.c (.int 0)) = .c (.int (mulS a b)) := by
  have h1 : inN a = true := by simpa [gM] using ha
  have h2 : inN b = false := by simpa [gM] using h
  unfold mulS; rw [h1, h2]; rfl
theorem mulS_3 {a b : Int} (ha : gM a = false) (h : gM b = false) : (SV.c (.int ((IntKind.i64.wrap (a * b)).tmod 2147483579))) = .c (.int (mulS a b)) := by
  have h1 : inN a = true := by simpa [gM] using ha
  have h2 : inN b = true := by simpa [gM] using h
  unfold mulS; rw [h1, h2]; rfl

/-! Powers. -/
def e1 (e : Int) : Bool := IntKind.i64.wrap (BitVec.ofInt 64 e &&& BitVec.ofInt 64 1).toNat == 1
theorem e1_nat {e : Nat} (h : e < 2 ^ 63) : e1 (e : Int) = decide (e % 2 = 1) := by
  unfold e1
  have : (BitVec.ofInt 64 (e : Int) &&& BitVec.ofInt 64 1).toNat = e % 2 := by
    rw [BitVec.toNat_and, BitVec.toNat_ofInt, BitVec.toNat_ofInt]
    have h1 : ((e : Int) % ((2 ^ 64 : Nat) : Int)).toNat = e := by omega
    have h2 : ((1 : Int) % ((2 ^ 64 : Nat) : Int)).toNat = 1 := by decide
    rw [h1, h2, Nat.and_one_is_mod]
  rw [this]
  have hw : IntKind.i64.wrap ((e % 2 : Nat) : Int) = ((e % 2 : Nat) : Int) := by rw [IntKind.wrap_i64]; omega
  rw [hw]
  by_cases h2 : e % 2 = 1
  · rw [h2]; rfl
  · have : e % 2 = 0 := by omega
    rw [this]; rfl
theorem pow_step {n b e : Nat} (hn : n < prP) (hb : b < prP) : (bif decide (e % 2 = 1) then n * b % prP else n) * (b * b % prP) ^ (e / 2) % prP = n * b ^ e % prP := by
  have h1 : ∀ x, x * (b * b % prP) ^ (e / 2) % prP = x * (b * b) ^ (e / 2) % prP := fun x => by
    rw [Nat.mul_mod, ← Nat.pow_mod, ← Nat.mul_mod]
  have h2 : (b * b) ^ (e / 2) = b ^ (2 * (e / 2)) := by rw [Nat.pow_mul, Nat.pow_two]
  by_cases h : e % 2 = 1
  · rw [decide_eq_true h, cond_true, h1, h2, Nat.mul_mod, Nat.mod_mod, ← Nat.mul_mod]
    have he : e = 2 * (e / 2) + 1 := by omega
    conv => rhs; rw [he, Nat.pow_succ]
    congr 1
    simp only [Nat.mul_assoc, Nat.mul_comm]
  · rw [decide_eq_false h, cond_false, h1, h2]
    have he : e = 2 * (e / 2) := by omega
    conv => rhs; rw [he]
/-- A number so often, squared again and again. -/
def powF : Nat → Nat → Nat → Nat → Nat
  | 0, n, _, _ => n
  | k + 1, n, b, e => powF k (bif Nat.beq (e % 2) 1 then n * b % prP else n) (b * b % prP) (e / 2)
theorem powF_eq : ∀ (k : Nat) {n b e : Nat}, n < prP → b < prP → e < 2 ^ k → powF k n b e = n * b ^ e % prP
  | 0, n, b, e, hn, _, he => by
    have : e = 0 := by omega
    subst this
    simp only [powF, Nat.pow_zero, Nat.mul_one]
    exact (Nat.mod_eq_of_lt hn).symm
  | k + 1, n, b, e, hn, hb, he => by
    have hlt : ∀ x, x % prP < prP := fun x => Nat.mod_lt _ (by decide)
    have h2 : e / 2 < 2 ^ k := by rw [Nat.pow_succ] at he; omega
    have hd : Nat.beq (e % 2) 1 = decide (e % 2 = 1) := by
      by_cases h : e % 2 = 1
      · rw [decide_eq_true h, h]; rfl
      · have : e % 2 = 0 := by omega
        rw [decide_eq_false h, this]; rfl
    have hn' : (bif decide (e % 2 = 1) then n * b % prP else n) < prP := by
      cases decide (e % 2 = 1)
      · exact hn
      · exact hlt _
    unfold powF
    rw [hd, powF_eq k hn' (hlt _) h2, pow_step hn hb]
/-- A number so often. -/
def powN (b e : Nat) : Nat := bif Nat.ble e 4294967295 then powF 32 1 (b % prP) e else b ^ e % prP
theorem powN_eq (b e : Nat) : powN b e = b ^ e % prP := by
  unfold powN
  cases h : Nat.ble e 4294967295 with
  | false => rfl
  | true =>
    rw [Nat.ble_eq] at h
    rw [cond_true, powF_eq 32 (by decide) (Nat.mod_lt _ (by decide)) (by omega), Nat.one_mul, ← Nat.pow_mod]
def pgE (b e : Int) : Bool := bif gM b then true else decide (e < 0)
def pgQ (b e : Int) : Bool := bif pgE b e then true else decide (e > 1073741789)
def powS (b e : Int) : Int := bif pgQ b e then 0 else (powN b.toNat e.toNat : Nat)
def powC : Con := pureCon fun | [.c (.int a), .c (.int b)] => some (.c (.int (powS a b))) | _ => none
def powI (a : Int × Int × Int) : St := ⟨[(0, .c (.int a.1)), (1, .c (.int a.2.1)), (5, .c (.int a.2.2))], [], 0, 31⟩
def powCut : Cut := ⟨[(0, true), (1, true), (5, true)], [], 0⟩
def powO (b e : Int) (x y : Bool) : Bool := bnd (bnd (bnd (bnd true (gM b == x && true)) (gM b == x && true)) (pgE b e == y && true)) (pgE b e == y && true)
theorem pgQ_iff {b e : Int} : pgQ b e = false ↔ inN b = true ∧ 0 ≤ e ∧ e ≤ 1073741789 := by
  unfold pgQ pgE gM
  cases hb : inN b
  · simp
  · simp only [Bool.not_true, cond_false]
    by_cases h : e < 0
    · rw [decide_eq_true h]; simp; omega
    · rw [decide_eq_false h]; simp; omega

/-! Hashes as numbers. -/
def bB (cs : List SC) (i : Nat) : UInt64 := (cs.getD (0 + i * 1) .nilp).asU8.toUInt64
def bW (cs : List SC) : UInt64 := shlW (shlW (shlW (shlW (shlW (shlW (shlW (shlW 0 8 ||| bB cs 0) 8 ||| bB cs 1) 8 ||| bB cs 2) 8 ||| bB cs 3) 8 ||| bB cs 4) 8 ||| bB cs 5) 8 ||| bB cs 6) 8 ||| bB cs 7
def bOk (cs : List SC) (i : Nat) (acc : Bool) : Bool := bnd acc (Nat.blt (0 + i * 1) cs.length && (cs.getD (0 + i * 1) .nilp).isU8)
def bOks (cs : List SC) (acc : Bool) : Bool := bOk cs 7 (bOk cs 6 (bOk cs 5 (bOk cs 4 (bOk cs 3 (bOk cs 2 (bOk cs 1 (bOk cs 0 acc)))))))
def h32 (cs : List SC) : Bool := Nat.beq cs.length 32 && cs.all SC.isU8
theorem getD_isU8 {cs : List SC} (h : cs.all SC.isU8 = true) {i : Nat} (hi : i < cs.length) : (cs.getD i .nilp).isU8 = true := by
  rw [List.all_eq_true] at h
  simp only [List.getD, List.getElem?_eq_getElem hi, Option.getD_some]
  exact h _ (List.getElem_mem _)
theorem bOk_eq {cs : List SC} (h : h32 cs = true) (i : Nat) (hi : i < 32) (acc : Bool) : bOk cs i acc = acc := by
  simp only [h32, Bool.and_eq_true] at h
  have h1 := Nat.eq_of_beq_eq_true h.1
  have : (Nat.blt (0 + i * 1) cs.length && (cs.getD (0 + i * 1) .nilp).isU8) = true := by
    rw [Bool.and_eq_true]
    refine ⟨by rw [Nat.blt_eq]; omega, getD_isU8 h.2 (by omega)⟩
  unfold bOk
  rw [this]; rfl
theorem bOks_eq {cs : List SC} (h : h32 cs = true) (acc : Bool) : bOks cs acc = acc := by
  unfold bOks
  simp only [bOk_eq h _ (by omega : 7 < 32), bOk_eq h _ (by omega : 6 < 32), bOk_eq h _ (by omega : 5 < 32), bOk_eq h _ (by omega : 4 < 32), bOk_eq h _ (by omega : 3 < 32), bOk_eq h _ (by omega : 2 < 32), bOk_eq h _ (by omega : 1 < 32), bOk_eq h _ (by omega : 0 < 32)]
def begS (cs : List SC) (n : UInt64) : Int := IntKind.i64.wrap ((bW cs % n).toNat : Int)
theorem soleU {cs : List SC} (h : cs.all SC.isU8 = true) : cs.all SC.sole = true := by
  rw [List.all_eq_true] at h ⊢
  intro x hx
  have := h x hx
  cases x <;> first | rfl | (simp [SC.isU8] at this; done)
def scalS (cs : List SC) : Int := IntKind.i64.wrap (begS cs 1073741788 + 1)
theorem scalS_bd (cs : List SC) : 1 ≤ scalS cs ∧ scalS cs ≤ 1073741788 := by
  have h1 : (bW cs % (1073741788 : UInt64)).toNat < 1073741788 := by
    rw [UInt64.toNat_mod]
    exact Nat.mod_lt _ (by decide)
  unfold scalS begS
  rw [IntKind.wrap_i64, IntKind.wrap_i64]
  omega
/-- A contract of plain values that must be such. -/
def pureConB (ok : List SV → Bool) (spec : List SV → Option SV) : Con := ⟨false, fun args _ _ => match spec args with
  | some v => some (.new ⟨ok args, [], v, []⟩)
  | none => none⟩
theorem pureConB_ok {P : Program} {f : FuncId} {ok : List SV → Bool} {spec : List SV → Option SV} {fn : Func} (hf : P.funcs[f]? = some fn) (hn : (fn.name == "runtime.NumGoroutine") = false) (hb : fn.body.isNone = false)
    (h : ∀ args v, ok args = true → spec args = some v → v.sole = true ∧ args.all SV.sole = true ∧ ∀ w, Sx.Fn P f (atW w 0) args [] 0 fun r _ => r = v) : ConOK P f (pureConB ok spec) := by
  refine ⟨fun args w => enters_of hf hn hb args w, fun args T kb r hr hob hobs X ρ w vs hrel ha hfr => ?_, fun args T kb r hr => ?_⟩
  · simp only [pureConB] at hr
    split at hr <;> try (cases hr; done)
    rename_i v hv
    simp only [Option.some.injEq, Eff.new.injEq] at hr; subst hr
    obtain ⟨h1, h2, h3⟩ := h args v hob hv
    refine (h3 w renNone w vs (rel0 w) (plains_R ha h2) fun k _ => rfl).mono fun e w' ⟨u, v', T', ρ', he, hv', hur, _, hrel'⟩ => ⟨u, ρ, he, ?_, New.of_below hrel'.below⟩
    subst hv'; exact plainS_R hur h1
  · simp only [pureConB] at hr
    split at hr <;> cases hr
def scalC : Con := pureConB (fun | [.agg cs] => h32 cs | _ => true) fun | [.agg cs] => some (.c (.int (scalS cs))) | _ => none
def isS (y : Int) : Bool := bif (bif decide (y > 1) then decide (y < 2147483579) else false) then powS y 1073741789 == 1 else false
def isC : Con := pureCon fun | [.c (.int y)] => some (.c (.bool (isS y))) | _ => none

/-! The program's. -/
abbrev fpIn : Nat := 48
abbrev fpMul : Nat := 49
abbrev fpPow : Nat := 34
abbrev fpScal : Nat := 44
theorem pin_ok : ConOK Try.prog fpIn inC := by
  refine pureCon_ok (fn := Try.f48) (by kernel_rfl) rfl rfl fun args v h => ?_
  split at h <;> try (cases h; done)
  rename_i a
  simp only [Option.some.injEq] at h; subst h
  refine ⟨rfl, rfl, fun w => ?_⟩
  cases hg : g0 a with
  | true => exact Fn.xv (fuel := 1000) (told := [true]) (LibOK.nil _) Sp.mixed (r := .c (.bool (bif g0 a then decide (a < 2147483579) else false))) (ob := bnd (bnd true (g0 a == true && true)) (g0 a == true && true)) (obs := []) (by kernel_rfl) (by rw [hg]; rfl) trivial rfl
  | false => exact Fn.xv (fuel := 1000) (told := [false]) (LibOK.nil _) Sp.mixed (r := .c (.bool false)) (ob := bnd (bnd (bnd true (g0 a == false && true)) (g0 a == false && true)) (!g0 a)) (obs := []) (by kernel_rfl) (by rw [hg]; rfl) trivial (by unfold inN; rw [hg]; rfl)
theorem pin_lib : LibOK Try.prog [(fpIn, inC)] := LibOK.cons pin_ok (LibOK.nil _)
theorem pmul_ok : ConOK Try.prog fpMul mulC := by
  refine pureCon_ok (fn := Try.f49) (by kernel_rfl) rfl rfl fun args v h => ?_
  split at h <;> try (cases h; done)
  rename_i a b
  simp only [Option.some.injEq] at h; subst h
  refine ⟨rfl, rfl, fun w => ?_⟩
  have hO := oM_eq a
  cases hg : gM a with
  | true =>
    rw [hg] at hO
    exact Fn.xv (fuel := 1000) (told := [true, true]) pin_lib Sp.mixed (r := .c (.int 0)) (ob := bnd (oM a true) (gM a)) (obs := []) (by kernel_rfl) (by rw [hg, hO]; rfl) trivial (mulS_1 hg)
  | false =>
    rw [hg] at hO
    have ha : inN a = true := by simpa [gM] using hg
    cases hb : gM b with
    | true => exact Fn.xv (fuel := 1000) (told := [false, true]) pin_lib Sp.mixed (r := .c (.int 0)) (ob := bnd (oM a false) (bif gM a then true else gM b)) (obs := []) (by kernel_rfl) (by rw [hg, hO, hb]; rfl) trivial (mulS_2 hg hb)
    | false => exact Fn.xv (fuel := 1000) (told := [false, false]) pin_lib Sp.mixed (r := .c (.int ((IntKind.i64.wrap (a * b)).tmod 2147483579))) (ob := bnd (oM a false) (!(bif gM a then true else gM b))) (obs := []) (by kernel_rfl) (by rw [hg, hO, hb]; rfl) trivial (mulS_3 hg hb)
theorem pmul_lib : LibOK Try.prog [(fpMul, mulC), (fpIn, inC)] := LibOK.cons pmul_ok pin_lib
theorem ppow_ok : ConOK Try.prog fpPow powC := by
  refine pureCon_ok (fn := Try.f34) (by kernel_rfl) rfl rfl fun args v h => ?_
  split at h <;> try (cases h; done)
  rename_i b e
  simp only [Option.some.injEq] at h; subst h
  refine ⟨rfl, rfl, fun w => ?_⟩
  have h0 : pgQ b e = true → (.c (.int 0) : SV) = .c (.int (powS b e)) := fun h => by unfold powS; rw [h]; rfl
  cases hg : gM b with
  | true =>
    have hE : pgE b e = true := by unfold pgE; rw [hg]; rfl
    have hQ : pgQ b e = true := by unfold pgQ; rw [hE]; rfl
    exact Fn.xv (fuel := 1000) (told := [true]) pmul_lib Sp.mixed (r := .c (.int 0)) (ob := bnd (bnd (bnd true (gM b == true && true)) (gM b == true && true)) (gM b)) (obs := []) (by kernel_rfl) (by rw [hg]; rfl) trivial (h0 hQ)
  | false =>
  cases hE : pgE b e with
  | true =>
    have hQ : pgQ b e = true := by unfold pgQ; rw [hE]; rfl
    exact Fn.xv (fuel := 1000) (told := [false, true]) pmul_lib Sp.mixed (r := .c (.int 0)) (ob := bnd (powO b e false true) (pgE b e)) (obs := []) (by kernel_rfl) (by unfold powO; rw [hg, hE]; rfl) trivial (h0 hQ)
  | false =>
  have hO : powO b e false false = true := by unfold powO; rw [hg, hE]; rfl
  cases hQ : pgQ b e with
  | true => exact Fn.xv (fuel := 1000) (told := [false, false, true]) pmul_lib Sp.mixed (r := .c (.int 0)) (ob := bnd (powO b e false false) (pgQ b e)) (obs := []) (by kernel_rfl) (by rw [hO, hQ]; rfl) trivial (h0 hQ)
  | false =>
  obtain ⟨hin, he0, heQ⟩ := pgQ_iff.1 hQ
  obtain ⟨hb0, hbP⟩ := inN_iff.1 hin
  refine Sx.Fn.of (nt := 31) (by kernel_rfl) rfl ?_
  refine SWs.step pmul_lib Sp.mixed (fuel := 1000) (n := 4) (told := [false, false, false]) (un := []) (c := powCut) (t := powI (b, e, 1)) (ob := bnd (powO b e false false) (!pgQ b e)) (obs := []) (by kernel_rfl) (by rw [hO, hQ]; rfl) trivial ?_
  refine SWs.loop (by kernel_rfl) powI (fun a => a.2.1.toNat) (fun a => ∃ n b1 e1 : Nat, a = ((b1 : Int), (e1 : Int), (n : Int)) ∧ n < prP ∧ b1 < prP ∧ e1 ≤ 1073741789 ∧ n * b1 ^ e1 % prP = powN b.toNat e.toNat) (b, e, 1) ⟨1, b.toNat, e.toNat, by rw [Int.toNat_of_nonneg hb0, Int.toNat_of_nonneg he0]; rfl, by decide, by simp only [prP]; omega, by omega, by simp [powN_eq]⟩ ?_
  rintro _ ⟨n, b1, e2, rfl, hn, hb1, he2, hinv⟩
  by_cases hpos : 0 < e2
  · have hd : decide ((e2 : Int) > 0) = true := decide_eq_true (by omega)
    have hf : (e2 : Int).fdiv 2 = ((e2 / 2 : Nat) : Int) := by rw [Int.fdiv_eq_ediv_of_nonneg _ (by omega)]; norm_cast
    have hbb := mulS_eq hb1 hb1
    have hnb := mulS_eq hn hb1
    have hst := pow_step (e := e2) hn hb1
    have hlt : ∀ x, x % prP < prP := fun x => Nat.mod_lt _ (by decide)
    have hm : ((e2 : Int).fdiv 2).toNat < (e2 : Int).toNat := by rw [hf, Int.toNat_natCast, Int.toNat_natCast]; omega
    have h1 := e1_nat (e := e2) (by omega)
    cases hodd : e1 (e2 : Int) with
    | true =>
      rw [h1] at hodd
      rw [hodd, cond_true] at hst
      refine SWs.round pmul_lib Sp.mixed (fuel := 1000) (n := 4) (told := [true, true]) (un := []) (c := powCut) (t := powI (mulS b1 b1, (e2 : Int).fdiv 2, mulS n b1)) (ob := bnd (bnd true (decide ((e2 : Int) > 0))) (e1 (e2 : Int))) (obs := []) (by kernel_rfl) (by kernel_rfl) (by rw [hd, h1, hodd]; rfl) trivial ?_
      exact ⟨_, ⟨n * b1 % prP, b1 * b1 % prP, e2 / 2, by rw [hbb, hnb, hf], hlt _, hlt _, by omega, by rw [hst]; exact hinv⟩, hm, rfl⟩
    | false =>
      rw [h1] at hodd
      rw [hodd, cond_false] at hst
      refine SWs.round pmul_lib Sp.mixed (fuel := 1000) (n := 4) (told := [true, false]) (un := []) (c := powCut) (t := powI (mulS b1 b1, (e2 : Int).fdiv 2, n)) (ob := bnd (bnd true (decide ((e2 : Int) > 0))) (!e1 (e2 : Int))) (obs := []) (by kernel_rfl) (by kernel_rfl) (by rw [hd, h1, hodd]; rfl) trivial ?_
      exact ⟨_, ⟨n, b1 * b1 % prP, e2 / 2, by rw [hbb, hf], hn, hlt _, by omega, by rw [hst]; exact hinv⟩, hm, rfl⟩
  · obtain rfl : e2 = 0 := by omega
    refine SWs.out pmul_lib Sp.mixed (fuel := 1000) (n := 2) (told := [false]) (un := []) (c := powCut) (t := powI ((b1 : Int), ((0 : Nat) : Int), (n : Int))) (ob := bnd true (!decide (((0 : Nat) : Int) > 0))) (obs := []) (by kernel_rfl) (by decide) trivial ?_
    refine SWs.finv pmul_lib Sp.mixed (fuel := 1000) (n := 100) (told := []) (v := .c (.int n)) (ob := true) (obs := []) (by kernel_rfl) rfl trivial ?_
    rw [Nat.pow_zero, Nat.mul_one, Nat.mod_eq_of_lt hn] at hinv
    unfold powS
    rw [hQ, cond_false, hinv]
theorem ppow_lib : LibOK Try.prog [(fpPow, powC)] := LibOK.cons ppow_ok (LibOK.nil _)
abbrev fpBeg : Nat := 56
def pbegC : Con := pureConB (fun | [.agg cs, .c (.int n)] => h32 cs && ((UInt64.ofInt n) != 0) | _ => true) fun | [.agg cs, .c (.int n)] => some (.c (.int (begS cs (UInt64.ofInt n)))) | _ => none
theorem pbeg_ok : ConOK Try.prog fpBeg pbegC := by
  refine pureConB_ok (fn := Try.f56) (by kernel_rfl) rfl rfl fun args v hok h => ?_
  split at h <;> try (cases h; done)
  rename_i cs n
  simp only [Option.some.injEq] at h; subst h
  simp only [Bool.and_eq_true] at hok
  have h1 := hok.1
  simp only [h32, Bool.and_eq_true] at h1
  refine ⟨rfl, by simp [SV.sole, soleU h1.2, SC.sole], fun w => ?_⟩
  exact Fn.xv (fuel := 1000) (told := []) (LibOK.nil _) Sp.mixed (r := .c (.int (begS cs (UInt64.ofInt n)))) (ob := bnd (bOks cs (bnd true (Nat.ble (0 + 32 * 1) cs.length))) ((UInt64.ofInt n) != 0)) (obs := []) (by kernel_rfl) (by rw [bOks_eq hok.1, hok.2]; rw [Nat.eq_of_beq_eq_true h1.1]; rfl) trivial rfl
theorem pscal_ok : ConOK Try.prog fpScal scalC := by
  refine pureConB_ok (fn := Try.f44) (by kernel_rfl) rfl rfl fun args v hok h => ?_
  split at h <;> try (cases h; done)
  rename_i cs
  simp only [Option.some.injEq] at h; subst h
  simp only at hok
  have hok' := hok
  simp only [h32, Bool.and_eq_true] at hok'
  have hl := Nat.eq_of_beq_eq_true hok'.1
  have ht : cs.take 32 = cs := List.take_of_length_le (by omega)
  refine ⟨rfl, by simp [SV.sole, soleU hok'.2], fun w => ?_⟩
  refine Fn.xv (fuel := 1000) (told := []) (LibOK.cons pbeg_ok (LibOK.nil _)) Sp.mixed (r := .c (.int (scalS (cs.take 32)))) (ob := bnd (bnd true (Nat.ble (0 + 32) cs.length)) (h32 (cs.take 32) && true)) (obs := []) (by kernel_rfl) (by rw [ht, hok]; simp [bnd_true]; omega) trivial (by rw [ht])

/-! The document's. -/
abbrev frIn : Nat := 53
abbrev frMul : Nat := 54
abbrev frPow : Nat := 37
abbrev frIs : Nat := 24
abbrev frScal : Nat := 43
theorem rin_ok : ConOK Try.prog frIn inC := by
  refine pureCon_ok (fn := Try.f53) (by kernel_rfl) rfl rfl fun args v h => ?_
  split at h <;> try (cases h; done)
  rename_i a
  simp only [Option.some.injEq] at h; subst h
  refine ⟨rfl, rfl, fun w => ?_⟩
  cases hg : g0 a with
  | true => exact Fn.xv (fuel := 1000) (told := [true]) (LibOK.nil _) Sp.mixed (r := .c (.bool (bif g0 a then decide (a < 2147483579) else false))) (ob := bnd (bnd true (g0 a == true && true)) (g0 a == true && true)) (obs := []) (by kernel_rfl) (by rw [hg]; rfl) trivial rfl
  | false => exact Fn.xv (fuel := 1000) (told := [false]) (LibOK.nil _) Sp.mixed (r := .c (.bool false)) (ob := bnd (bnd (bnd true (g0 a == false && true)) (g0 a == false && true)) (!g0 a)) (obs := []) (by kernel_rfl) (by rw [hg]; rfl) trivial (by unfold inN; rw [hg]; rfl)
theorem rin_lib : LibOK Try.prog [(frIn, inC)] := LibOK.cons rin_ok (LibOK.nil _)
theorem rmul_ok : ConOK Try.prog frMul mulC := by
  refine pureCon_ok (fn := Try.f54) (by kernel_rfl) rfl rfl fun args v h => ?_
  split at h <;> try (cases h; done)
  rename_i a b
  simp only [Option.some.injEq] at h; subst h
  refine ⟨rfl, rfl, fun w => ?_⟩
  have hO := oM_eq a
  cases hg : gM a with
  | true =>
    rw [hg] at hO
    exact Fn.xv (fuel := 1000) (told := [true, true]) rin_lib Sp.mixed (r := .c (.int 0)) (ob := bnd (oM a true) (gM a)) (obs := []) (by kernel_rfl) (by rw [hg, hO]; rfl) trivial (mulS_1 hg)
  | false =>
    rw [hg] at hO
    have ha : inN a = true := by simpa [gM] using hg
    cases hb : gM b with
    | true => exact Fn.xv (fuel := 1000) (told := [false, true]) rin_lib Sp.mixed (r := .c (.int 0)) (ob := bnd (oM a false) (bif gM a then true else gM b)) (obs := []) (by kernel_rfl) (by rw [hg, hO, hb]; rfl) trivial (mulS_2 hg hb)
    | false => exact Fn.xv (fuel := 1000) (told := [false, false]) rin_lib Sp.mixed (r := .c (.int ((IntKind.i64.wrap (a * b)).tmod 2147483579))) (ob := bnd (oM a false) (!(bif gM a then true else gM b))) (obs := []) (by kernel_rfl) (by rw [hg, hO, hb]; rfl) trivial (mulS_3 hg hb)
theorem rmul_lib : LibOK Try.prog [(frMul, mulC), (frIn, inC)] := LibOK.cons rmul_ok rin_lib
theorem rpow_ok : ConOK Try.prog frPow powC := by
  refine pureCon_ok (fn := Try.f37) (by kernel_rfl) rfl rfl fun args v h => ?_
  split at h <;> try (cases h; done)
  rename_i b e
  simp only [Option.some.injEq] at h; subst h
  refine ⟨rfl, rfl, fun w => ?_⟩
  have h0 : pgQ b e = true → (.c (.int 0) : SV) = .c (.int (powS b e)) := fun h => by unfold powS; rw [h]; rfl
  cases hg : gM b with
  | true =>
    have hE : pgE b e = true := by unfold pgE; rw [hg]; rfl
    have hQ : pgQ b e = true := by unfold pgQ; rw [hE]; rfl
    exact Fn.xv (fuel := 1000) (told := [true]) rmul_lib Sp.mixed (r := .c (.int 0)) (ob := bnd (bnd (bnd true (gM b == true && true)) (gM b == true && true)) (gM b)) (obs := []) (by kernel_rfl) (by rw [hg]; rfl) trivial (h0 hQ)
  | false =>
  cases hE : pgE b e with
  | true =>
    have hQ : pgQ b e = true := by unfold pgQ; rw [hE]; rfl
    exact Fn.xv (fuel := 1000) (told := [false, true]) rmul_lib Sp.mixed (r := .c (.int 0)) (ob := bnd (powO b e false true) (pgE b e)) (obs := []) (by kernel_rfl) (by unfold powO; rw [hg, hE]; rfl) trivial (h0 hQ)
  | false =>
  have hO : powO b e false false = true := by unfold powO; rw [hg, hE]; rfl
  cases hQ : pgQ b e with
  | true => exact Fn.xv (fuel := 1000) (told := [false, false, true]) rmul_lib Sp.mixed (r := .c (.int 0)) (ob := bnd (powO b e false false) (pgQ b e)) (obs := []) (by kernel_rfl) (by rw [hO, hQ]; rfl) trivial (h0 hQ)
  | false =>
  obtain ⟨hin, he0, heQ⟩ := pgQ_iff.1 hQ
  obtain ⟨hb0, hbP⟩ := inN_iff.1 hin
  refine Sx.Fn.of (nt := 31) (by kernel_rfl) rfl ?_
  refine SWs.step rmul_lib Sp.mixed (fuel := 1000) (n := 4) (told := [false, false, false]) (un := []) (c := powCut) (t := powI (b, e, 1)) (ob := bnd (powO b e false false) (!pgQ b e)) (obs := []) (by kernel_rfl) (by rw [hO, hQ]; rfl) trivial ?_
  refine SWs.loop (by kernel_rfl) powI (fun a => a.2.1.toNat) (fun a => ∃ n b1 e1 : Nat, a = ((b1 : Int), (e1 : Int), (n : Int)) ∧ n < prP ∧ b1 < prP ∧ e1 ≤ 1073741789 ∧ n * b1 ^ e1 % prP = powN b.toNat e.toNat) (b, e, 1) ⟨1, b.toNat, e.toNat, by rw [Int.toNat_of_nonneg hb0, Int.toNat_of_nonneg he0]; rfl, by decide, by simp only [prP]; omega, by omega, by simp [powN_eq]⟩ ?_
  rintro _ ⟨n, b1, e2, rfl, hn, hb1, he2, hinv⟩
  by_cases hpos : 0 < e2
  · have hd : decide ((e2 : Int) > 0) = true := decide_eq_true (by omega)
    have hf : (e2 : Int).fdiv 2 = ((e2 / 2 : Nat) : Int) := by rw [Int.fdiv_eq_ediv_of_nonneg _ (by omega)]; norm_cast
    have hbb := mulS_eq hb1 hb1
    have hnb := mulS_eq hn hb1
    have hst := pow_step (e := e2) hn hb1
    have hlt : ∀ x, x % prP < prP := fun x => Nat.mod_lt _ (by decide)
    have hm : ((e2 : Int).fdiv 2).toNat < (e2 : Int).toNat := by rw [hf, Int.toNat_natCast, Int.toNat_natCast]; omega
    have h1 := e1_nat (e := e2) (by omega)
    cases hodd : e1 (e2 : Int) with
    | true =>
      rw [h1] at hodd
      rw [hodd, cond_true] at hst
      refine SWs.round rmul_lib Sp.mixed (fuel := 1000) (n := 4) (told := [true, true]) (un := []) (c := powCut) (t := powI (mulS b1 b1, (e2 : Int).fdiv 2, mulS n b1)) (ob := bnd (bnd true (decide ((e2 : Int) > 0))) (e1 (e2 : Int))) (obs := []) (by kernel_rfl) (by kernel_rfl) (by rw [hd, h1, hodd]; rfl) trivial ?_
      exact ⟨_, ⟨n * b1 % prP, b1 * b1 % prP, e2 / 2, by rw [hbb, hnb, hf], hlt _, hlt _, by omega, by rw [hst]; exact hinv⟩, hm, rfl⟩
    | false =>
      rw [h1] at hodd
      rw [hodd, cond_false] at hst
      refine SWs.round rmul_lib Sp.mixed (fuel := 1000) (n := 4) (told := [true, false]) (un := []) (c := powCut) (t := powI (mulS b1 b1, (e2 : Int).fdiv 2, n)) (ob := bnd (bnd true (decide ((e2 : Int) > 0))) (!e1 (e2 : Int))) (obs := []) (by kernel_rfl) (by kernel_rfl) (by rw [hd, h1, hodd]; rfl) trivial ?_
      exact ⟨_, ⟨n, b1 * b1 % prP, e2 / 2, by rw [hbb, hf], hn, hlt _, by omega, by rw [hst]; exact hinv⟩, hm, rfl⟩
  · obtain rfl : e2 = 0 := by omega
    refine SWs.out rmul_lib Sp.mixed (fuel := 1000) (n := 2) (told := [false]) (un := []) (c := powCut) (t := powI ((b1 : Int), ((0 : Nat) : Int), (n : Int))) (ob := bnd true (!decide (((0 : Nat) : Int) > 0))) (obs := []) (by kernel_rfl) (by decide) trivial ?_
    refine SWs.finv rmul_lib Sp.mixed (fuel := 1000) (n := 100) (told := []) (v := .c (.int n)) (ob := true) (obs := []) (by kernel_rfl) rfl trivial ?_
    rw [Nat.pow_zero, Nat.mul_one, Nat.mod_eq_of_lt hn] at hinv
    unfold powS
    rw [hQ, cond_false, hinv]
theorem rpow_lib : LibOK Try.prog [(frPow, powC)] := LibOK.cons rpow_ok (LibOK.nil _)
theorem ris_ok : ConOK Try.prog frIs isC := by
  refine pureCon_ok (fn := Try.f24) (by kernel_rfl) rfl rfl fun args v h => ?_
  split at h <;> try (cases h; done)
  rename_i y
  simp only [Option.some.injEq] at h; subst h
  refine ⟨rfl, rfl, fun w => ?_⟩
  let a1 := decide (y > 1)
  let a2 := bif decide (y > 1) then decide (y < 2147483579) else false
  cases h1 : decide (y > 1) with
  | false => exact Fn.xv (fuel := 1000) (told := [false]) rpow_lib Sp.mixed (r := .c (.bool false)) (ob := bnd (bnd (bnd true (decide (y > 1) == false && true)) (decide (y > 1) == false && true)) (!decide (y > 1))) (obs := []) (by kernel_rfl) (by rw [h1]; rfl) trivial (by unfold isS; rw [h1]; rfl)
  | true =>
  have hO : (bnd (bnd true (decide (y > 1) == true && true)) (decide (y > 1) == true && true)) = true := by rw [h1]; rfl
  cases h2 : (bif decide (y > 1) then decide (y < 2147483579) else false) with
  | false => exact Fn.xv (fuel := 1000) (told := [true, false]) rpow_lib Sp.mixed (r := .c (.bool false)) (ob := bnd (bnd (bnd (bnd (bnd (bnd true (decide (y > 1) == true && true)) (decide (y > 1) == true && true)) ((bif decide (y > 1) then decide (y < 2147483579) else false) == false && true)) ((bif decide (y > 1) then decide (y < 2147483579) else false) == false && true)) ((bif decide (y > 1) then decide (y < 2147483579) else false) == false && true)) (!(bif decide (y > 1) then decide (y < 2147483579) else false))) (obs := []) (by kernel_rfl) (by rw [hO, h2]; rfl) trivial (by unfold isS; rw [h2]; rfl)
  | true => exact Fn.xv (fuel := 1000) (told := [true, true]) rpow_lib Sp.mixed (r := .c (.bool (bif (bif decide (y > 1) then decide (y < 2147483579) else false) then powS y 1073741789 == 1 else false))) (ob := bnd (bnd (bnd (bnd (bnd true (decide (y > 1) == true && true)) (decide (y > 1) == true && true)) ((bif decide (y > 1) then decide (y < 2147483579) else false) == true && true)) ((bif decide (y > 1) then decide (y < 2147483579) else false) == true && true)) ((bif decide (y > 1) then decide (y < 2147483579) else false) == true && true)) (obs := []) (by kernel_rfl) (by rw [hO, h2]; rfl) trivial rfl
abbrev frBeg : Nat := 55
def rbegC : Con := pureConB (fun | [.agg cs, .c (.u64 n)] => h32 cs && (n != 0) | _ => true) fun | [.agg cs, .c (.u64 n)] => some (.c (.int (begS cs n))) | _ => none
theorem rbeg_ok : ConOK Try.prog frBeg rbegC := by
  refine pureConB_ok (fn := Try.f55) (by kernel_rfl) rfl rfl fun args v hok h => ?_
  split at h <;> try (cases h; done)
  rename_i cs n
  simp only [Option.some.injEq] at h; subst h
  simp only [Bool.and_eq_true] at hok
  have h1 := hok.1
  simp only [h32, Bool.and_eq_true] at h1
  refine ⟨rfl, by simp [SV.sole, soleU h1.2, SC.sole], fun w => ?_⟩
  exact Fn.xv (fuel := 1000) (told := []) (LibOK.nil _) Sp.mixed (r := .c (.int (begS cs n))) (ob := bnd (bOks cs true) (n != 0)) (obs := []) (by kernel_rfl) (by rw [bOks_eq hok.1, hok.2]; rfl) trivial rfl
theorem rscal_ok : ConOK Try.prog frScal scalC := by
  refine pureConB_ok (fn := Try.f43) (by kernel_rfl) rfl rfl fun args v hok h => ?_
  split at h <;> try (cases h; done)
  rename_i cs
  simp only [Option.some.injEq] at h; subst h
  simp only at hok
  have hok' := hok
  simp only [h32, Bool.and_eq_true] at hok'
  have hl := Nat.eq_of_beq_eq_true hok'.1
  have ht : cs.take 32 = cs := List.take_of_length_le (by omega)
  refine ⟨rfl, by simp [SV.sole, soleU hok'.2], fun w => ?_⟩
  refine Fn.xv (fuel := 1000) (told := []) (LibOK.cons rbeg_ok (LibOK.nil _)) Sp.mixed (r := .c (.int (scalS (cs.take 32)))) (ob := bnd (bnd true (Nat.ble (0 + 32) cs.length)) (h32 (cs.take 32) && true)) (obs := []) (by kernel_rfl) (by rw [ht, hok]; simp [bnd_true]; omega) trivial (by rw [ht])

end Go.Proofs.Ytkpdkfeklecehaa.Pw
