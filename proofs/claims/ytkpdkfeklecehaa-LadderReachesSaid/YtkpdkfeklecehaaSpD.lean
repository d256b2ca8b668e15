/-
  Both turnings are one; the document's sum.
-/
import Derived.Test.YtkpdkfeklecehaaSpC
namespace Go.Proofs.Ytkpdkfeklecehaa.Sp
open Go.RowKit Go.Proofs.Ytkpdkfeklecehaa.Sx
set_option linter.unusedVariables false

theorem rot_right (x : UInt64) (a : Int) (n : UInt64) (k : Nat) (h1 : (UInt64.ofInt (IntKind.i64.wrap (0 - a)) &&& UInt64.ofNat (Int.toNat 63)).toNat = k)
    (h2 : (UInt64.ofNat (Int.toNat 64) - (UInt64.ofInt (IntKind.i64.wrap (0 - a)) &&& UInt64.ofNat (Int.toNat 63))).toNat = n.toNat) (h3 : (UInt64.ofNat (Int.toNat 64) - n).toNat = k) : rotl x (IntKind.i64.wrap (0 - a)) = right x n := by
  unfold rotl right
  rw [h1, h2, h3]
  exact UInt64.or_comm _ _

theorem turned_right (x : UInt64) (a b : Int) (n m : UInt64) (ha : rotl x (IntKind.i64.wrap (0 - a)) = right x n) (hb : rotl x (IntKind.i64.wrap (0 - b)) = right x m) : turned x a b = x ^^^ right x n ^^^ right x m := by
  unfold turned
  rw [ha, hb]

theorem rround_eq (x : W5) (r : Int) : rround x r = round x r := by
  have h : ∀ x : UInt64, ∀ (a : Int) (n : UInt64), (a, n) ∈ [((19 : Int), (19 : UInt64)), (28, 28), (61, 61), (39, 39), (1, 1), (6, 6), (10, 10), (17, 17), (7, 7), (41, 41)] → rotl x (IntKind.i64.wrap (0 - a)) = right x n := by
    intro x a n hm
    simp only [List.mem_cons, Prod.mk.injEq, List.not_mem_nil, or_false] at hm
    rcases hm with ⟨rfl, rfl⟩ | ⟨rfl, rfl⟩ | ⟨rfl, rfl⟩ | ⟨rfl, rfl⟩ | ⟨rfl, rfl⟩ | ⟨rfl, rfl⟩ | ⟨rfl, rfl⟩ | ⟨rfl, rfl⟩ | ⟨rfl, rfl⟩ | ⟨rfl, rfl⟩ <;> exact rot_right x _ _ _ rfl (by decide) (by decide)
  simp only [rround, round]
  rw [turned_right _ 19 28 19 28 (h _ _ _ (by simp)) (h _ _ _ (by simp)), turned_right _ 61 39 61 39 (h _ _ _ (by simp)) (h _ _ _ (by simp)), turned_right _ 1 6 1 6 (h _ _ _ (by simp)) (h _ _ _ (by simp)),
    turned_right _ 10 17 10 17 (h _ _ _ (by simp)) (h _ _ _ (by simp)), turned_right _ 7 41 7 41 (h _ _ _ (by simp)) (h _ _ _ (by simp))]

theorem rturnN_eq (x : W5) : ∀ n, rturnN n x = turnN n x
  | 0 => rfl
  | n + 1 => by simp only [rturnN, turnN, rturnN_eq x n, rround_eq]
theorem rturn_eq (x : W5) : rturn x = turn x := rturnN_eq x 12

theorem rturn_ok' : ConOK Try.prog fRT turnC := by
  refine pureCon_ok (fn := Try.f62) (by kernel_rfl) rfl rfl fun args v h => ?_
  split at h <;> try (cases h; done)
  rename_i a b c d e
  simp only [Option.some.injEq] at h; subst h
  exact ⟨rfl, rfl, fun w => by rw [← rturn_eq]; exact rturn_fn ⟨a, b, c, d, e⟩ w⟩

theorem rturn_lib : LibOK Try.prog [(fRT, turnC)] := LibOK.cons rturn_ok' (LibOK.nil _)
abbrev fRSum : Nat := 52
def rsumC : Con := bytesCon sumLim fun ps bs => match ps with | [] => some (.agg (hc (sumS bs))) | _ => none

def rpadI (a : Nat × List SC) : St := ⟨[(2, .c (.ptr 1 0)), (3, .c (.slc 2 0 1 a.1 none))], [(1, some ⟨zeroH, tH, false, true⟩), (2, some ⟨a.2, tB, true, true⟩)], 3, 73⟩
def rabsI (cs : List SC) (n : Nat) (a : Int × W5) : St := ⟨[(2, .c (.ptr 1 0)), (3, .c (.slc 2 0 1 n none)), (4, .c (.ptr 3 0)), (5, .c (.int a.1))], [(1, some ⟨zeroH, tH, false, true⟩), (2, some ⟨cs, tB, true, true⟩), (3, some ⟨cw a.2, tW5, false, true⟩)], 4, 73⟩
def rabsCut (m : Nat) : Cut := ⟨[(2, false), (3, false), (4, false), (5, true)], [(1, 1, true), (2, 2, true), (m, 3, true)], 4⟩

def ldI (i k : Int) : Nat := 0 + (IntKind.i64.wrap (i + k)).toNat * 1
def ldB (cs : List SC) (i k : Int) : UInt64 := (cs.getD (ldI i k) .nilp).asU8.toUInt64
def ldOk (n : Nat) (cs : List SC) (i k : Int) (acc : Bool) : Bool := bnd (bnd acc (decide (0 ≤ IntKind.i64.wrap (i + k)) && (Nat.blt (IntKind.i64.wrap (i + k)).toNat n && true))) (Nat.blt (ldI i k) cs.length && (cs.getD (ldI i k) .nilp).isU8)
def ldW (cs : List SC) (i : Int) : UInt64 :=
  shlW (shlW (shlW (shlW (shlW (shlW (shlW (shlW 0 8 ||| ldB cs i 0) 8 ||| ldB cs i 1) 8 ||| ldB cs i 2) 8 ||| ldB cs i 3) 8 ||| ldB cs i 4) 8 ||| ldB cs i 5) 8 ||| ldB cs i 6) 8 ||| ldB cs i 7
def ldWOk (n : Nat) (cs : List SC) (i : Int) (acc : Bool) : Bool := ldOk n cs i 7 (ldOk n cs i 6 (ldOk n cs i 5 (ldOk n cs i 4 (ldOk n cs i 3 (ldOk n cs i 2 (ldOk n cs i 1 (ldOk n cs i 0 acc)))))))

theorem ldI_eq {j k : Nat} (h : j + k < 2 ^ 62) : ldI (j : Int) (k : Int) = j + k ∧ IntKind.i64.wrap ((j : Int) + (k : Int)) = ((j + k : Nat) : Int) := by
  have hw : IntKind.i64.wrap ((j : Int) + (k : Int)) = ((j + k : Nat) : Int) := by rw [IntKind.wrap_i64]; omega
  refine ⟨?_, hw⟩
  unfold ldI
  rw [hw, Int.toNat_natCast]; omega
theorem getD_u8 {bs : List UInt8} {i : Nat} (h : i < bs.length) : (bs.map SC.u8).getD i .nilp = .u8 (bs.getD i 0) := by
  simp [List.getD, h]
theorem ld_eq {bs : List UInt8} {j k : Nat} (h : j + k < bs.length) (hb : bs.length < 2 ^ 62) : ldB (bs.map SC.u8) j k = (bs.getD (j + k) 0).toUInt64 := by
  unfold ldB
  rw [(ldI_eq (by omega)).1, getD_u8 h]; rfl
theorem ldOk_eq {bs : List UInt8} {j k : Nat} {acc : Bool} (ha : acc = true) (h : j + k < bs.length) (hb : bs.length < 2 ^ 62) : ldOk bs.length (bs.map SC.u8) j k acc = true := by
  unfold ldOk
  rw [(ldI_eq (by omega)).1, (ldI_eq (by omega)).2, getD_u8 h, ha]
  simp [bnd_true, Nat.blt_eq, SC.isU8]
  omega
theorem ldW_eq {bs : List UInt8} {j : Nat} (h : j + 8 ≤ bs.length) (hb : bs.length < 2 ^ 62) : ldW (bs.map SC.u8) j = wordS ((bs.drop j).take 8) := by
  have e : (bs.drop j).take 8 = [bs.getD (j + 0) 0, bs.getD (j + 1) 0, bs.getD (j + 2) 0, bs.getD (j + 3) 0, bs.getD (j + 4) 0, bs.getD (j + 5) 0, bs.getD (j + 6) 0, bs.getD (j + 7) 0] := by
    apply List.ext_getElem
    · simp; omega
    · intro i h1 h2
      simp at h2
      have : ∀ k, (hk : k < 8) → (bs.drop j).take 8 = (bs.drop j).take 8 := fun _ _ => rfl
      rcases i with _ | _ | _ | _ | _ | _ | _ | _ | i <;> first | (simp [List.getD]; rw [List.getElem?_eq_getElem (by omega)]; rfl) | omega
  rw [e]
  unfold ldW
  have l0 : ldB (bs.map SC.u8) j 0 = (bs.getD (j + 0) 0).toUInt64 := ld_eq (k := 0) (j := j) (by omega) hb
  have l1 : ldB (bs.map SC.u8) j 1 = (bs.getD (j + 1) 0).toUInt64 := ld_eq (k := 1) (j := j) (by omega) hb
  have l2 : ldB (bs.map SC.u8) j 2 = (bs.getD (j + 2) 0).toUInt64 := ld_eq (k := 2) (j := j) (by omega) hb
  have l3 : ldB (bs.map SC.u8) j 3 = (bs.getD (j + 3) 0).toUInt64 := ld_eq (k := 3) (j := j) (by omega) hb
  have l4 : ldB (bs.map SC.u8) j 4 = (bs.getD (j + 4) 0).toUInt64 := ld_eq (k := 4) (j := j) (by omega) hb
  have l5 : ldB (bs.map SC.u8) j 5 = (bs.getD (j + 5) 0).toUInt64 := ld_eq (k := 5) (j := j) (by omega) hb
  have l6 : ldB (bs.map SC.u8) j 6 = (bs.getD (j + 6) 0).toUInt64 := ld_eq (k := 6) (j := j) (by omega) hb
  have l7 : ldB (bs.map SC.u8) j 7 = (bs.getD (j + 7) 0).toUInt64 := ld_eq (k := 7) (j := j) (by omega) hb
  rw [l0, l1, l2, l3, l4, l5, l6, l7]
  rfl
theorem ldWOk_eq {bs : List UInt8} {j : Nat} {acc : Bool} (ha : acc = true) (h : j + 8 ≤ bs.length) (hb : bs.length < 2 ^ 62) : ldWOk bs.length (bs.map SC.u8) j acc = true :=
  ldOk_eq (k := 7) (ldOk_eq (k := 6) (ldOk_eq (k := 5) (ldOk_eq (k := 4) (ldOk_eq (k := 3) (ldOk_eq (k := 2) (ldOk_eq (k := 1) (ldOk_eq (k := 0) ha (by omega) hb) (by omega) hb) (by omega) hb) (by omega) hb) (by omega) hb) (by omega) hb) (by omega) hb) (by omega) hb

theorem rsum_fin (cs : List SC) (n : Nat) (w : World) (i : Int) (x : W5) {Post : SV → Prop} (hP : Post (.agg (hc (squeeze x)))) : SWs Try.prog (atW w 0) ((bodyOf Try.prog fRSum).drop 6) (rabsI cs n (i, x)) (FinQ Try.prog fRSum fun v _ => Post v) :=
  SWs.finv rturn_lib mixed (fuel := 1000) (n := 100) (told := []) (ob := true) (obs := []) (v := .agg (hc (squeeze x))) (by kernel_rfl) rfl trivial hP

theorem rsum_abs (bs : List UInt8) (w : World) (k0 : Nat) (h8 : bs.length = 8 * k0) (hb : bs.length < 2 ^ 61) (x0 : W5) {Post : SV → Prop} (hP : Post (.agg (hc (squeeze (absorb k0 bs x0))))) : SWs Try.prog (atW w 0) ((bodyOf Try.prog fRSum).drop 5) (rabsI (bs.map SC.u8) bs.length (0, x0)) (FinQ Try.prog fRSum fun v _ => Post v) := by
  refine SWs.loop (by kernel_rfl) (rabsI (bs.map SC.u8) bs.length) (fun a => (bs.length - a.1).toNat) (fun a => ∃ j k : Nat, a.1 = (8 * j : Nat) ∧ 8 * j + 8 * k = bs.length ∧ absorb k (bs.drop (8 * j)) a.2 = absorb k0 bs x0) (0, x0) ⟨0, k0, rfl, by omega, by simp⟩ ?_
  rintro ⟨i, x⟩ ⟨j, k, hi, ho, ha⟩
  simp only at hi ha
  subst hi
  have hpl := plainU8 bs
  by_cases hk : k = 0
  · subst hk
    refine SWs.out rturn_lib mixed (fuel := 1000) (n := 2) (told := [false]) (un := []) (c := rabsCut 3) (t := rabsI (bs.map SC.u8) bs.length ((8 * j : Nat), x)) (ob := bnd (bnd true (!decide (((8 * j : Nat) : Int) < bs.length))) ((bs.map SC.u8).all SC.plain && true)) (obs := []) (by kernel_rfl) (by simp only [hpl]; simp [bnd_true]; omega) trivial ?_
    refine rsum_fin _ _ w _ x ?_
    simp only [absorb] at ha
    rw [ha]; exact hP
  · refine SWs.round rturn_lib mixed (fuel := 1000) (n := 4) (told := [true]) (un := []) (c := rabsCut 3) (t := rabsI (bs.map SC.u8) bs.length (IntKind.i64.wrap ((8 * j : Nat) + 8), turn ⟨x.a ^^^ ldW (bs.map SC.u8) (8 * j : Nat), x.b, x.c, x.d, x.e⟩))
      (ob := bnd (ldWOk bs.length (bs.map SC.u8) (8 * j : Nat) (bnd true (decide (((8 * j : Nat) : Int) < bs.length)))) ((bs.map SC.u8).all SC.plain && true)) (obs := []) (by kernel_rfl) (by kernel_rfl) ?_ trivial ?_
    · rw [hpl, ldWOk_eq (by simp [bnd_true]; omega) (by omega) (by omega)]; rfl
    · have hw : IntKind.i64.wrap (((8 * j : Nat) : Int) + 8) = ((8 * (j + 1) : Nat) : Int) := by rw [IntKind.wrap_i64]; omega
      rw [ldW_eq (by omega) (by omega)]
      refine ⟨_, ⟨j + 1, k - 1, hw, by omega, ?_⟩, ?_, rfl⟩
      · rw [← ha]
        obtain ⟨m, rfl⟩ : ∃ m, k = m + 1 := ⟨k - 1, by omega⟩
        simp only [absorb, Nat.add_sub_cancel, List.drop_drop]
        congr 2
      · simp only [hw]; omega

theorem rsum_fn {bs : List UInt8} (w : World) {off : Nat} {b : Blk} (h : RowB off b bs) (hlim : bs.length ≤ sumLim) : Sx.Fn Try.prog fRSum (atW w 0) [.c (.slc 0 off 1 bs.length none)] [(0, some b)] 1 fun r _ => r = .agg (hc (sumS bs)) := by
  have hS : sumLim = 1099511627776 := rfl
  have hM : maxLen = 9223372036854775807 := rfl
  refine Sx.Fn.of (nt := 73) (by kernel_rfl) rfl ?_
  refine SWs.step rturn_lib mixed (fuel := 1000) (n := 2) (told := []) (un := []) (c := padCut 21) (t := rpadI (0 + bs.length + 1, ((b.cells.drop off).take (bs.length * 1)).take ((0 + bs.length) * 1) ++ [SC.u8 0x80]))
    (ob := bnd (bnd (bnd true ((Nat.ble (off + bs.length * 1) b.cells.length && true) && (Nat.ble (0 + bs.length) maxLen && (Nat.ble ((0 + bs.length) * 1) 140737488355328 && true)))) (Nat.ble (0 + bs.length + 1) maxLen && (Nat.ble ((0 + bs.length + 1) * 1) 140737488355328 && Nat.ble ((0 + bs.length) * 1) ((b.cells.drop off).take (bs.length * 1)).length))) ((((b.cells.drop off).take (bs.length * 1)).take ((0 + bs.length) * 1) ++ [SC.u8 0x80]).all SC.plain && true)) (obs := []) (by kernel_rfl) ?_ trivial ?_
  all_goals rw [row_take h, show (0 + bs.length) = bs.length by omega, own_take]
  · have := h.len
    simp only [List.all_append, plainU8, bnd_true, Bool.and_eq_true, Nat.ble_eq, List.length_map]
    refine ⟨⟨⟨trivial, ⟨by omega, trivial⟩, by omega, by omega, trivial⟩, by omega, by omega, by omega⟩, ⟨trivial, rfl⟩, trivial⟩
  refine SWs.loop (by kernel_rfl) rpadI (fun a => 1 + bs.length + 8 - a.1) (fun a => ∃ j, j ≤ padK bs.length ∧ a.1 = bs.length + 1 + j ∧ a.2 = (bs ++ 0x80 :: List.replicate j 0).map SC.u8) (bs.length + 1, bs.map SC.u8 ++ [.u8 0x80]) ⟨0, by omega, rfl, by simp⟩ ?_
  rintro ⟨l, cs⟩ ⟨j, hj, hl, hcs⟩
  simp only at hl hcs
  subst hcs
  have hpl := plainU8 (bs ++ 0x80 :: List.replicate j 0)
  have hlen : (bs ++ 0x80 :: List.replicate j 0).length = l := by simp; omega
  by_cases hk : j = padK bs.length
  · refine SWs.out rturn_lib mixed (fuel := 1000) (n := 2) (told := [false]) (un := []) (c := padCut 2) (t := rpadI (l, (bs ++ 0x80 :: List.replicate j 0).map SC.u8)) (ob := bnd (bnd true (!((l : Int).tmod 8 != 0))) (((bs ++ 0x80 :: List.replicate j 0).map SC.u8).all SC.plain && true)) (obs := []) (by kernel_rfl) ?_ trivial ?_
    · have : (l : Int).tmod 8 = 0 := by
        rw [Int.tmod_eq_emod_of_nonneg (by omega)]; simp only [padK] at hk; omega
      simp only [hpl]; simp [bnd_true, this]
    · refine SWs.step rturn_lib mixed (fuel := 1000) (n := 2) (told := []) (un := []) (c := rabsCut 11) (t := rabsI ((bs ++ 0x80 :: List.replicate j 0).map SC.u8) l (0, turn ⟨32, 0, 0, 0, 0⟩)) (ob := bnd true (((bs ++ 0x80 :: List.replicate j 0).map SC.u8).all SC.plain && true)) (obs := []) (by kernel_rfl) (by simp only [hpl]; rfl) trivial ?_
      have h8 : (bs ++ 0x80 :: List.replicate j 0).length = 8 * (l / 8) := by rw [hlen]; simp only [padK] at hk; omega
      rw [← hlen]
      refine rsum_abs _ w (l / 8) h8 (by rw [hlen]; simp only [padK] at hk; omega) _ ?_
      rw [← hlen]
      subst hk
      rfl
  · refine SWs.round rturn_lib mixed (fuel := 1000) (n := 3) (told := [true]) (un := []) (c := padCut 27) (t := rpadI (l + 1, ((bs ++ 0x80 :: List.replicate j 0).map SC.u8).take (l * 1) ++ [.u8 0]))
      (ob := bnd (bnd (bnd true ((l : Int).tmod 8 != 0)) (Nat.ble (l + 1) maxLen && (Nat.ble ((l + 1) * 1) 140737488355328 && Nat.ble (l * 1) ((bs ++ 0x80 :: List.replicate j 0).map SC.u8).length))) ((((bs ++ 0x80 :: List.replicate j 0).map SC.u8).take (l * 1) ++ [.u8 0]).all SC.plain && true)) (obs := []) (by kernel_rfl) (by kernel_rfl) ?_ trivial ?_
    · have h0 : ((l : Int).tmod 8 != 0) = true := by
        rw [Int.tmod_eq_emod_of_nonneg (by omega)]
        simp only [padK] at hk hj
        simp; omega
      have hp2 : (((bs ++ 0x80 :: List.replicate j 0).map SC.u8).take (l * 1) ++ [.u8 0]).all SC.plain = true := by
        rw [← List.map_take]; simp only [List.all_append, plainU8]; rfl
      simp only [h0, hp2]
      simp only [bnd_true, Bool.and_eq_true, Nat.ble_eq, List.length_map, and_true, true_and, hlen]
      simp only [padK] at hj
      omega
    · refine ⟨_, ⟨j + 1, by simp only [padK] at hj hk ⊢; omega, by simp only; omega, ?_⟩, ?_, rfl⟩
      · simp only
        have : l * 1 = ((bs ++ 0x80 :: List.replicate j 0).map SC.u8).length := by rw [List.length_map, hlen]; omega
        rw [this, List.take_length]
        simp [List.replicate_succ']
      · simp only; simp only [padK] at hj; omega

theorem rsum_ok : ConOK Try.prog fRSum rsumC := by
  refine bytesCon_ok (fn := Try.f52) (by kernel_rfl) rfl rfl fun ps bs v h => ?_
  split at h <;> try (cases h; done)
  simp only [Option.some.injEq] at h; subst h
  exact ⟨rfl, fun w off b hb hl => rsum_fn w hb hl⟩

end Go.Proofs.Ytkpdkfeklecehaa.Sp
