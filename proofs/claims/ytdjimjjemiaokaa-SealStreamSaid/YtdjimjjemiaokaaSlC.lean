/-
  The document's mix; both tags; numbers of four bytes.
-/
import Derived.Test.YtdjimjjemiaokaaSlB
namespace Go.Proofs.Ytdjimjjemiaokaa.Sl
open Go.RowKit Go.Proofs.Ytdjimjjemiaokaa.Sx Go.Proofs.Ytdjimjjemiaokaa.Pw Go.Proofs.Ytdjimjjemiaokaa.Pr
open Go.Proofs.Ytdjimjjemiaokaa.Sp (rd rdB rd_eq rdB_eq rd_own rdB_own hc deriveS isU8s asU8s tB tH mixed own_take fDer derC der_ok derOk H4 fRDer rderC rder_ok fJoin joinC join_ok)
set_option linter.unusedVariables false

/-! The document's stream. -/
abbrev fMix : Nat := 28
abbrev mxL : List (Nat × Con) := [(frFour, fourC), (fRDer, rderC)]
theorem mxL_ok : LibOK Try.prog mxL := LibOK.cons rfour_ok (LibOK.cons rder_ok (LibOK.nil _))
noncomputable abbrev mxB : List Code := loopB ((bodyOf Try.prog fMix).drop 4)
def mxCut (o a h : Nat) : Cut := ⟨[(1,false),(2,false),(5,false),(6,false),(7,true)], [(0,0,true),(a,1,true),(o,2,true),(h,3,true)], 4⟩
section
variable (off n : Nat) (b : Blk) (hcs : List SC) (l : Nat) (cs : List SC) (H : H4) (i : Int)
def mxI : St := ⟨[(1, .c (.slc 0 off 1 n none)), (2, .c (.ptr 1 0)), (5, .c (.slc 2 0 1 l none)), (6, .c (.ptr 3 0)), (7, .c (.int i))], [(0, some b), (1, some ⟨hcs, tH, false, true⟩), (2, some ⟨cs, tB, true, true⟩), (3, some ⟨hc H, tH, false, true⟩)], 4, 36⟩
def mxE : St := ⟨[(5, .c (.slc 2 0 1 l none))], [(2, some ⟨cs, tB, true, true⟩)], 4, 36⟩
def mxP : Bool := b.cells.all SC.plain && (hcs.all SC.plain && (cs.all SC.plain && true))
def mxU (off : Nat) (b : Blk) (H : H4) (i : Int) : UInt8 := ldU off b i ^^^ ((hc H).getD (0 + (i.tmod 32).toNat * 1) .nilp).asU8
def mxN (cs : List SC) : List SC := cs.take (l * 1) ++ [.u8 (mxU off b H i)]
def mxO (H : H4) (acc : Bool) : Bool := bnd (bnd (bnd (ldOk off n b i acc) (decide (0 ≤ i.tmod 32) && Nat.blt (i.tmod 32).toNat 32)) (Nat.blt (0 + (i.tmod 32).toNat * 1) 32 && ((hc H).getD (0 + (i.tmod 32).toNat * 1) .nilp).isU8)) (Nat.ble (l + 1) 9223372036854775807 && (Nat.ble ((l + 1) * 1) 140737488355328 && Nat.ble (l * 1) cs.length))
theorem mx_0 : stepL Try.prog mxL 0 1000 4 (bodyOf Try.prog fMix) ⟨argTmps [.agg hcs, .c (.slc 0 off 1 n none)] 0, [(0, some b)], 1, 36⟩ [] [(5, 1, tB)] (mxCut 29 1 17) = some (bnd true (b.cells.all SC.plain && (hcs.all SC.plain && true)), [], mxI off n b hcs 0 [] ⟨0, 0, 0, 0⟩ 0) := by kernel_rfl
theorem mx_1 : stepL Try.prog mxL 0 1000 9 mxB (mxI off n b hcs l cs H i) [true, false] [] (mxCut 76 1 3) =
  some (bnd (mxO off n b l cs i H (tn (ty_ true (decide (i < (n : Int)))) (i.tmod 32 == 0))) (mxP b hcs (mxN off b l H i cs)), [], mxI off n b hcs (l + 1) (mxN off b l H i cs) H (IntKind.i64.wrap (i + 1))) := by kernel_rfl
def mxH : H4 := deriveS ((hs_ hcs).map SC.asU8) streamT (fourB (IntKind.i64.wrap (i.tdiv 32)))
theorem mx_2 : stepL Try.prog mxL 0 1000 9 mxB (mxI off n b hcs l cs H i) [true, true] [] (mxCut 100 1 3) =
  some (bnd (mxO off n b l cs i (mxH hcs i) (bnd (bnd (ty_ (ty_ true (decide (i < (n : Int)))) (i.tmod 32 == 0)) (Nat.ble 32 hcs.length)) ([SV.agg (hs_ hcs), SV.c (.str streamT)].all SV.sole && (derOk [SV.agg (hs_ hcs), SV.c (.str streamT)] && true)))) (mxP b hcs (mxN off b l (mxH hcs i) i cs)), [],
    mxI off n b hcs (l + 1) (mxN off b l (mxH hcs i) i cs) (mxH hcs i) (IntKind.i64.wrap (i + 1))) := by kernel_rfl
theorem mx_3 : exitL Try.prog mxL 0 1000 9 mxB (mxI off n b hcs l cs H i) [false] [] ⟨[(5,false)], [(2,2,true)], 4⟩ = some (loopId ((bodyOf Try.prog fMix).drop 4), bnd (tn true (decide (i < (n : Int)))) (cs.all SC.plain && true), [], mxE l cs) := by kernel_rfl
end
theorem take_succ_getD {l : List UInt8} {i : Nat} (h : i < l.length) : l.take (i + 1) = l.take i ++ [l.getD i 0] := by
  rw [List.take_succ_eq_append_getElem h]
  simp [List.getD, h]
theorem mix_fn {hs bs : List UInt8} (h32 : hs.length = 32) (hl : bs.length ≤ 1000000) {off : Nat} {b : Blk} (h : RowB off b bs) (w : World) : Sx.Fn Try.prog fMix (atW w 0) [.agg (hs.map SC.u8), .c (.slc 0 off 1 bs.length none)] [(0, some b)] 1 fun r T => (rowO (streamS hs bs)).is r T := by
  have hP : ∀ l : List UInt8, mxP b (hs.map SC.u8) (l.map SC.u8) = true := fun l => by unfold mxP; rw [plain_u8s, plain_u8s, h.plain]; rfl
  have hsl := streamS_len hs bs
  refine Sx.Fn.of (nt := 36) (by kernel_rfl) rfl ?_
  refine SWs.stepL mxL_ok mixed [] (mx_0 off bs.length b (hs.map SC.u8)) (by rw [h.plain, plain_u8s]; rfl) trivial ?_
  refine SWs.loop (by kernel_rfl) (fun q : Nat × H4 => mxI off bs.length b (hs.map SC.u8) q.1 (((streamS hs bs).take q.1).map SC.u8) q.2 q.1) (fun q => bs.length - q.1) (fun q => q.1 ≤ bs.length ∧ (q.1 % 32 ≠ 0 → q.2 = stmK hs (q.1 / 32))) (0, ⟨0, 0, 0, 0⟩) ⟨by simp, fun e => absurd rfl e⟩ ?_
  rintro ⟨i, H⟩ ⟨hi, hH⟩
  simp only at hi hH
  by_cases hlt : i < bs.length
  · have hmod : (i : Int).tmod 32 = ((i % 32 : Nat) : Int) := rfl
    have hdiv : IntKind.i64.wrap ((i : Int).tdiv 32) = ((i / 32 : Nat) : Int) := by
      have : (i : Int).tdiv 32 = ((i / 32 : Nat) : Int) := rfl
      rw [this, wrap_id (by omega) (by omega)]
    have hw : IntKind.i64.wrap ((i : Int) + 1) = ((i + 1 : Nat) : Int) := by rw [wrap_id (by omega) (by omega)]; omega
    have hr : i % 32 < 32 := Nat.mod_lt _ (by decide)
    have hO : ∀ (H : H4) (acc : Bool), acc = true → mxO off bs.length b i (((streamS hs bs).take i).map SC.u8) i H acc = true := fun H acc ha => by
      unfold mxO
      rw [ldOk_eq h hlt ha, hmod, Int.toNat_natCast, Nat.zero_add, Nat.mul_one, hc_get H _ hr, show Nat.blt (i % 32) 32 = true by rw [Nat.blt_eq]; exact hr, decide_eq_true (by omega), ble_of (by omega), ble_of (by omega), ble_of (by simp; omega)]; rfl
    have hN : mxN off b i (stmK hs (i / 32)) i (((streamS hs bs).take i).map SC.u8) = ((streamS hs bs).take (i + 1)).map SC.u8 := by
      unfold mxN mxU
      rw [ldU_eq h hlt, hmod, Int.toNat_natCast, Nat.zero_add, Nat.mul_one, Nat.mul_one, List.take_of_length_le (by simp; omega), take_succ_getD (by omega), List.map_append]
      congr 1
      unfold streamS
      rw [xorTo_get hlt, if_pos hlt]; rfl
    by_cases hm : i % 32 = 0
    · have hmH : mxH (hs.map SC.u8) i = stmK hs (i / 32) := by
        unfold mxH
        rw [hs_eq h32, asU8s, hdiv]; rfl
      refine SWs.roundL mxL_ok mixed [true, true] (mx_2 off bs.length b (hs.map SC.u8) i (((streamS hs bs).take i).map SC.u8) H i) rfl ?_ trivial ⟨(i + 1, stmK hs (i / 32)), ⟨by simp; omega, fun _ => ?_⟩, by simp; omega, ?_⟩
      · rw [hmH, hN, hP, hO _ _ ?_]; rfl
        rw [hs_eq h32, derOk_eq h32 (by decide), List.length_map, h32, ty_eq (ty_eq rfl (by rw [decide_eq_true_eq]; omega)) (by rw [hmod, hm]; rfl)]; rfl
      · simp only; rw [show (i + 1) / 32 = i / 32 by omega]
      · rw [hmH, hN, hw]
    · obtain rfl := hH hm
      refine SWs.roundL mxL_ok mixed [true, false] (mx_1 off bs.length b (hs.map SC.u8) i (((streamS hs bs).take i).map SC.u8) (stmK hs (i / 32)) i) rfl ?_ trivial ⟨(i + 1, stmK hs (i / 32)), ⟨by simp; omega, fun hne => ?_⟩, by simp; omega, ?_⟩
      · rw [hN, hP, hO _ _ (tn_eq (ty_eq rfl (by rw [decide_eq_true_eq]; omega)) (by rw [hmod, beq_eq_false_iff_ne]; omega))]; rfl
      · simp only at hne ⊢; rw [show (i + 1) / 32 = i / 32 by omega]
      · rw [hN, hw]
  · obtain rfl : i = bs.length := by omega
    refine SWs.outL mxL_ok mixed [false] (mx_3 off bs.length b (hs.map SC.u8) bs.length _ H bs.length) (by rw [plain_u8s, tn_eq rfl (by simp)]; rfl) trivial ?_
    rw [List.take_of_length_le (by omega)]
    refine SWs.finL mxL_ok mixed (fuel := 1000) (n := 100) [] (ob := true) (obs := []) (v := .c (.slc 2 0 1 bs.length none)) (T := [(2, some ⟨(streamS hs bs).map SC.u8, tB, true, true⟩)]) (by kernel_rfl) rfl trivial (.inl ⟨2, ?_, rfl⟩)
    unfold rowO
    simp only [streamS_len]
    rfl
def is32 (cs : List SC) : Bool := Nat.beq cs.length 32 && cs.all SC.isU8
theorem is32_of {hs : List UInt8} (h : hs.length = 32) : is32 (hs.map SC.u8) = true := by unfold is32; rw [isU8s, List.length_map, h]; rfl
theorem is32_back {cs : List SC} (h : is32 cs = true) : (cs.map SC.asU8).length = 32 ∧ (cs.map SC.asU8).map SC.u8 = cs := by
  simp only [is32, Bool.and_eq_true] at h
  exact ⟨by rw [List.length_map]; exact Nat.eq_of_beq_eq_true h.1, Sp.u8s_back h.2⟩
def stmC : Con := gNew [false, true] 1000000 fun ps rs => match ps, rs with | [.agg cs], [bs] => some (is32 cs, rowO (streamS (cs.map SC.asU8) bs)) | _, _ => none
theorem stm_ok : ConOK Try.prog fStm stmC := by
  refine gNew_ok (fn := Try.f24) (by kernel_rfl) rfl rfl fun ps rs o h hs hl w rb hrb => ?_
  split at h <;> try (cases h; done)
  rename_i cs bs
  simp only [Option.some.injEq, Prod.mk.injEq] at h
  obtain ⟨h32, rfl⟩ := h
  obtain ⟨g1, g2⟩ := is32_back h32
  cases hrb with
  | @cons r1 _ _ _ h1 hrb =>
  cases hrb
  obtain ⟨o1, n1, b1⟩ := r1
  obtain ⟨e1, h1⟩ := h1
  simp only at e1 h1
  subst e1
  have := stm_fn g1 (hl bs (by simp)) h1 w
  rw [g2] at this
  exact this
theorem mix_ok : ConOK Try.prog fMix stmC := by
  refine gNew_ok (fn := Try.f28) (by kernel_rfl) rfl rfl fun ps rs o h hs hl w rb hrb => ?_
  split at h <;> try (cases h; done)
  rename_i cs bs
  simp only [Option.some.injEq, Prod.mk.injEq] at h
  obtain ⟨h32, rfl⟩ := h
  obtain ⟨g1, g2⟩ := is32_back h32
  cases hrb with
  | @cons r1 _ _ _ h1 hrb =>
  cases hrb
  obtain ⟨o1, n1, b1⟩ := r1
  obtain ⟨e1, h1⟩ := h1
  simp only at e1 h1
  subst e1
  have := mix_fn g1 (hl bs (by simp)) h1 w
  rw [g2] at this
  exact this

end Go.Proofs.Ytdjimjjemiaokaa.Sl
