/-
  What a secret gives, byte by byte: the program's streamed.
-/
import Derived.Test.YtdjimjjemiaokaaSlA
import Derived.Test.YtdjimjjemiaokaaPrD
namespace Go.Proofs.Ytdjimjjemiaokaa.Sl
open Go.RowKit Go.Proofs.Ytdjimjjemiaokaa.Sx Go.Proofs.Ytdjimjjemiaokaa.Pw Go.Proofs.Ytdjimjjemiaokaa.Pr
open Go.Proofs.Ytdjimjjemiaokaa.Sp (rd rdB rd_eq rdB_eq rd_own rdB_own hc deriveS isU8s asU8s tB tH mixed own_take fDer derC der_ok derOk H4 fRDer rderC rder_ok)
set_option linter.unusedVariables false

def streamT : List UInt8 := [115, 116, 114, 101, 97, 109]
/-- The byte of a stream at a place. -/
def ks (K : Nat → H4) (i : Nat) : UInt8 := ((hc (K (i / 32))).getD (i % 32) .nilp).asU8
def xorTo (K : Nat → H4) (bs : List UInt8) (j : Nat) : List UInt8 := (List.range bs.length).map fun i => if i < j then bs.getD i 0 ^^^ ks K i else bs.getD i 0
theorem xorTo_len (K : Nat → H4) (bs : List UInt8) (j : Nat) : (xorTo K bs j).length = bs.length := by simp [xorTo]
theorem xorTo_get {K : Nat → H4} {bs : List UInt8} {j i : Nat} (hi : i < bs.length) : (xorTo K bs j).getD i 0 = if i < j then bs.getD i 0 ^^^ ks K i else bs.getD i 0 := by
  unfold xorTo
  simp [List.getD, hi]
theorem ext_getD {a b : List UInt8} (hl : a.length = b.length) (h : ∀ i, i < b.length → a.getD i 0 = b.getD i 0) : a = b := by
  apply List.ext_getElem hl
  intro i h1 h2
  have := h i h2
  simpa [List.getD, h1, h2] using this
theorem xorTo_0 (K : Nat → H4) (bs : List UInt8) : xorTo K bs 0 = bs := ext_getD (xorTo_len K bs 0) fun i hi => by rw [xorTo_get hi]; simp
theorem xorTo_end {K : Nat → H4} {bs : List UInt8} {j j' : Nat} (h : bs.length ≤ j) (h' : bs.length ≤ j') : xorTo K bs j = xorTo K bs j' := ext_getD (by rw [xorTo_len, xorTo_len]) fun i hi => by
  rw [xorTo_len] at hi
  rw [xorTo_get hi, xorTo_get hi, if_pos (by omega), if_pos (by omega)]
theorem xorTo_set {K : Nat → H4} {bs : List UInt8} {j : Nat} (hj : j < bs.length) : (xorTo K bs j).set j (bs.getD j 0 ^^^ ks K j) = xorTo K bs (j + 1) := ext_getD (by rw [List.length_set, xorTo_len, xorTo_len]) fun i hi => by
  rw [xorTo_len] at hi
  rw [xorTo_get hi]
  by_cases hij : j = i
  · subst hij
    rw [if_pos (by omega)]
    simp [List.getD, xorTo_len, hj]
  · have : ((xorTo K bs j).set j (bs.getD j 0 ^^^ ks K j)).getD i 0 = (xorTo K bs j).getD i 0 := by
      simp only [List.getD, List.getElem?_set_ne hij]
    rw [this, xorTo_get hi]
    by_cases h1 : i < j
    · rw [if_pos h1, if_pos (by omega)]
    · rw [if_neg h1, if_neg (by omega)]
/-- Bytes, xored with what a secret gives. -/
def stmK (hs : List UInt8) (q : Nat) : H4 := deriveS hs streamT (fourB (q : Int))
def streamS (hs bs : List UInt8) : List UInt8 := xorTo (stmK hs) bs bs.length
theorem streamS_len (hs bs : List UInt8) : (streamS hs bs).length = bs.length := xorTo_len _ _ _

abbrev fStm : Nat := 24
abbrev stL : List (Nat × Con) := [(fClone, cloneC), (fFour, fourC), (fDer, derC)]
theorem stL_ok : LibOK Try.prog stL := LibOK.cons clone_ok (LibOK.cons four_ok (LibOK.cons der_ok (LibOK.nil _)))
noncomputable abbrev stB : List Code := loopB ((bodyOf Try.prog fStm).drop 3)
def stCut (a b : Nat) : Cut := ⟨[(1,false),(2,false),(5,true)], [(a,0,true),(b,1,true)], 2⟩
def stCutJ (a : Nat) : Cut := ⟨[(1,false),(2,false),(5,true),(6,false),(32,true),(33,true)], [(0,0,true),(1,1,true),(a,2,true)], 3⟩
section
variable (n : Nat) (hcs cs : List SC) (i : Int)
def stI : St := ⟨[(1, .c (.slc 1 0 1 n none)), (2, .c (.ptr 0 0)), (5, .c (.int i))], [(0, some ⟨hcs, tH, false, true⟩), (1, some ⟨cs, tB, true, true⟩)], 2, 50⟩
def stJ (H : H4) (m k : Int) : St := ⟨[(1, .c (.slc 1 0 1 n none)), (2, .c (.ptr 0 0)), (5, .c (.int i)), (6, .c (.ptr 2 0)), (32, .c (.int m)), (33, .c (.int k))], [(0, some ⟨hcs, tH, false, true⟩), (1, some ⟨cs, tB, true, true⟩), (2, some ⟨hc H, tH, false, true⟩)], 3, 50⟩
def stE : St := ⟨[(1, .c (.slc 1 0 1 n none))], [(1, some ⟨cs, tB, true, true⟩)], 2, 50⟩
def stP : Bool := hcs.all SC.plain && (cs.all SC.plain && true)
def rdU (off n : Nat) (b : Blk) : List UInt8 := ((b.cells.drop off).take (n * 1)).map SC.asU8
theorem st_0 (off : Nat) (b : Blk) : stepL Try.prog stL 0 1000 3 (bodyOf Try.prog fStm) ⟨argTmps [.agg hcs, .c (.slc 0 off 1 n none)] 0, [(0, some b)], 1, 50⟩ [] [] (stCut 1 13) =
  some (bnd (bnd true (((Nat.ble (off + n * 1) b.cells.length && true) && (((b.cells.drop off).take (n * 1)).all SC.isU8 && Nat.ble n 1000000)) && true && (((rdU off n b).map SC.u8).all SC.sole && true))) (stP hcs ((rdU off n b).map SC.u8)), [], stI (rdU off n b).length hcs ((rdU off n b).map SC.u8) 0) := by kernel_rfl
theorem st_1 : stepL Try.prog stL 0 1000 2 stB (stI n hcs cs i) [true] [] (stCut 0 1) = some (bnd (ty_ true (decide (IntKind.i64.wrap (i * 32) < (n : Int)))) (stP hcs cs), [], stI n hcs cs i) := by kernel_rfl
theorem st_2 : exitL Try.prog stL 0 1000 2 stB (stI n hcs cs i) [false] [] ⟨[(1,false)], [(1,1,true)], 2⟩ = some (loopId ((bodyOf Try.prog fStm).drop 3), bnd (tn true (decide (IntKind.i64.wrap (i * 32) < (n : Int)))) (cs.all SC.plain && true), [], stE n cs) := by kernel_rfl
def hi_ (n : Nat) (i : Int) : Int := bif decide ((n : Int) < IntKind.i64.wrap (IntKind.i64.wrap (i + 1) * 32)) then (n : Int) else IntKind.i64.wrap (IntKind.i64.wrap (i + 1) * 32)
def lo_ (i : Int) : Int := IntKind.i64.wrap (i * 32)
def hs_ (hcs : List SC) : List SC := List.take 32 (List.drop 0 hcs)
theorem st_3 : stepL Try.prog stL 0 1000 2 (blockB (stB.drop 2)) (stI n hcs cs i) [] [] (stCutJ 22) =
  some (bnd (bnd (bnd (bnd true (Nat.ble 32 hcs.length)) ([SV.agg (hs_ hcs), SV.c (.str streamT)].all SV.sole && (derOk [SV.agg (hs_ hcs), SV.c (.str streamT)] && true))) (decide (0 ≤ lo_ i) && (decide (0 ≤ hi_ n i) && (Nat.ble (lo_ i).toNat (hi_ n i).toNat && (Nat.ble (hi_ n i).toNat n && true))))) (stP hcs cs), [],
    stJ n hcs cs i (deriveS ((hs_ hcs).map SC.asU8) streamT (fourB i)) (((hi_ n i).toNat - (lo_ i).toNat : Nat) : Int) 0) := by kernel_rfl
def at_ (i k : Int) : Int := IntKind.i64.wrap (lo_ i + k)
def putB (cs : List SC) (H : H4) (i k : Int) : List SC := cs.set (0 + (at_ i k).toNat * 1) (.u8 ((cs.getD (0 + (at_ i k).toNat * 1) .nilp).asU8 ^^^ ((hc H).getD (0 + k.toNat * 1) .nilp).asU8))
theorem st_4 (H : H4) (m k : Int) : stepL Try.prog stL 0 1000 9 (loopB ((blockB (stB.drop 2)).drop 2)) (stJ n hcs cs i H m k) [true] [] (stCutJ 2) =
  some (bnd (bnd (bnd (bnd (bnd (bnd (bnd (ty_ true (decide (k < m))) (decide (0 ≤ at_ i k) && (Nat.blt (at_ i k).toNat n && true))) (Nat.blt (0 + (at_ i k).toNat * 1) cs.length && (cs.getD (0 + (at_ i k).toNat * 1) .nilp).isU8))
    (decide (0 ≤ k) && Nat.blt k.toNat 32)) (Nat.blt (0 + k.toNat * 1) 32 && ((hc H).getD (0 + k.toNat * 1) .nilp).isU8)) (decide (0 ≤ at_ i k) && (Nat.blt (at_ i k).toNat n && true))) (Nat.ble (Nat.succ (0 + (at_ i k).toNat * 1)) cs.length)) (stP hcs (putB cs H i k)), [],
    stJ n hcs (putB cs H i k) i H m (IntKind.i64.wrap (k + 1))) := by kernel_rfl
theorem st_5 (H : H4) (m k : Int) : exitL Try.prog stL 0 1000 9 (loopB ((blockB (stB.drop 2)).drop 2)) (stJ n hcs cs i H m k) [false] [] (stCut 0 1) = some (loopId ((blockB (stB.drop 2)).drop 2), bnd (tn true (decide (k < m))) (stP hcs cs), [], stI n hcs cs i) := by kernel_rfl
theorem st_6 : stepL Try.prog stL 0 1000 9 (stB.drop 3) (stI n hcs cs i) [] [] (stCut 0 1) = some (bnd true (stP hcs cs), [], stI n hcs cs (IntKind.i64.wrap (i + 1))) := by kernel_rfl
end

theorem hc_get (H : H4) (k : Nat) (hk : k < 32) : ((hc H).getD k .nilp).isU8 = true := by
  revert k
  intro k hk
  have : ∀ k, k < 32 → ((hc H).getD k .nilp).isU8 = true := by
    intro k hk
    match k, hk with
    | 0, _ => rfl | 1, _ => rfl | 2, _ => rfl | 3, _ => rfl | 4, _ => rfl | 5, _ => rfl | 6, _ => rfl | 7, _ => rfl
    | 8, _ => rfl | 9, _ => rfl | 10, _ => rfl | 11, _ => rfl | 12, _ => rfl | 13, _ => rfl | 14, _ => rfl | 15, _ => rfl
    | 16, _ => rfl | 17, _ => rfl | 18, _ => rfl | 19, _ => rfl | 20, _ => rfl | 21, _ => rfl | 22, _ => rfl | 23, _ => rfl
    | 24, _ => rfl | 25, _ => rfl | 26, _ => rfl | 27, _ => rfl | 28, _ => rfl | 29, _ => rfl | 30, _ => rfl | 31, _ => rfl
    | k + 32, hk => omega
  exact this k hk
theorem u8_getD {bs : List UInt8} {i : Nat} (h : i < bs.length) : (bs.map SC.u8).getD i .nilp = .u8 (bs.getD i 0) := by
  simp [List.getD, h]
theorem hs_eq {hs : List UInt8} (h : hs.length = 32) : hs_ (hs.map SC.u8) = hs.map SC.u8 := by
  unfold hs_
  rw [List.drop_zero, List.take_of_length_le (by simp [h])]
theorem derOk_eq {hs s : List UInt8} (h : hs.length = 32) (hs' : s.length ≤ 1000) : ([SV.agg (hs.map SC.u8), SV.c (.str s)].all SV.sole && (derOk [SV.agg (hs.map SC.u8), SV.c (.str s)] && true)) = true := by
  have h1 : (hs.map SC.u8).all SC.sole = true := by rw [List.all_eq_true]; intro x hx; obtain ⟨_, _, rfl⟩ := List.mem_map.1 hx; rfl
  unfold derOk
  simp only [List.all_cons, List.all_nil, SV.sole, SC.sole, h1, List.length_map, h, isU8s, Bool.and_true, Bool.true_and, Nat.beq_refl, Nat.ble_eq]
  omega
theorem stm_fn {hs bs : List UInt8} (h32 : hs.length = 32) (hl : bs.length ≤ 1000000) {off : Nat} {b : Blk} (h : RowB off b bs) (w : World) : Sx.Fn Try.prog fStm (atW w 0) [.agg (hs.map SC.u8), .c (.slc 0 off 1 bs.length none)] [(0, some b)] 1 fun r T => (rowO (streamS hs bs)).is r T := by
  have hbl := h.len
  have e0 : rdU off bs.length b = bs := by
    unfold rdU
    rw [h.cells, Nat.mul_one, List.take_of_length_le (by simp), asU8s]
  have hP : ∀ l : List UInt8, stP (hs.map SC.u8) (l.map SC.u8) = true := fun l => by unfold stP; rw [plain_u8s, plain_u8s]; rfl
  refine Sx.Fn.of (nt := 50) (by kernel_rfl) rfl ?_
  refine SWs.stepL stL_ok mixed [] (st_0 bs.length (hs.map SC.u8) off b) ?_ trivial ?_
  · have hso : (bs.map SC.u8).all SC.sole = true := by rw [List.all_eq_true]; intro x hx; obtain ⟨_, _, rfl⟩ := List.mem_map.1 hx; rfl
    rw [e0, hP, hso, h.cells, ble_of (by omega), ble_of hl, Nat.mul_one, List.take_of_length_le (by simp), isU8s]; rfl
  rw [e0]
  refine SWs.loop (by kernel_rfl) (fun i : Nat => stI bs.length (hs.map SC.u8) ((xorTo (stmK hs) bs (32 * i)).map SC.u8) i) (fun i => bs.length + 1 - i) (fun i => 32 * i ≤ bs.length + 31) 0 (by omega) ?_ |> fun x => by rw [Nat.mul_zero, xorTo_0] at x; exact x
  intro i hi
  have hlo : lo_ (i : Int) = ((32 * i : Nat) : Int) := by unfold lo_; rw [wrap_id (by omega) (by omega)]; omega
  by_cases hlt : 32 * i < bs.length
  · refine SWs.stepL stL_ok mixed [true] (st_1 bs.length (hs.map SC.u8) _ i) (by rw [hP, ty_eq rfl (show decide (IntKind.i64.wrap ((i : Int) * 32) < (bs.length : Int)) = true by rw [decide_eq_true_eq]; have := hlo; unfold lo_ at this; rw [this]; omega)]; rfl) trivial ?_
    refine SWs.enter (by kernel_rfl) ?_
    have hhi : hi_ bs.length (i : Int) = ((min (32 * (i + 1)) bs.length : Nat) : Int) := by
      unfold hi_
      have e1 : IntKind.i64.wrap ((i : Int) + 1) = ((i + 1 : Nat) : Int) := by rw [wrap_id (by omega) (by omega)]; omega
      have e2 : IntKind.i64.wrap (((i + 1 : Nat) : Int) * 32) = ((32 * (i + 1) : Nat) : Int) := by rw [wrap_id (by omega) (by omega)]; omega
      rw [e1, e2]
      by_cases hc : (bs.length : Int) < ((32 * (i + 1) : Nat) : Int)
      · rw [decide_eq_true hc, cond_true, Nat.min_eq_right (by omega)]
      · rw [decide_eq_false hc, cond_false, Nat.min_eq_left (by omega)]
    refine SWs.stepL stL_ok mixed [] (st_3 bs.length (hs.map SC.u8) _ i) ?_ trivial ?_
    · rw [hs_eq h32, derOk_eq h32 (by decide), hP, hlo, hhi, List.length_map, h32, decide_eq_true (by omega), decide_eq_true (by omega), Int.toNat_natCast, Int.toNat_natCast, ble_of (by omega), ble_of (by omega), ble_of (Nat.min_le_right _ _)]; rfl
    rw [hs_eq h32, asU8s, hlo, hhi, Int.toNat_natCast, Int.toNat_natCast]
    show SWs Try.prog (atW w 0) _ (stJ bs.length (hs.map SC.u8) ((xorTo (stmK hs) bs (32 * i)).map SC.u8) i (stmK hs i) _ 0) _
    generalize hm : min (32 * (i + 1)) bs.length - 32 * i = m
    refine SWs.loop (by kernel_rfl) (fun k : Nat => stJ bs.length (hs.map SC.u8) ((xorTo (stmK hs) bs (32 * i + k)).map SC.u8) i (stmK hs i) m k) (fun k => m - k) (fun k => k ≤ m) 0 (by omega) ?_
    intro k hk
    by_cases hkl : k < m
    · have hat : at_ (i : Int) k = ((32 * i + k : Nat) : Int) := by unfold at_; rw [hlo, wrap_id (by omega) (by omega)]; omega
      have hlt2 : 32 * i + k < bs.length := by omega
      have hk32 : k < 32 := by omega
      have hput : putB ((xorTo (stmK hs) bs (32 * i + k)).map SC.u8) (stmK hs i) i k = (xorTo (stmK hs) bs (32 * i + (k + 1))).map SC.u8 := by
        unfold putB
        rw [hat, Int.toNat_natCast, Int.toNat_natCast, Nat.zero_add, Nat.mul_one, Nat.zero_add, Nat.mul_one, u8_getD (by rw [xorTo_len]; exact hlt2)]
        rw [show 32 * i + (k + 1) = (32 * i + k) + 1 by omega, ← xorTo_set hlt2, xorTo_get hlt2, if_neg (by omega), ← List.map_set]
        congr 2
        show bs.getD (32 * i + k) 0 ^^^ _ = bs.getD (32 * i + k) 0 ^^^ ks (stmK hs) (32 * i + k)
        congr 1
        unfold ks
        rw [show (32 * i + k) / 32 = i by omega, show (32 * i + k) % 32 = k by omega]
      have hw : IntKind.i64.wrap ((k : Int) + 1) = ((k + 1 : Nat) : Int) := by rw [wrap_id (by omega) (by omega)]; omega
      refine SWs.roundL stL_ok mixed [true] (st_4 bs.length (hs.map SC.u8) _ i (stmK hs i) m k) rfl ?_ trivial ⟨k + 1, by omega, by omega, by rw [hput, hw]⟩
      rw [hput, hP, hat, ty_eq rfl (show decide ((k : Int) < (m : Int)) = true by rw [decide_eq_true_eq]; omega), decide_eq_true (by omega), decide_eq_true (by omega), Int.toNat_natCast, Int.toNat_natCast,
        show Nat.blt (32 * i + k) bs.length = true by rw [Nat.blt_eq]; exact hlt2, show Nat.blt k 32 = true by rw [Nat.blt_eq]; exact hk32, Nat.zero_add, Nat.mul_one, Nat.zero_add, Nat.mul_one, List.length_map, xorTo_len,
        u8_getD (by rw [xorTo_len]; exact hlt2), hc_get _ _ hk32, ble_of (show Nat.succ (32 * i + k) ≤ bs.length by omega), show Nat.blt (32 * i + k) bs.length = true by rw [Nat.blt_eq]; exact hlt2, show Nat.blt k 32 = true by rw [Nat.blt_eq]; exact hk32]
      rfl
    · obtain rfl : k = m := by omega
      refine SWs.outL stL_ok mixed [false] (st_5 bs.length (hs.map SC.u8) _ i (stmK hs i) k k) (by rw [hP, tn_eq rfl (by simp)]; rfl) trivial ?_
      refine ⟨_, Weak.refl _ _, ?_⟩
      refine SWs.roundL stL_ok mixed [] (st_6 bs.length (hs.map SC.u8) _ i) rfl (by rw [hP]; rfl) trivial ⟨i + 1, by omega, by omega, ?_⟩
      have hw : IntKind.i64.wrap ((i : Int) + 1) = ((i + 1 : Nat) : Int) := by rw [wrap_id (by omega) (by omega)]; omega
      rw [hw]
      congr 2
      by_cases hc : 32 * (i + 1) ≤ bs.length
      · rw [show 32 * i + k = 32 * (i + 1) by omega]
      · exact xorTo_end (by omega) (by omega)
  · refine SWs.outL stL_ok mixed [false] (st_2 bs.length (hs.map SC.u8) _ i) (by rw [plain_u8s, tn_eq rfl (show decide (IntKind.i64.wrap ((i : Int) * 32) < (bs.length : Int)) = false by rw [decide_eq_false_iff_not]; have := hlo; unfold lo_ at this; rw [this]; omega)]; rfl) trivial ?_
    rw [xorTo_end (show bs.length ≤ 32 * i by omega) (Nat.le_refl _)]
    refine SWs.finL stL_ok mixed (fuel := 1000) (n := 100) [] (ob := true) (obs := []) (v := .c (.slc 1 0 1 bs.length none)) (T := [(1, some ⟨(streamS hs bs).map SC.u8, tB, true, true⟩)]) (by kernel_rfl) rfl trivial (.inl ⟨1, ?_, rfl⟩)
    unfold rowO
    simp only [streamS_len]
    rfl

end Go.Proofs.Ytdjimjjemiaokaa.Sl
