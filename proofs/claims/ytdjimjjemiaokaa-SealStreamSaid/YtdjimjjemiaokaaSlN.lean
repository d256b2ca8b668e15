/-
  The law of streams: of two texts of one length the boxes' bodies differ just where they do.
-/
import Derived.Test.YtdjimjjemiaokaaSlM
namespace Go.Proofs.Ytdjimjjemiaokaa.Sl
open Go.RowKit Go.Proofs.Ytdjimjjemiaokaa.Sx Go.Proofs.Ytdjimjjemiaokaa.Pw Go.Proofs.Ytdjimjjemiaokaa.Pr
open Go.Proofs.Ytdjimjjemiaokaa.Sp (hc hb deriveS isU8s asU8s tB tH mixed H4)
set_option linter.unusedVariables false

abbrev fStream : Nat := 11
section
variable (S : List SC → Int) (W : Int → Int → Int) (F : FT) (O : OT) (kc dc : List SC) (o1 n1 o2 n2 : Nat) (b1 b2 : Blk) (l1 l2 : List UInt8) (N i : Int)
def smN : Int := bif decide ((n2 : Int) < (n1 : Int)) then (n2 : Int) else (n1 : Int)
def strA : List SV := [.agg kc, .agg dc, .c (.slc 0 o1 1 n1 none), .c (.slc 1 o2 1 n2 none)]
theorem sr_1 : (xfunL Try.prog (cL S W F O) 1000 fStream (strA kc dc o1 n1 o2 n2) [(0, some b1), (1, some b2)] 2 [true]).map (fun q => (q.1, q.2.1, q.2.2.1)) = some (ty_ true (decide (smN n1 n2 > 200)), [], .c (.bool true)) := by kernel_rfl
def srI : St := ⟨[(2, .c (.slc 0 o1 1 n1 none)), (3, .c (.slc 1 o2 1 n2 none)), (9, .c (.int N)), (11, .c (.slc 2 0 1 l1.length none)), (13, .c (.slc 3 0 1 l2.length none)), (15, .c (.int i))], [(0, some b1), (1, some b2), (2, some ⟨l1.map SC.u8, tB, true, true⟩), (3, some ⟨l2.map SC.u8, tB, true, true⟩)], 4, 91⟩
def srCut (j k : Nat) : Cut := ⟨[(2,false),(3,false),(9,true),(11,false),(13,false),(15,true)], [(0,0,true),(1,1,true),(j,2,true),(k,3,true)], 4⟩
def preU (o : Nat) (b : Blk) (N : Int) : List UInt8 := rdU (o + 0 * 1) (N.toNat - 0) b
def srQ (o : Nat) (b : Blk) (N : Int) : List UInt8 × Int := bkQ S W F kc dc (preU o b N)
def srS (acc : Bool) (N : Int) (n o : Nat) (b : Blk) (q : List UInt8 × Int) (dc : List SC) : Bool := bnd (bnd (bnd acc (Nat.ble 32 dc.length)) (decide (0 ≤ N) && (Nat.ble N.toNat n && true))) (seA dc (rowL (o + 0 * 1) (N.toNat - 0) b) q)
def srP : Bool := b1.cells.all SC.plain && (b2.cells.all SC.plain && ((l1.map SC.u8).all SC.plain && ((l2.map SC.u8).all SC.plain && true)))
def sr2 : Bool := srS (srS (rfO (tn true (decide (smN n1 n2 > 200))) kc) (smN n1 n2) n1 o1 b1 (srQ S W F kc dc o1 b1 (smN n1 n2)) dc) (smN n1 n2) n2 o2 b2 (srQ S W F kc dc o2 b2 (smN n1 n2)) dc
def sr3 : Bool := tn (tg (tg (tg (sr2 S W F kc dc o1 n1 o2 n2 b1 b2) ((srQ S W F kc dc o1 b1 (smN n1 n2)).2 != 0) false) ((srQ S W F kc dc o2 b2 (smN n1 n2)).2 != 0) false) (((srQ S W F kc dc o1 b1 (smN n1 n2)).1.length : Int) != IntKind.i64.wrap (12 + smN n1 n2)) false) (((srQ S W F kc dc o2 b2 (smN n1 n2)).1.length : Int) != IntKind.i64.wrap (12 + smN n1 n2))
theorem sr_s : stepL Try.prog (cL S W F O) 0 1000 10 (bodyOf Try.prog fStream) ⟨argTmps (strA kc dc o1 n1 o2 n2) 0, [(0, some b1), (1, some b2)], 2, 91⟩ [false, false, false, false, false] [] (srCut 82 126) =
  some (bnd (sr3 S W F kc dc o1 n1 o2 n2 b1 b2) (srP b1 b2 (srQ S W F kc dc o1 b1 (smN n1 n2)).1 (srQ S W F kc dc o2 b2 (smN n1 n2)).1), [], srI o1 n1 o2 n2 b1 b2 (srQ S W F kc dc o1 b1 (smN n1 n2)).1 (srQ S W F kc dc o2 b2 (smN n1 n2)).1 (smN n1 n2) 0) := by kernel_rfl
def at12 (i : Int) : Int := IntKind.i64.wrap (12 + i)
def okA (l : List UInt8) (i : Int) (acc : Bool) : Bool := bnd (bnd acc (decide (0 ≤ at12 i) && (Nat.blt (at12 i).toNat l.length && true))) (Nat.blt (0 + (at12 i).toNat * 1) (l.map SC.u8).length && ((l.map SC.u8).getD (0 + (at12 i).toNat * 1) .nilp).isU8)
def ldA (l : List UInt8) (i : Int) : UInt8 := ((l.map SC.u8).getD (0 + (at12 i).toNat * 1) .nilp).asU8
def srOb : Bool := ldOk o2 n2 b2 i (ldOk o1 n1 b1 i (okA l2 i (okA l1 i (ty_ true (decide (i < N))))))
theorem sr_r : stepL Try.prog (cL S W F O) 0 1000 9 (loopB ((bodyOf Try.prog fStream).drop 10)) (srI o1 n1 o2 n2 b1 b2 l1 l2 N i) [true, false] [] (srCut 2 3) =
  some (bnd (tn (srOb o1 n1 o2 n2 b1 b2 l1 l2 N i) ((ldA l1 i ^^^ ldA l2 i) != (ldU o1 b1 i ^^^ ldU o2 b2 i))) (srP b1 b2 l1 l2), [], srI o1 n1 o2 n2 b1 b2 l1 l2 N (IntKind.i64.wrap (i + 1))) := by kernel_rfl
theorem sr_e : exitL Try.prog (cL S W F O) 0 1000 9 (loopB ((bodyOf Try.prog fStream).drop 10)) (srI o1 n1 o2 n2 b1 b2 l1 l2 N i) [false] [] ⟨[], [], 4⟩ = some (loopId ((bodyOf Try.prog fStream).drop 10), tn true (decide (i < N)), [], ⟨[], [], 4, 91⟩) := by kernel_rfl
theorem sr_f : (finL Try.prog (cL S W F O) fStream 1000 100 ((bodyOf Try.prog fStream).drop 11) ⟨[], [], 4, 91⟩ []).map (fun q => (q.1, q.2.1, q.2.2.1)) = some (true, [], .c (.bool true)) := by kernel_rfl
end
theorem xor_two (a b k : UInt8) : (a ^^^ k) ^^^ (b ^^^ k) = a ^^^ b := by
  rw [UInt8.xor_assoc, UInt8.xor_comm b k, ← UInt8.xor_assoc k k b, UInt8.xor_self, UInt8.zero_xor]
theorem okA_eq {l : List UInt8} {i : Nat} {acc : Bool} (ha : acc = true) (h : 12 + i < l.length) (hl : l.length ≤ 1000000) : okA l i acc = true ∧ ldA l i = l.getD (12 + i) 0 := by
  have hw : at12 (i : Int) = ((12 + i : Nat) : Int) := by unfold at12; rw [wrap_id (by omega) (by omega)]; omega
  have hb : Nat.blt (12 + i) l.length = true := by rw [Nat.blt_eq]; exact h
  refine ⟨?_, ?_⟩
  · unfold okA
    rw [hw, Int.toNat_natCast, Nat.zero_add, Nat.mul_one, hb, u8_getD h, List.length_map, hb, ha, decide_eq_true (by omega)]; rfl
  · unfold ldA
    rw [hw, Int.toNat_natCast, Nat.zero_add, Nat.mul_one, u8_getD h]; rfl
theorem box_get {x pub : Int} {bs : List UInt8} {i : Nat} (hi : i < bs.length) : (boxS x pub bs).getD (12 + i) 0 = bs.getD i 0 ^^^ ks (stmK (hl (shI x pub))) i := by
  have h2 := (box_parts x pub bs).2.1
  have e : (boxS x pub bs).getD (12 + i) 0 = ((boxS x pub bs).drop 12).getD i 0 := by simp [List.getD]
  rw [e, h2]
  unfold bodyS streamS
  rw [xorTo_get hi, if_pos hi]
theorem getD_take {l : List UInt8} {m i : Nat} (h : i < m) : (l.take m).getD i 0 = l.getD i 0 := by
  simp [List.getD, h]
theorem stream_gen {S : List SC → Int} {W : Int → Int → Int} {F : FT} {O : OT} (hS : S = scalS) (hW : W = powS) (hF : F = sealF) (hO : O = openF) {ks ds ps qs : List UInt8} (hk : ks.length = 32) (hd : ds.length = 32) {o1 o2 : Nat} {b1 b2 : Blk} (h1 : RowB o1 b1 ps) (h2 : RowB o2 b2 qs) (w : World) :
    Sx.Fn Try.prog fStream (atW w 0) [.agg (ks.map SC.u8), .agg (ds.map SC.u8), .c (.slc 0 o1 1 ps.length none), .c (.slc 1 o2 1 qs.length none)] [(0, some b1), (1, some b2)] 2 fun r _ => r = .c (.bool true) := by
  have hC := cL_ok hS hW hF hO
  have hN : smN ps.length qs.length = ((min ps.length qs.length : Nat) : Int) := by
    unfold smN
    by_cases hc : (qs.length : Int) < (ps.length : Int)
    · rw [decide_eq_true hc, cond_true, Nat.min_eq_right (by omega)]
    · rw [decide_eq_false hc, cond_false, Nat.min_eq_left (by omega)]
  cases hb : decide (smN ps.length qs.length > 200) with
  | true => exact Fn.xvL hC mixed [true] (sr_1 S W F O (ks.map SC.u8) (ds.map SC.u8) o1 ps.length o2 qs.length b1 b2) (ty_eq rfl hb) trivial rfl
  | false =>
  have hm : min ps.length qs.length ≤ 200 := by rw [hN, decide_eq_false_iff_not] at hb; omega
  have hm1 := Nat.min_le_left ps.length qs.length
  have hm2 := Nat.min_le_right ps.length qs.length
  obtain ⟨X, hX, hX0, hXQ⟩ := scal_nat (ks.map SC.u8)
  have hs1 := sr_s S W F O (ks.map SC.u8) (ds.map SC.u8) o1 ps.length o2 qs.length b1 b2
  have hsr3 : sr3 S W F (ks.map SC.u8) (ds.map SC.u8) o1 ps.length o2 qs.length b1 b2 = sr3 S W F (ks.map SC.u8) (ds.map SC.u8) o1 ps.length o2 qs.length b1 b2 := rfl
  rw [hN] at hb hs1
  unfold sr3 sr2 at hs1
  rw [hN] at hs1
  generalize min ps.length qs.length = m at hm hm1 hm2 hb hs1
  have pre : ∀ {o : Nat} {b : Blk} {l : List UInt8}, RowB o b l → m ≤ l.length → preU o b (m : Int) = l.take m ∧ rowL (o + 0 * 1) ((m : Int).toNat - 0) b = true := fun {o b l} h hl => by
    obtain ⟨g1, g2, _⟩ := rowX_eq h (i := 0) (k := m) (by omega) (by omega)
    refine ⟨?_, ?_⟩
    · unfold preU
      rw [Int.toNat_natCast, Nat.sub_zero, Nat.zero_mul, g2, List.drop_zero]
    · rw [Int.toNat_natCast, Nat.sub_zero, Nat.zero_mul]
      exact g1
  have q : ∀ {o : Nat} {b : Blk} {l : List UInt8}, RowB o b l → m ≤ l.length → srQ S W F (ks.map SC.u8) (ds.map SC.u8) o b (m : Int) = (boxS (scalS (ds.map SC.u8)) (powS 4 (X : Int)) (l.take m), 0) := fun {o b l} h hl => by
    unfold srQ bkQ
    rw [(pre h hl).1, hs_eq hk, hs_eq hd, hS, hW, hF, hX, seal_to hX0 hXQ _ (by rw [List.length_take]; omega)]
  have sO : ∀ {o : Nat} {b : Blk} {l : List UInt8} {acc : Bool}, RowB o b l → m ≤ l.length → acc = true → ∀ r, srS acc (m : Int) l.length o b r (ds.map SC.u8) = true := fun {o b l acc} h hl ha r => by
    unfold srS seA
    rw [(pre h hl).2, hs_eq hd, h32_hs hd, rok_eq, sole_u8s, ha, List.length_map, hd, decide_eq_true (by omega), Int.toNat_natCast, ble_of hl]; rfl
  rw [q h1 hm1, q h2 hm2] at hs1
  have hw : IntKind.i64.wrap (12 + (m : Int)) = ((12 + m : Nat) : Int) := by rw [wrap_id (by omega) (by omega)]; omega
  have hP : ∀ l1 l2 : List UInt8, srP b1 b2 l1 l2 = true := fun l1 l2 => by unfold srP; rw [h1.plain, h2.plain, plain_u8s, plain_u8s]; rfl
  have bl : ∀ {l : List UInt8}, m ≤ l.length → (boxS (scalS (ds.map SC.u8)) (powS 4 (X : Int)) (l.take m)).length = 12 + m := fun {l} hl => by rw [boxS_len, List.length_take]; omega
  refine Sx.Fn.of (nt := 91) (by kernel_rfl) rfl ?_
  refine SWs.stepL hC mixed [false, false, false, false, false] hs1 ?_ trivial ?_
  · rw [hP]
    have : tn (tg (tg (tg (srS (srS (rfO (tn true (decide ((m : Int) > 200))) (ks.map SC.u8)) (m : Int) ps.length o1 b1 (boxS (scalS (ds.map SC.u8)) (powS 4 (X : Int)) (ps.take m), 0) (ds.map SC.u8)) (m : Int) qs.length o2 b2 (boxS (scalS (ds.map SC.u8)) (powS 4 (X : Int)) (qs.take m), 0) (ds.map SC.u8)) ((0 : Int) != 0) false) ((0 : Int) != 0) false) (((boxS (scalS (ds.map SC.u8)) (powS 4 (X : Int)) (ps.take m)).length : Int) != IntKind.i64.wrap (12 + (m : Int))) false) (((boxS (scalS (ds.map SC.u8)) (powS 4 (X : Int)) (qs.take m)).length : Int) != IntKind.i64.wrap (12 + (m : Int))) = true :=
      tn_eq (tg_eq (tg_eq (tg_eq (sO h2 hm2 (sO h1 hm1 (rfO_eq hk (tn_eq rfl hb)) _) _) rfl) rfl) (by rw [bl hm1, hw]; simp)) (by rw [bl hm2, hw]; simp)
    simp only at this ⊢
    rw [this]; rfl
  simp only
  refine SWs.loop (by kernel_rfl) (fun i : Nat => srI o1 ps.length o2 qs.length b1 b2 (boxS (scalS (ds.map SC.u8)) (powS 4 (X : Int)) (ps.take m)) (boxS (scalS (ds.map SC.u8)) (powS 4 (X : Int)) (qs.take m)) m i) (fun i => m - i) (fun i => i ≤ m) 0 (by omega) ?_
  intro i hi
  by_cases hlt : i < m
  · have hwi : IntKind.i64.wrap ((i : Int) + 1) = ((i + 1 : Nat) : Int) := by rw [wrap_id (by omega) (by omega)]; omega
    obtain ⟨a1, a2⟩ := okA_eq (l := boxS (scalS (ds.map SC.u8)) (powS 4 (X : Int)) (ps.take m)) (i := i) (ty_eq rfl (show decide ((i : Int) < (m : Int)) = true by rw [decide_eq_true_eq]; omega)) (by rw [bl hm1]; omega) (by rw [bl hm1]; omega)
    obtain ⟨c1, c2⟩ := okA_eq (l := boxS (scalS (ds.map SC.u8)) (powS 4 (X : Int)) (qs.take m)) (i := i) a1 (by rw [bl hm2]; omega) (by rw [bl hm2]; omega)
    refine SWs.roundL hC mixed [true, false] (sr_r S W F O o1 ps.length o2 qs.length b1 b2 _ _ m i) rfl ?_ trivial ⟨i + 1, by omega, by omega, by rw [hwi]⟩
    rw [hP, tn_eq (show srOb o1 ps.length o2 qs.length b1 b2 _ _ m i = true from ldOk_eq h2 (by omega) (ldOk_eq h1 (by omega) c1)) ?_]; rfl
    rw [a2, c2, ldU_eq h1 (by omega), ldU_eq h2 (by omega), box_get (by rw [List.length_take]; omega), box_get (by rw [List.length_take]; omega), getD_take hlt, getD_take hlt, xor_two]
    simp
  · obtain rfl : i = m := by omega
    refine SWs.outL hC mixed [false] (sr_e S W F O o1 ps.length o2 qs.length b1 b2 _ _ i i) (tn_eq rfl (by simp)) trivial ?_
    exact SWs.finvL hC mixed [] (sr_f S W F O) rfl trivial rfl
theorem sealStream_fn (ks ds : List UInt8) (w : World) (hk : ks.length = 32) (hd : ds.length = 32) {ps qs : List UInt8} {o1 o2 : Nat} {b1 b2 : Blk} (h1 : RowB o1 b1 ps) (h2 : RowB o2 b2 qs) :
    Sx.Fn Try.prog fStream (atW w 0) [.agg (ks.map SC.u8), .agg (ds.map SC.u8), .c (.slc 0 o1 1 ps.length none), .c (.slc 1 o2 1 qs.length none)] [(0, some b1), (1, some b2)] 2 fun r _ => r = .c (.bool true) := stream_gen (O := openF) rfl rfl rfl rfl hk hd h1 h2 w

end Go.Proofs.Ytdjimjjemiaokaa.Sl
