/-
  The law of boxes that are turned, cut or lengthened.
-/
import Derived.Test.YtdjimjjemiaokaaSlK
namespace Go.Proofs.Ytdjimjjemiaokaa.Sl
open Go.RowKit Go.Proofs.Ytdjimjjemiaokaa.Sx Go.Proofs.Ytdjimjjemiaokaa.Pw Go.Proofs.Ytdjimjjemiaokaa.Pr
open Go.Proofs.Ytdjimjjemiaokaa.Sp (hc hb deriveS isU8s asU8s tB tH mixed H4)
set_option linter.unusedVariables false

abbrev fTurned : Nat := 6
def kAt (a : Int) (len : Nat) : Int := (IntKind.i64.wrap ((BitVec.ofInt 64 a &&& BitVec.ofInt 64 65535).toNat : Nat)).tmod (len : Int)
section
variable (S : List SC → Int) (W : Int → Int → Int) (F : FT) (O : OT) (kc dc : List SC) (off n : Nat) (b : Blk) (a : Int) (v : UInt8) (way : Int)
def tuA : List SV := [.agg kc, .agg dc, .c (.slc 0 off 1 n none), .c (.int a), .c (.u8 v), .c (.int way)]
theorem tu_1 : (xfunL Try.prog (cL S W F O) 1000 fTurned (tuA kc dc off n a v way) [(0, some b)] 1 [true]).map (fun q => (q.1, q.2.1, q.2.2.1)) = some (tg true (decide ((n : Int) > 150)) true, [], .c (.bool true)) := by kernel_rfl
theorem tu_2 : (xfunL Try.prog (cL S W F O) 1000 fTurned (tuA kc dc off n a v way) [(0, some b)] 1 [false, true]).map (fun q => (q.1, q.2.1, q.2.2.1)) = some (tg (tg true (decide ((n : Int) > 150)) false) (decide (way < 0)) true, [], .c (.bool true)) := by kernel_rfl
theorem tu_3 : (xfunL Try.prog (cL S W F O) 1000 fTurned (tuA kc dc off n a v way) [(0, some b)] 1 [false, false, true]).map (fun q => (q.1, q.2.1, q.2.2.1)) = some (ty_ (tg (tg true (decide ((n : Int) > 150)) false) (decide (way < 0)) false) (decide (way > 2)), [], .c (.bool true)) := by kernel_rfl
def tuI (x y : Int) (l : List UInt8) (k : Int) : St := ⟨[(4, .c (.u8 v)), (5, .c (.int way)), (6, .c (.ptr 0 0)), (13, .c (.ptr 1 0)), (14, .c (.slc 2 0 1 l.length none)), (16, .c (.int k))], [(0, some ⟨kc, tH, false, true⟩), (1, some ⟨[.int x, .int y], tRKey, false, true⟩), (2, some ⟨l.map SC.u8, tB, true, true⟩)], 3, 92⟩
def tuCut (i j k : Nat) : Cut := ⟨[(4,true),(5,true),(6,false),(13,false),(14,false),(16,true)], [(i,0,true),(j,1,true),(k,2,true)], 3⟩
def tuQ : List UInt8 × Int := bkQ S W F kc dc (rdU off n b)
def tu4 : Bool := bnd (bnd (seO (rfO (tn (tg (tg true (decide ((n : Int) > 150)) false) (decide (way < 0)) false) (decide (way > 2))) kc) dc (rowL off n b) (tuQ S W F kc dc off n b)) (((tuQ S W F kc dc off n b).1.length : Int) != 0)) (kc.all SC.plain && (((tuQ S W F kc dc off n b).1.map SC.u8).all SC.plain && true))
theorem tu_s : stepL Try.prog (cL S W F O) 0 1000 6 (bodyOf Try.prog fTurned) ⟨argTmps (tuA kc dc off n a v way) 0, [(0, some b)], 1, 92⟩ [false, false, false] [] (tuCut 1 65 89) =
  some (tu4 S W F kc dc off n b way, [], tuI kc v way (S (hs_ kc)) (W 4 (S (hs_ kc))) (tuQ S W F kc dc off n b).1 (kAt a (tuQ S W F kc dc off n b).1.length)) := by kernel_rfl
variable (x y k : Int) (l : List UInt8)
def rdC (len : Nat) (cells : List SC) : List UInt8 := (List.take (len * 1) (List.drop 0 cells)).map SC.asU8
def okL (len : Nat) (cells : List SC) : Bool := Nat.ble (0 + len * 1) cells.length && true
def okU (len : Nat) (cells : List SC) : Bool := (List.take (len * 1) (List.drop 0 cells)).all SC.isU8
/-- Both open what then lies there. -/
def tuP (acc : Bool) (kc : List SC) (len : Nat) (cells : List SC) (p q : List UInt8 × Int) : Bool :=
  tg (tg (st2 (bnd (bnd (frO acc kc) (okL len cells && (okU len cells && (Nat.ble len 1000000 && (rok p.1 && true))))) (((okL len cells && (okU len cells && Nat.ble len 1000000)) && true) && rok q.1)) p.1 q.1) (ownR p.1 == ownR q.1) true) (p.2 == q.2) true
noncomputable abbrev tuZ (told : List Bool) := (finL Try.prog (cL S W F O) fTurned 1000 100 ((bodyOf Try.prog fTurned).drop 6) (tuI kc v way x y l k) told).map (fun q => (q.1, q.2.1, q.2.2.1))
def tuX0 : List SC := (l.map SC.u8).set (0 + k.toNat * 1) (.u8 (((l.map SC.u8).getD (0 + k.toNat * 1) .nilp).asU8 ^^^ v))
def tuIx (acc : Bool) : Bool := bnd (bnd (bnd (bnd acc (decide (0 ≤ k) && (Nat.blt k.toNat l.length && true))) (Nat.blt (0 + k.toNat * 1) (l.map SC.u8).length && ((l.map SC.u8).getD (0 + k.toNat * 1) .nilp).isU8)) (decide (0 ≤ k) && (Nat.blt k.toNat l.length && true))) (Nat.ble (Nat.succ (0 + k.toNat * 1)) (l.map SC.u8).length)
theorem tz_0 : tuZ S W F O kc v 0 x y k l [true, true, true] = some (tuP (tuIx k l true) kc l.length (tuX0 v k l) (O (S (hs_ kc)) (rdC l.length (tuX0 v k l))) (O x (rdC l.length (tuX0 v k l))), [], .c (.bool true)) := by kernel_rfl
theorem tz_1 : tuZ S W F O kc v 1 x y k l [false, true, true, true] = some (tuP (bnd true (decide (0 ≤ k) && (Nat.ble k.toNat l.length && true))) kc (k.toNat - 0) (l.map SC.u8) (O (S (hs_ kc)) (rdC (k.toNat - 0) (l.map SC.u8))) (O x (rdC (k.toNat - 0) (l.map SC.u8))), [], .c (.bool true)) := by kernel_rfl
def tuX2 : List SC := List.take (l.length * 1) (l.map SC.u8) ++ [.u8 v]
theorem tz_2 : tuZ S W F O kc v 2 x y k l [false, false, true, true] = some (tuP (bnd true (Nat.ble (l.length + 1) 9223372036854775807 && (Nat.ble ((l.length + 1) * 1) 140737488355328 && Nat.ble (l.length * 1) (l.map SC.u8).length))) kc (l.length + 1) (tuX2 v l) (O (S (hs_ kc)) (rdC (l.length + 1) (tuX2 v l))) (O x (rdC (l.length + 1) (tuX2 v l))), [], .c (.bool true)) := by kernel_rfl
end
theorem tuP_eq {acc : Bool} {ks : List UInt8} (hk : ks.length = 32) (ha : acc = true) {len : Nat} {cells : List SC} {m : List UInt8} (hm : cells = m.map SC.u8) (hle : len ≤ m.length) (hl : len ≤ 1000000) (p : List UInt8 × Int) : tuP acc (ks.map SC.u8) len cells p p = true := by
  subst hm
  have e1 : okL len (m.map SC.u8) = true := by unfold okL; rw [ble_of (by simp; omega)]; rfl
  have e2 : okU len (m.map SC.u8) = true := by unfold okU; rw [List.drop_zero, ← List.map_take, isU8s]
  unfold tuP
  rw [e1, e2, rok_eq, ble_of hl, frO_eq hk ha]
  exact tg_eq (tg_eq (st2_eq rfl _ _) (by simp)) (by simp)
theorem kAt_bd (a : Int) {len : Nat} (h : 0 < len) : 0 ≤ kAt a len ∧ kAt a len < len := by
  have hle : (BitVec.ofInt 64 a &&& BitVec.ofInt 64 65535).toNat ≤ 65535 := by
    rw [BitVec.toNat_and]
    exact Nat.and_le_right
  unfold kAt
  rw [wrap_id (by omega) (by omega), Int.tmod_eq_emod_of_nonneg (by omega)]
  exact ⟨Int.emod_nonneg _ (by omega), Int.emod_lt_of_pos _ (by omega)⟩
theorem turned_gen {S : List SC → Int} {W : Int → Int → Int} {F : FT} {O : OT} (hS : S = scalS) (hW : W = powS) (hF : F = sealF) (hO : O = openF) {ks ds bs : List UInt8} (hk : ks.length = 32) (hd : ds.length = 32) {off : Nat} {b : Blk} (h : RowB off b bs) (a : Int) (v : UInt8) (way : Int) (w : World) :
    Sx.Fn Try.prog fTurned (atW w 0) [.agg (ks.map SC.u8), .agg (ds.map SC.u8), .c (.slc 0 off 1 bs.length none), .c (.int a), .c (.u8 v), .c (.int way)] [(0, some b)] 1 fun r _ => r = .c (.bool true) := by
  have hC := cL_ok hS hW hF hO
  cases h1 : decide ((bs.length : Int) > 150) with
  | true => exact Fn.xvL hC mixed [true] (tu_1 S W F O (ks.map SC.u8) (ds.map SC.u8) off bs.length b a v way) (tg_eq rfl h1) trivial rfl
  | false =>
  cases h2 : decide (way < 0) with
  | true => exact Fn.xvL hC mixed [false, true] (tu_2 S W F O (ks.map SC.u8) (ds.map SC.u8) off bs.length b a v way) (tg_eq (tg_eq rfl h1) h2) trivial rfl
  | false =>
  cases h3 : decide (way > 2) with
  | true => exact Fn.xvL hC mixed [false, false, true] (tu_3 S W F O (ks.map SC.u8) (ds.map SC.u8) off bs.length b a v way) (ty_eq (tg_eq (tg_eq rfl h1) h2) h3) trivial rfl
  | false =>
  have hl : bs.length ≤ 150 := by rw [decide_eq_false_iff_not] at h1; omega
  obtain ⟨X, hX, hX0, hXQ⟩ := scal_nat (ks.map SC.u8)
  have e1 : tuQ S W F (ks.map SC.u8) (ds.map SC.u8) off bs.length b = (boxS (scalS (ds.map SC.u8)) (powS 4 (X : Int)) bs, 0) := by
    unfold tuQ bkQ
    rw [rdU_eq h, hs_eq hk, hs_eq hd, hS, hW, hF, hX, seal_to hX0 hXQ _ (by omega)]
  refine Sx.Fn.of (nt := 92) (by kernel_rfl) rfl ?_
  refine SWs.stepL hC mixed [false, false, false] (tu_s S W F O (ks.map SC.u8) (ds.map SC.u8) off bs.length b a v way) ?_ trivial ?_
  · unfold tu4
    rw [e1, seO_eq hd (rfO_eq hk (tn_eq (tg_eq (tg_eq rfl h1) h2) h3)) (rowL_eq h (by omega)), plain_u8s, plain_u8s, boxS_len]
    rw [show ((((12 + bs.length : Nat) : Int) != 0) = true) from by rw [bne_iff_ne]; omega]; rfl
  rw [e1, hs_eq hk]
  have hbl := boxS_len (scalS (ds.map SC.u8)) (powS 4 (X : Int)) bs
  have hkb := kAt_bd a (len := (boxS (scalS (ds.map SC.u8)) (powS 4 (X : Int)) bs).length) (by omega)
  simp only
  generalize kAt a (boxS (scalS (ds.map SC.u8)) (powS 4 (X : Int)) bs).length = k at hkb
  generalize boxS (scalS (ds.map SC.u8)) (powS 4 (X : Int)) bs = l at hbl hkb
  obtain ⟨hk0, hk1⟩ := hkb
  have hw : way = 0 ∨ way = 1 ∨ way = 2 := by rw [decide_eq_false_iff_not] at h2 h3; omega
  rcases hw with rfl | rfl | rfl
  · have h5 := tz_0 S W F O (ks.map SC.u8) v (S (ks.map SC.u8)) (W 4 (S (ks.map SC.u8))) k l
    rw [hs_eq hk] at h5
    have hb1 : Nat.blt k.toNat l.length = true := by rw [Nat.blt_eq]; omega
    have hx : tuX0 v k l = (l.set k.toNat (l.getD k.toNat 0 ^^^ v)).map SC.u8 := by
      unfold tuX0
      rw [Nat.zero_add, Nat.mul_one, u8_getD (by omega), List.map_set]; rfl
    refine SWs.finvL hC mixed [true, true, true] h5 (tuP_eq hk ?_ hx (by simp) (by omega) _) trivial rfl
    unfold tuIx
    rw [Nat.zero_add, Nat.mul_one, hb1, u8_getD (by omega), List.length_map, hb1, decide_eq_true hk0, ble_of (by omega)]; rfl
  · have h5 := tz_1 S W F O (ks.map SC.u8) v (S (ks.map SC.u8)) (W 4 (S (ks.map SC.u8))) k l
    rw [hs_eq hk] at h5
    exact SWs.finvL hC mixed [false, true, true, true] h5 (tuP_eq hk (by rw [decide_eq_true hk0, ble_of (by omega)]; rfl) rfl (by omega) (by omega) _) trivial rfl
  · have h5 := tz_2 S W F O (ks.map SC.u8) v (S (ks.map SC.u8)) (W 4 (S (ks.map SC.u8))) k l
    rw [hs_eq hk] at h5
    have hx : tuX2 v l = (l ++ [v]).map SC.u8 := by
      unfold tuX2
      rw [Nat.mul_one, List.take_of_length_le (by simp), List.map_append]; rfl
    exact SWs.finvL hC mixed [false, false, true, true] h5 (tuP_eq hk (by rw [ble_of (by omega), ble_of (by omega), ble_of (by simp)]; rfl) hx (by simp) (by omega) _) trivial rfl
theorem sealTurned_fn (ks ds : List UInt8) (a : Int) (v : UInt8) (way : Int) (w : World) (hk : ks.length = 32) (hd : ds.length = 32) {bs : List UInt8} {off : Nat} {b : Blk} (h : RowB off b bs) :
    Sx.Fn Try.prog fTurned (atW w 0) [.agg (ks.map SC.u8), .agg (ds.map SC.u8), .c (.slc 0 off 1 bs.length none), .c (.int a), .c (.u8 v), .c (.int way)] [(0, some b)] 1 fun r _ => r = .c (.bool true) := turned_gen (O := openF) rfl rfl rfl rfl hk hd h a v way w

end Go.Proofs.Ytdjimjjemiaokaa.Sl
