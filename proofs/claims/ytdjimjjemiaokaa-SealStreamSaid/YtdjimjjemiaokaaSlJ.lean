/-
  The laws of what is opened as it was, and of what is handed in.
-/
import Derived.Test.YtdjimjjemiaokaaSlI
namespace Go.Proofs.Ytdjimjjemiaokaa.Sl
open Go.RowKit Go.Proofs.Ytdjimjjemiaokaa.Sx Go.Proofs.Ytdjimjjemiaokaa.Pw Go.Proofs.Ytdjimjjemiaokaa.Pr
open Go.Proofs.Ytdjimjjemiaokaa.Sp (hc hb deriveS isU8s asU8s tB tH mixed H4)
set_option linter.unusedVariables false

abbrev bL (S : List SC → Int) (W : Int → Int → Int) (F : FT) (O : OT) : List (Nat × Con) := [(fFrom, fromG S), (fPub, pubG W), (fSeal, sealC F), (fOpen, openC O), (fKnown5, knownC)]
theorem bL_ok {S : List SC → Int} {W : Int → Int → Int} {F : FT} {O : OT} (hS : S = scalS) (hW : W = powS) (hF : F = sealF) (hO : O = openF) : LibOK Try.prog (bL S W F O) :=
  LibOK.cons (fromG_ok hS) (LibOK.cons (pubG_ok hW) (LibOK.cons (seal_ok hF) (LibOK.cons (open_ok hO) (LibOK.cons known_ok (LibOK.nil _)))))
abbrev fBack : Nat := 5
abbrev fOwn : Nat := 8
section
variable (S : List SC → Int) (W : Int → Int → Int) (F : FT) (O : OT) (kc dc : List SC) (off n : Nat) (b : Blk)
def bkQ (l : List UInt8) : List UInt8 × Int := F (W 4 (S (hs_ kc))) (hs_ dc) l
def bkR (l : List UInt8) : List UInt8 × Int := O (S (hs_ kc)) (ownR (bkQ S W F kc dc l).1)
def bkO (dc : List SC) : List Prop := [SV.agg (hs_ dc) = SV.agg (hs_ dc)]
theorem bk_1 : (xfunL Try.prog (bL S W F O) 1000 fBack [.agg kc, .agg dc, .c (.slc 0 off 1 n none)] [(0, some b)] 1 [true]).map (fun q => (q.1, q.2.1, q.2.2.1)) = some (ty_ true (decide ((n : Int) > 200)), [], .c (.bool true)) := by kernel_rfl
def bk2 : Bool :=
  tg (bnd (bnd (tg (tg (tg (bnd (bnd (seO (frO (tn true (decide ((n : Int) > 200))) kc) dc (rowL off n b) (bkQ S W F kc dc (rdU off n b))) (Nat.ble 32 dc.length)) (oRd (bkQ S W F kc dc (rdU off n b)).1 (bkR S W F O kc dc (rdU off n b)).1)) ((bkQ S W F kc dc (rdU off n b)).2 == 0) true)
    (((bkQ S W F kc dc (rdU off n b)).1.length : Int) == IntKind.i64.wrap (12 + (n : Int))) true) ((bkR S W F O kc dc (rdU off n b)).2 == 0) true) (strOk (bkR S W F O kc dc (rdU off n b)).1)) (rowC off n b)) (ownR (bkR S W F O kc dc (rdU off n b)).1 == rdU off n b) true
theorem bk_2 : (xfunL Try.prog (bL S W F O) 1000 fBack [.agg kc, .agg dc, .c (.slc 0 off 1 n none)] [(0, some b)] 1 [false, false, true, true, true, true]).map (fun q => (q.1, q.2.1, q.2.2.1)) = some (bk2 S W F O kc dc off n b, bkO dc, .c (.bool true)) := by kernel_rfl
theorem ow_1 : (xfunL Try.prog (bL S W F O) 1000 fOwn [.agg kc, .agg dc, .c (.slc 0 off 1 n none)] [(0, some b)] 1 [true]).map (fun q => (q.1, q.2.1, q.2.2.1)) = some (tg true (decide ((n : Int) > 200)) true, [], .c (.bool true)) := by kernel_rfl
theorem ow_2 : (xfunL Try.prog (bL S W F O) 1000 fOwn [.agg kc, .agg dc, .c (.slc 0 off 1 n none)] [(0, some b)] 1 [false, true]).map (fun q => (q.1, q.2.1, q.2.2.1)) = some (ty_ (tg true (decide ((n : Int) > 200)) false) (decide ((n : Int) < 1)), [], .c (.bool true)) := by kernel_rfl
def cpS (off n : Nat) (b : Blk) : Bool := (Nat.ble (0 + (0 + n) * 1) (cpB off n b).length && true) && ((List.take ((0 + n) * 1) (List.drop 0 (cpB off n b))).all SC.isU8 && Nat.ble (0 + n) 1000000)
def cpV (off n : Nat) (b : Blk) : Bool := (Nat.ble (0 + (0 + n) * 1) (cpB off n b).length && true) && (List.take ((0 + n) * 1) (List.drop 0 (cpB off n b))).all SC.isU8
def owQ : List UInt8 × Int := bkQ S W F kc dc (cpU off n b)
def owR : List UInt8 × Int := bkR S W F O kc dc (cpU off n b)
def ow3a : Bool := bnd (bnd (bnd (seO (frO (bnd (tn (tg true (decide ((n : Int) > 200)) false) (decide ((n : Int) < 1))) (cpO off n b)) kc) dc (cpS off n b) (owQ S W F kc dc off n b)) (Nat.ble 32 dc.length)) (strOk (owQ S W F kc dc off n b).1)) (oRd (owQ S W F kc dc off n b).1 (owR S W F O kc dc off n b).1)
def ow3b : Bool := tn (tg (tg (ow3a S W F O kc dc off n b) ((owQ S W F kc dc off n b).2 != 0) false) ((owR S W F O kc dc off n b).2 != 0) false) (((owR S W F O kc dc off n b).1.length : Int) != (n : Int))
def ow3c : Bool := bnd (bnd (bnd (bnd (ow3b S W F O kc dc off n b) (Nat.blt 0 (owR S W F O kc dc off n b).1.length && true)) (Nat.blt 0 ((owR S W F O kc dc off n b).1.map SC.u8).length && (((owR S W F O kc dc off n b).1.map SC.u8).getD 0 .nilp).isU8)) (Nat.blt 0 (owR S W F O kc dc off n b).1.length && true)) (Nat.ble 1 ((owR S W F O kc dc off n b).1.map SC.u8).length)
def ow3 : Bool := tg (bnd (tg (bnd (bnd (ow3c S W F O kc dc off n b) (cpV off n b)) (rowC off n b)) (cpU off n b == rdU off n b) true) (strOk (owQ S W F kc dc off n b).1)) (ownR (owQ S W F kc dc off n b).1 == ownR (owQ S W F kc dc off n b).1) true
theorem ow_3 : (xfunL Try.prog (bL S W F O) 1000 fOwn [.agg kc, .agg dc, .c (.slc 0 off 1 n none)] [(0, some b)] 1 [false, false, false, false, false, false, true, true]).map (fun q => (q.1, q.2.1, q.2.2.1)) = some (ow3 S W F O kc dc off n b, bkO dc, .c (.bool true)) := by kernel_rfl
end
theorem rowC_all {off : Nat} {b : Blk} {bs : List UInt8} (h : RowB off b bs) : rowC off bs.length b = true := by
  have hl := h.len
  unfold rowC
  rw [h.cells, Nat.mul_one, List.take_of_length_le (by simp), isU8s, ble_of (by omega)]; rfl
theorem back_gen {S : List SC → Int} {W : Int → Int → Int} {F : FT} {O : OT} (hS : S = scalS) (hW : W = powS) (hF : F = sealF) (hO : O = openF) {ks ds bs : List UInt8} (hk : ks.length = 32) (hd : ds.length = 32) {off : Nat} {b : Blk} (h : RowB off b bs) (w : World) :
    Sx.Fn Try.prog fBack (atW w 0) [.agg (ks.map SC.u8), .agg (ds.map SC.u8), .c (.slc 0 off 1 bs.length none)] [(0, some b)] 1 fun r _ => r = .c (.bool true) := by
  cases h1 : decide ((bs.length : Int) > 200) with
  | true => exact Fn.xvL (bL_ok hS hW hF hO) mixed [true] (bk_1 S W F O (ks.map SC.u8) (ds.map SC.u8) off bs.length b) (ty_eq rfl h1) trivial rfl
  | false =>
    have hl : bs.length ≤ 200 := by rw [decide_eq_false_iff_not] at h1; omega
    obtain ⟨X, hX, hX0, hXQ⟩ := scal_nat (ks.map SC.u8)
    obtain ⟨D, hD, hD0, hDQ⟩ := scal_nat (ds.map SC.u8)
    have e1 : bkQ S W F (ks.map SC.u8) (ds.map SC.u8) bs = (boxS (D : Int) (powS 4 (X : Int)) bs, 0) := by
      unfold bkQ
      rw [hs_eq hk, hs_eq hd, hS, hW, hF, hX, seal_to hX0 hXQ _ hl, hD]
    have e2 : bkR S W F O (ks.map SC.u8) (ds.map SC.u8) bs = (bs, 0) := by
      unfold bkR
      rw [e1, ownR_eq, hs_eq hk, hS, hO, hX, open_seal hX0 hXQ hD0 hDQ hl]
    refine Fn.xvL (bL_ok hS hW hF hO) mixed [false, false, true, true, true, true] (bk_2 S W F O (ks.map SC.u8) (ds.map SC.u8) off bs.length b) ?_ ⟨rfl, trivial⟩ rfl
    have hw : IntKind.i64.wrap (12 + (bs.length : Int)) = ((12 + bs.length : Nat) : Int) := by rw [wrap_id (by omega) (by omega)]; omega
    unfold bk2
    rw [rdU_eq h, e2, e1, ownR_eq, oRd_eq _ (by rw [boxS_len]; omega), strOk_eq, rowC_all h, boxS_len, hw, seO_eq hd (frO_eq hk (tn_eq rfl h1)) (rowL_eq h (by omega)), List.length_map, hd]
    simp [tg, bnd]
theorem sealBack_fn (ks ds : List UInt8) (w : World) (hk : ks.length = 32) (hd : ds.length = 32) {bs : List UInt8} {off : Nat} {b : Blk} (h : RowB off b bs) : Sx.Fn Try.prog fBack (atW w 0) [.agg (ks.map SC.u8), .agg (ds.map SC.u8), .c (.slc 0 off 1 bs.length none)] [(0, some b)] 1 fun r _ => r = .c (.bool true) := back_gen rfl rfl rfl rfl hk hd h w
theorem own_gen {S : List SC → Int} {W : Int → Int → Int} {F : FT} {O : OT} (hS : S = scalS) (hW : W = powS) (hF : F = sealF) (hO : O = openF) {ks ds bs : List UInt8} (hk : ks.length = 32) (hd : ds.length = 32) {off : Nat} {b : Blk} (h : RowB off b bs) (w : World) :
    Sx.Fn Try.prog fOwn (atW w 0) [.agg (ks.map SC.u8), .agg (ds.map SC.u8), .c (.slc 0 off 1 bs.length none)] [(0, some b)] 1 fun r _ => r = .c (.bool true) := by
  cases h1 : decide ((bs.length : Int) > 200) with
  | true => exact Fn.xvL (bL_ok hS hW hF hO) mixed [true] (ow_1 S W F O (ks.map SC.u8) (ds.map SC.u8) off bs.length b) (tg_eq rfl h1) trivial rfl
  | false =>
  cases h2 : decide ((bs.length : Int) < 1) with
  | true => exact Fn.xvL (bL_ok hS hW hF hO) mixed [false, true] (ow_2 S W F O (ks.map SC.u8) (ds.map SC.u8) off bs.length b) (ty_eq (tg_eq rfl h1) h2) trivial rfl
  | false =>
    have hl : bs.length ≤ 200 := by rw [decide_eq_false_iff_not] at h1; omega
    have hl0 : 1 ≤ bs.length := by rw [decide_eq_false_iff_not] at h2; omega
    obtain ⟨c1, c2, c3⟩ := cp_eq h (show bs.length ≤ 1000000 by omega)
    obtain ⟨X, hX, hX0, hXQ⟩ := scal_nat (ks.map SC.u8)
    obtain ⟨D, hD, hD0, hDQ⟩ := scal_nat (ds.map SC.u8)
    have e1 : owQ S W F (ks.map SC.u8) (ds.map SC.u8) off bs.length b = (boxS (D : Int) (powS 4 (X : Int)) bs, 0) := by
      unfold owQ bkQ
      rw [c2, hs_eq hk, hs_eq hd, hS, hW, hF, hX, seal_to hX0 hXQ _ hl, hD]
    have e2 : owR S W F O (ks.map SC.u8) (ds.map SC.u8) off bs.length b = (bs, 0) := by
      have e1' : bkQ S W F (ks.map SC.u8) (ds.map SC.u8) (cpU off bs.length b) = (boxS (D : Int) (powS 4 (X : Int)) bs, 0) := e1
      unfold owR bkR
      rw [e1', ownR_eq, hs_eq hk, hS, hO, hX, open_seal hX0 hXQ hD0 hDQ hl]
    refine Fn.xvL (bL_ok hS hW hF hO) mixed [false, false, false, false, false, false, true, true] (ow_3 S W F O (ks.map SC.u8) (ds.map SC.u8) off bs.length b) ?_ ⟨rfl, trivial⟩ rfl
    have hS1 : cpS off bs.length b = true := by
      unfold cpS
      rw [cpB_eq h, List.drop_zero, List.take_of_length_le (by simp), isU8s, ble_of (by simp), ble_of (by omega)]; rfl
    have hV1 : cpV off bs.length b = true := by
      unfold cpV
      rw [cpB_eq h, List.drop_zero, List.take_of_length_le (by simp), isU8s, ble_of (by simp)]; rfl
    have ha : ow3a S W F O (ks.map SC.u8) (ds.map SC.u8) off bs.length b = true := by
      unfold ow3a
      rw [e2, e1, c1, hS1, seO_eq hd (frO_eq hk (show bnd (tn (tg true (decide ((bs.length : Int) > 200)) false) (decide ((bs.length : Int) < 1))) true = true by rw [tn_eq (tg_eq rfl h1) h2]; rfl)) rfl, strOk_eq, oRd_eq _ (by rw [boxS_len]; omega), List.length_map, hd]; rfl
    have hb3 : ow3b S W F O (ks.map SC.u8) (ds.map SC.u8) off bs.length b = true := by
      unfold ow3b
      rw [e2, e1]
      exact tn_eq (tg_eq (tg_eq ha rfl) rfl) (by simp)
    have hlt : Nat.blt 0 bs.length = true := by rw [Nat.blt_eq]; omega
    have hc3 : ow3c S W F O (ks.map SC.u8) (ds.map SC.u8) off bs.length b = true := by
      unfold ow3c
      rw [hb3, e2, List.length_map, hlt, u8_getD (bs := bs) (i := 0) (by omega), ble_of hl0]; rfl
    unfold ow3
    rw [hc3, hV1, rowC_all h, c2, rdU_eq h, strOk_eq]
    exact tg_eq (by rw [tg_eq (show bnd (bnd true true) true = true from rfl) (by simp)]; rfl) (by simp)
theorem sealOwn_fn (ks ds : List UInt8) (w : World) (hk : ks.length = 32) (hd : ds.length = 32) {bs : List UInt8} {off : Nat} {b : Blk} (h : RowB off b bs) : Sx.Fn Try.prog fOwn (atW w 0) [.agg (ks.map SC.u8), .agg (ds.map SC.u8), .c (.slc 0 off 1 bs.length none)] [(0, some b)] 1 fun r _ => r = .c (.bool true) := own_gen rfl rfl rfl rfl hk hd h w

end Go.Proofs.Ytdjimjjemiaokaa.Sl
