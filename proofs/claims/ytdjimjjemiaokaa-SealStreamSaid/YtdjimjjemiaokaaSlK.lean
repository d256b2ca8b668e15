/-
  The laws of what a box hangs on, and of another key.
-/
import Derived.Test.YtdjimjjemiaokaaSlJ
namespace Go.Proofs.Ytdjimjjemiaokaa.Sl
open Go.RowKit Go.Proofs.Ytdjimjjemiaokaa.Sx Go.Proofs.Ytdjimjjemiaokaa.Pw Go.Proofs.Ytdjimjjemiaokaa.Pr
open Go.Proofs.Ytdjimjjemiaokaa.Sp (hc hb deriveS isU8s asU8s tB tH mixed H4)
set_option linter.unusedVariables false

abbrev cL (S : List SC → Int) (W : Int → Int → Int) (F : FT) (O : OT) : List (Nat × Con) := [(fFrom, fromG S), (frFrom, rfromG S W), (fPub, pubG W), (fSeal, sealC F), (frSeal, sealC F), (fOpen, openC O), (frOpen, ropenC O), (frFour, fourC), (fKnown5, knownC)]
theorem cL_ok {S : List SC → Int} {W : Int → Int → Int} {F : FT} {O : OT} (hS : S = scalS) (hW : W = powS) (hF : F = sealF) (hO : O = openF) : LibOK Try.prog (cL S W F O) :=
  LibOK.cons (fromG_ok hS) (LibOK.cons (rfromG_ok hS hW) (LibOK.cons (pubG_ok hW) (LibOK.cons (seal_ok hF) (LibOK.cons (rseal_ok hF) (LibOK.cons (open_ok hO) (LibOK.cons (ropen_ok hO) (LibOK.cons rfour_ok (LibOK.cons known_ok (LibOK.nil _)))))))))
abbrev fSame : Nat := 9
abbrev fOther : Nat := 10
section
variable (S : List SC → Int) (W : Int → Int → Int) (F : FT) (O : OT) (kc ac dc : List SC) (off n : Nat) (b : Blk)
def smQ : List UInt8 × Int := bkQ S W F kc dc (rdU off n b)
def sm1 : Bool := seO (seO (rfO (tn true (decide ((n : Int) > 200))) kc) dc (rowL off n b) (smQ S W F kc dc off n b)) dc (rowL off n b) (smQ S W F kc dc off n b)
def first4 (l : List UInt8) : List SC := List.take 4 (List.drop 0 (l.map SC.u8))
def sm2 : Bool := tg (tg (st2 (tg (tg (sm1 S W F kc dc off n b) ((smQ S W F kc dc off n b).2 == 0) true) ((smQ S W F kc dc off n b).2 == 0) true) (smQ S W F kc dc off n b).1 (smQ S W F kc dc off n b).1) (ownR (smQ S W F kc dc off n b).1 == ownR (smQ S W F kc dc off n b).1) true) (decide (((smQ S W F kc dc off n b).1.length : Int) ≥ 4)) true
def sm3 : Bool := tg (rfO (bnd (bnd (sm2 S W F kc dc off n b) (Nat.ble 4 (smQ S W F kc dc off n b).1.length && true)) ((Nat.ble 4 ((smQ S W F kc dc off n b).1.map SC.u8).length && true) && (first4 (smQ S W F kc dc off n b).1).all SC.isU8)) dc) ((first4 (smQ S W F kc dc off n b).1).map SC.asU8 == fourB (W 4 (S (hs_ dc)))) true
theorem sm_1 : (xfunL Try.prog (cL S W F O) 1000 fSame [.agg kc, .agg dc, .c (.slc 0 off 1 n none)] [(0, some b)] 1 [true]).map (fun q => (q.1, q.2.1, q.2.2.1)) = some (ty_ true (decide ((n : Int) > 200)), [], .c (.bool true)) := by kernel_rfl
theorem sm_2 : (xfunL Try.prog (cL S W F O) 1000 fSame [.agg kc, .agg dc, .c (.slc 0 off 1 n none)] [(0, some b)] 1 [false, true, true, true, true, true]).map (fun q => (q.1, q.2.1, q.2.2.1)) = some (sm3 S W F kc dc off n b, [], .c (.bool true)) := by kernel_rfl
theorem ot_1 : (xfunL Try.prog (cL S W F O) 1000 fOther [.agg ac, .agg kc, .agg dc, .c (.slc 0 off 1 n none)] [(0, some b)] 1 [true]).map (fun q => (q.1, q.2.1, q.2.2.1)) = some (ty_ true (decide ((n : Int) > 200)), [], .c (.bool true)) := by kernel_rfl
def otQ : List UInt8 × Int := bkQ S W F ac dc (rdU off n b)
def otR : List UInt8 × Int := O (S (hs_ kc)) (ownR (otQ S W F ac dc off n b).1)
def ot1 : Bool := bnd (frO (seO (rfO (tn true (decide ((n : Int) > 200))) ac) dc (rowL off n b) (otQ S W F ac dc off n b)) kc) (oRd (otQ S W F ac dc off n b).1 (otR S W F O kc ac dc off n b).1)
def ot2 : Bool := bnd (rfO (ot1 S W F O kc ac dc off n b) kc) (((ownL (otQ S W F ac dc off n b).1 && (ownU (otQ S W F ac dc off n b).1 && Nat.ble (otQ S W F ac dc off n b).1.length 1000000)) && true) && rok (otR S W F O kc ac dc off n b).1)
def ot3 : Bool := tg (tg (st2 (ot2 S W F O kc ac dc off n b) (otR S W F O kc ac dc off n b).1 (otR S W F O kc ac dc off n b).1) (ownR (otR S W F O kc ac dc off n b).1 == ownR (otR S W F O kc ac dc off n b).1) true) ((otR S W F O kc ac dc off n b).2 == (otR S W F O kc ac dc off n b).2) true
theorem ot_2 : (xfunL Try.prog (cL S W F O) 1000 fOther [.agg ac, .agg kc, .agg dc, .c (.slc 0 off 1 n none)] [(0, some b)] 1 [false, true, true]).map (fun q => (q.1, q.2.1, q.2.2.1)) = some (ot3 S W F O kc ac dc off n b, [], .c (.bool true)) := by kernel_rfl
end
theorem first4_eq (l : List UInt8) : first4 l = (l.take 4).map SC.u8 := by unfold first4; rw [List.drop_zero, List.map_take]
theorem same_gen {S : List SC → Int} {W : Int → Int → Int} {F : FT} {O : OT} (hS : S = scalS) (hW : W = powS) (hF : F = sealF) (hO : O = openF) {ks ds bs : List UInt8} (hk : ks.length = 32) (hd : ds.length = 32) {off : Nat} {b : Blk} (h : RowB off b bs) (w : World) :
    Sx.Fn Try.prog fSame (atW w 0) [.agg (ks.map SC.u8), .agg (ds.map SC.u8), .c (.slc 0 off 1 bs.length none)] [(0, some b)] 1 fun r _ => r = .c (.bool true) := by
  cases h1 : decide ((bs.length : Int) > 200) with
  | true => exact Fn.xvL (cL_ok hS hW hF hO) mixed [true] (sm_1 S W F O (ks.map SC.u8) (ds.map SC.u8) off bs.length b) (ty_eq rfl h1) trivial rfl
  | false =>
    have hl : bs.length ≤ 200 := by rw [decide_eq_false_iff_not] at h1; omega
    obtain ⟨X, hX, hX0, hXQ⟩ := scal_nat (ks.map SC.u8)
    have e1 : smQ S W F (ks.map SC.u8) (ds.map SC.u8) off bs.length b = (boxS (scalS (ds.map SC.u8)) (powS 4 (X : Int)) bs, 0) := by
      unfold smQ bkQ
      rw [rdU_eq h, hs_eq hk, hs_eq hd, hS, hW, hF, hX, seal_to hX0 hXQ _ hl]
    refine Fn.xvL (cL_ok hS hW hF hO) mixed [false, true, true, true, true, true] (sm_2 S W F O (ks.map SC.u8) (ds.map SC.u8) off bs.length b) ?_ trivial rfl
    have s1 : sm1 S W F (ks.map SC.u8) (ds.map SC.u8) off bs.length b = true := seO_eq hd (seO_eq hd (rfO_eq hk (tn_eq rfl h1)) (rowL_eq h (by omega)) _) (rowL_eq h (by omega)) _
    have s2 : sm2 S W F (ks.map SC.u8) (ds.map SC.u8) off bs.length b = true := by
      unfold sm2
      rw [s1, e1]
      exact tg_eq (tg_eq (st2_eq (tg_eq (tg_eq rfl rfl) rfl) _ _) (by simp)) (by rw [boxS_len, decide_eq_true_eq]; omega)
    unfold sm3
    rw [s2, e1, hs_eq hd, hS, hW, first4_eq, (box_parts _ _ _).1, asU8s, isU8s, ble_of (by rw [boxS_len]; omega), ble_of (by rw [List.length_map, boxS_len]; omega)]
    exact tg_eq (rfO_eq hd rfl) (by simp)
theorem sealSame_fn (ks ds : List UInt8) (w : World) (hk : ks.length = 32) (hd : ds.length = 32) {bs : List UInt8} {off : Nat} {b : Blk} (h : RowB off b bs) : Sx.Fn Try.prog fSame (atW w 0) [.agg (ks.map SC.u8), .agg (ds.map SC.u8), .c (.slc 0 off 1 bs.length none)] [(0, some b)] 1 fun r _ => r = .c (.bool true) := same_gen (O := openF) rfl rfl rfl rfl hk hd h w
theorem sealLen {pub : Int} {dc : List SC} {bs : List UInt8} : (sealF pub dc bs).1.length ≤ 212 := by
  unfold sealF
  cases isS pub with
  | false => simp
  | true =>
    cases h : decide ((bs.length : Int) > 200) with
    | true => simp
    | false =>
      rw [decide_eq_false_iff_not] at h
      simp only [Bool.not_true, cond_false]
      rw [boxS_len]; omega
theorem other_gen {S : List SC → Int} {W : Int → Int → Int} {F : FT} {O : OT} (hS : S = scalS) (hW : W = powS) (hF : F = sealF) (hO : O = openF) {gs ks ds bs : List UInt8} (ha : gs.length = 32) (hk : ks.length = 32) (hd : ds.length = 32) {off : Nat} {b : Blk} (h : RowB off b bs) (w : World) :
    Sx.Fn Try.prog fOther (atW w 0) [.agg (gs.map SC.u8), .agg (ks.map SC.u8), .agg (ds.map SC.u8), .c (.slc 0 off 1 bs.length none)] [(0, some b)] 1 fun r _ => r = .c (.bool true) := by
  cases h1 : decide ((bs.length : Int) > 200) with
  | true => exact Fn.xvL (cL_ok hS hW hF hO) mixed [true] (ot_1 S W F O (ks.map SC.u8) (gs.map SC.u8) (ds.map SC.u8) off bs.length b) (ty_eq rfl h1) trivial rfl
  | false =>
    have hl : bs.length ≤ 200 := by rw [decide_eq_false_iff_not] at h1; omega
    have hql : (otQ S W F (gs.map SC.u8) (ds.map SC.u8) off bs.length b).1.length ≤ 1000000 := by
      unfold otQ bkQ
      rw [hF]
      have := sealLen (pub := W 4 (S (hs_ (gs.map SC.u8)))) (dc := hs_ (ds.map SC.u8)) (bs := rdU off bs.length b)
      omega
    refine Fn.xvL (cL_ok hS hW hF hO) mixed [false, true, true] (ot_2 S W F O (ks.map SC.u8) (gs.map SC.u8) (ds.map SC.u8) off bs.length b) ?_ trivial rfl
    have s1 : ot1 S W F O (ks.map SC.u8) (gs.map SC.u8) (ds.map SC.u8) off bs.length b = true := by
      unfold ot1
      rw [oRd_eq _ hql, frO_eq hk (seO_eq hd (rfO_eq ha (tn_eq rfl h1)) (rowL_eq h (by omega)) _)]; rfl
    have s2 : ot2 S W F O (ks.map SC.u8) (gs.map SC.u8) (ds.map SC.u8) off bs.length b = true := by
      unfold ot2
      rw [s1, rfO_eq hk rfl, ownL_eq, ownU_eq, rok_eq, ble_of hql]; rfl
    exact tg_eq (tg_eq (st2_eq s2 _ _) (by simp)) (by simp)
theorem sealOther_fn (gs ks ds : List UInt8) (w : World) (ha : gs.length = 32) (hk : ks.length = 32) (hd : ds.length = 32) {bs : List UInt8} {off : Nat} {b : Blk} (h : RowB off b bs) : Sx.Fn Try.prog fOther (atW w 0) [.agg (gs.map SC.u8), .agg (ks.map SC.u8), .agg (ds.map SC.u8), .c (.slc 0 off 1 bs.length none)] [(0, some b)] 1 fun r _ => r = .c (.bool true) := other_gen rfl rfl rfl rfl ha hk hd h w

end Go.Proofs.Ytdjimjjemiaokaa.Sl
