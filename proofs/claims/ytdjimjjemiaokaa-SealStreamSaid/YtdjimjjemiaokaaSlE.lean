/-
  Boxes: what is sealed.
-/
import Derived.Test.YtdjimjjemiaokaaSlD
namespace Go.Proofs.Ytdjimjjemiaokaa.Sl
open Go.RowKit Go.Proofs.Ytdjimjjemiaokaa.Sx Go.Proofs.Ytdjimjjemiaokaa.Pw Go.Proofs.Ytdjimjjemiaokaa.Pr
open Go.Proofs.Ytdjimjjemiaokaa.Sp (rd rdB rd_eq rdB_eq rd_own rdB_own hc hb deriveS isU8s asU8s tB tH mixed own_take fDer derC der_ok derOk H4 fRDer rderC rder_ok fJoin joinC join_ok)
set_option linter.unusedVariables false

abbrev fSeal : Nat := 12
abbrev frSeal : Nat := 13
/-- A hash's bytes. -/
def hl (H : H4) : List UInt8 := (hc H).map SC.asU8
theorem hl_len (H : H4) : (hl H).length = 32 := rfl
theorem hl_eq (H : H4) : (hl H).map SC.u8 = hc H := rfl
/-- A box: by a draw's secret, to a public number, of bytes. -/
def bodyS (x pub : Int) (bs : List UInt8) : List UInt8 := streamS (hl (shI x pub)) bs
def boxS (x pub : Int) (bs : List UInt8) : List UInt8 := fourB (powS 4 x) ++ (tagB (tagH (hl (shI x pub)) (fourB (powS 4 x)) (bodyS x pub bs)) ++ bodyS x pub bs)
def sealF (pub : Int) (dc : List SC) (bs : List UInt8) : List UInt8 × Int := bif !isS pub then ([], 1) else bif decide ((bs.length : Int) > 200) then ([], 1) else (boxS (scalS dc) pub bs, 0)
theorem bodyS_len (x pub : Int) (bs : List UInt8) : (bodyS x pub bs).length = bs.length := streamS_len _ _
theorem boxS_len (x pub : Int) (bs : List UInt8) : (boxS x pub bs).length = 12 + bs.length := by
  unfold boxS
  simp only [List.length_append, bodyS_len, tagB_len]
  show 4 + (8 + bs.length) = _; omega

abbrev seL : List (Nat × Con) := [(fFrom, fromC), (fShared, sharedC), (fPub, pubC), (fFour, fourC), (fStm, stmC), (fTag, tagC), (fConcat, concatC)]
theorem seL_ok : LibOK Try.prog seL := LibOK.cons from_ok (LibOK.cons shared_ok (LibOK.cons pub_ok (LibOK.cons four_ok (LibOK.cons stm_ok (LibOK.cons tag_ok (LibOK.cons concat_ok (LibOK.nil _)))))))
abbrev rseL : List (Nat × Con) := [(frIs, isC), (frFrom, rfromC), (frShared, rsharedC), (fMix, stmC), (frFour, fourC), (frTag, rtagC), (fJoin, joinC)]
theorem rseL_ok : LibOK Try.prog rseL := LibOK.cons ris_ok (LibOK.cons rfrom_ok (LibOK.cons rshared_ok (LibOK.cons mix_ok (LibOK.cons rfour_ok (LibOK.cons rtag_ok (LibOK.cons join_ok (LibOK.nil _)))))))
def errT (e : Int) : SV := .tup [.inl .nils, .inl (.int e)]
section
variable (pub : Int) (dc : List SC) (off n : Nat) (b : Blk)
noncomputable abbrev seX (told : List Bool) := xfunL Try.prog seL 1000 fSeal [.c (.int pub), .agg dc, .c (.slc 0 off 1 n none)] [(0, some b)] 1 told
noncomputable abbrev rseX (told : List Bool) := xfunL Try.prog rseL 1000 frSeal [.c (.int pub), .agg dc, .c (.slc 0 off 1 n none)] [(0, some b)] 1 told
def se0 : Bool := bnd (bnd true (Nat.ble 32 dc.length)) ([SV.agg (hs_ dc)].all SV.sole && h32 (hs_ dc))
theorem se_1 : (seX pub dc off n b [true]).map (fun q => (q.1, q.2.1, q.2.2.1)) = some (tg (se0 dc) (!isS pub) true, [], errT 1) := by kernel_rfl
theorem se_2 : (seX pub dc off n b [false, true]).map (fun q => (q.1, q.2.1, q.2.2.1)) = some (ty_ (tg (se0 dc) (!isS pub) false) (decide ((n : Int) > 200)), [], errT 1) := by kernel_rfl
def seW : List UInt8 := bodyS (scalS (hs_ dc)) pub (rdU off n b)
def ownR (l : List UInt8) : List UInt8 := rdU 0 l.length ⟨l.map SC.u8, tB, true, true⟩
def ownU (l : List UInt8) : Bool := ((((l.map SC.u8).drop 0).take (l.length * 1)).all SC.isU8)
def ownL (l : List UInt8) : Bool := (Nat.ble (0 + l.length * 1) (l.map SC.u8).length && true)
def seY : List UInt8 := fourB (powS 4 (scalS (hs_ dc)))
def seT : List UInt8 := tagB (tagH (hl (shI (scalS (hs_ dc)) pub)) (seY dc) (ownR (seW pub dc off n b)))
def seB : List UInt8 := [seY dc, seT pub dc off n b, ownR (seW pub dc off n b)].flatten
def se3 : Bool := bnd (bnd (bnd (tn (tg (se0 dc) (!isS pub) false) (decide ((n : Int) > 200))) ((((Nat.ble (off + n * 1) b.cells.length && true) && (((b.cells.drop off).take (n * 1)).all SC.isU8 && Nat.ble n 1000000)) && true) && (((seW pub dc off n b).map SC.u8).all SC.sole && true)))
  (((ownL (seW pub dc off n b) && (ownU (seW pub dc off n b) && Nat.ble (seW pub dc off n b).length 1000000)) && true) && true)) (((ownL (seW pub dc off n b) && ownU (seW pub dc off n b)) && true) && Nat.ble (seB pub dc off n b).length 1000000)
def seOb : List Prop := [SV.agg (hc (shI (scalS (hs_ dc)) pub)) = SV.agg (hc (shI (scalS (hs_ dc)) pub))]
theorem se_3 : (seX pub dc off n b [false, false]).map (fun q => (q.1, q.2.1, q.2.2.1, q.2.2.2.blk 149)) = some (se3 pub dc off n b, seOb pub dc, .tup [.inl (.slc 149 0 1 (seB pub dc off n b).length none), .inl (.int 0)], some ⟨(seB pub dc off n b).map SC.u8, tB, true, true⟩) := by kernel_rfl
theorem rse_1 : (rseX pub dc off n b [true]).map (fun q => (q.1, q.2.1, q.2.2.1)) = some (tg true (!isS pub) true, [], errT 1) := by kernel_rfl
theorem rse_2 : (rseX pub dc off n b [false, true]).map (fun q => (q.1, q.2.1, q.2.2.1)) = some (ty_ (tg true (!isS pub) false) (decide ((n : Int) > 200)), [], errT 1) := by kernel_rfl
def rse3 : Bool := bnd (bnd (bnd (bnd (bnd (tn (tg true (!isS pub) false) (decide ((n : Int) > 200))) (Nat.ble 32 dc.length)) (h32 (hs_ dc))) ((((Nat.ble (off + n * 1) b.cells.length && true) && (((b.cells.drop off).take (n * 1)).all SC.isU8 && Nat.ble n 1000000)) && true) && (((seW pub dc off n b).map SC.u8).all SC.sole && true)))
  (((ownL (seW pub dc off n b) && (ownU (seW pub dc off n b) && Nat.ble (seW pub dc off n b).length 1000000)) && true) && true)) (((ownL (seW pub dc off n b) && ownU (seW pub dc off n b)) && true) && Nat.ble (seB pub dc off n b).length 1073741824)
theorem rse_3 : (rseX pub dc off n b [false, false]).map (fun q => (q.1, q.2.1, q.2.2.1, q.2.2.2.blk 157)) = some (rse3 pub dc off n b, [], .tup [.inl (.slc 157 0 1 (seB pub dc off n b).length none), .inl (.int 0)], some ⟨(seB pub dc off n b).map SC.u8, tB, true, true⟩) := by kernel_rfl
end
theorem ownR_eq (l : List UInt8) : ownR l = l := rdU_own l
theorem ownU_eq (l : List UInt8) : ownU l = true := by unfold ownU; rw [List.drop_zero, Nat.mul_one, List.take_of_length_le (by simp), isU8s]
theorem ownL_eq (l : List UInt8) : ownL l = true := by unfold ownL; rw [ble_of (by simp)]; rfl
theorem sole_u8s (l : List UInt8) : (l.map SC.u8).all SC.sole = true := by rw [List.all_eq_true]; intro x hx; obtain ⟨_, _, rfl⟩ := List.mem_map.1 hx; rfl
section
variable {dc : List SC} {bs : List UInt8} {off : Nat} {b : Blk}
theorem dc_eq (h : h32 dc = true) : hs_ dc = dc ∧ dc.length = 32 ∧ dc.all SC.sole = true := by
  obtain ⟨g1, g2⟩ := is32_back h
  rw [List.length_map] at g1
  refine ⟨by unfold hs_; rw [List.drop_zero, List.take_of_length_le (by omega)], g1, ?_⟩
  rw [← g2]; exact sole_u8s _
theorem se0_eq (h : h32 dc = true) : se0 dc = true := by
  obtain ⟨g1, g2, g3⟩ := dc_eq h
  unfold se0
  rw [g1, g2, h]
  simp [SV.sole, g3, bnd]
theorem seW_eq (pub : Int) (h : h32 dc = true) (hr : RowB off b bs) : seW pub dc off bs.length b = bodyS (scalS dc) pub bs := by
  unfold seW
  rw [(dc_eq h).1, rdU_eq hr]
theorem seB_eq (pub : Int) (h : h32 dc = true) (hr : RowB off b bs) : seB pub dc off bs.length b = boxS (scalS dc) pub bs := by
  unfold seB seT seY
  rw [(dc_eq h).1, seW_eq pub h hr, ownR_eq]
  simp [boxS]
theorem rowA_eq (hr : RowB off b bs) (hl : bs.length ≤ 1000000) : ((Nat.ble (off + bs.length * 1) b.cells.length && true) && (((b.cells.drop off).take (bs.length * 1)).all SC.isU8 && Nat.ble bs.length 1000000)) = true := by
  have := hr.len
  rw [hr.cells, Nat.mul_one, List.take_of_length_le (by simp), isU8s, ble_of (by omega), ble_of hl]; rfl
theorem se3_eq {pub : Int} (h : h32 dc = true) (hr : RowB off b bs) (hl : bs.length ≤ 1000000) (hp : isS pub = true) (hb : decide ((bs.length : Int) > 200) = false) : se3 pub dc off bs.length b = true := by
  have hlen : bs.length ≤ 200 := by rw [decide_eq_false_iff_not] at hb; omega
  unfold se3
  rw [seW_eq pub h hr, seB_eq pub h hr, ownL_eq, ownU_eq, sole_u8s, rowA_eq hr hl, ble_of (by rw [bodyS_len]; omega), ble_of (by rw [boxS_len]; omega), tn_eq (tg_eq (se0_eq h) (by rw [hp]; rfl)) hb]; rfl
theorem rse3_eq {pub : Int} (h : h32 dc = true) (hr : RowB off b bs) (hl : bs.length ≤ 1000000) (hp : isS pub = true) (hb : decide ((bs.length : Int) > 200) = false) : rse3 pub dc off bs.length b = true := by
  have hlen : bs.length ≤ 200 := by rw [decide_eq_false_iff_not] at hb; omega
  unfold rse3
  rw [seW_eq pub h hr, seB_eq pub h hr, ownL_eq, ownU_eq, sole_u8s, rowA_eq hr hl, ble_of (show (bodyS (scalS dc) pub bs).length ≤ 1000000 by rw [bodyS_len]; omega), ble_of (show (boxS (scalS dc) pub bs).length ≤ 1073741824 by rw [boxS_len]; omega), tn_eq (tg_eq rfl (by rw [hp]; rfl)) hb, (dc_eq h).1, (dc_eq h).2.1, h]; rfl
end
def resO (q : List UInt8 × Int) : RowO := ⟨⟨q.1.map SC.u8, tB, true, true⟩, q.1.length, none, some [.inl (.int q.2)]⟩
theorem resO_err (e : Int) (T : Tab) : (resO ([], e)).is (errT e) T := .inr ⟨rfl, rfl, rfl, rfl, rfl⟩
theorem resO_ok (l : List UInt8) {k : Nat} {T : Tab} (h : T.blk k = some ⟨l.map SC.u8, tB, true, true⟩) : (resO (l, 0)).is (.tup [.inl (.slc k 0 1 l.length none), .inl (.int 0)]) T := .inl ⟨k, rfl, h⟩
theorem seal_fn (pub : Int) {dc : List SC} {bs : List UInt8} {off : Nat} {b : Blk} (h : h32 dc = true) (hr : RowB off b bs) (hl : bs.length ≤ 1000000) (w : World) : Sx.Fn Try.prog fSeal (atW w 0) [.c (.int pub), .agg dc, .c (.slc 0 off 1 bs.length none)] [(0, some b)] 1 fun r T => (resO (sealF pub dc bs)).is r T := by
  unfold sealF
  cases hp : isS pub with
  | false =>
    have := Fn.xvL (X := atW w 0) seL_ok mixed [true] (se_1 pub dc off bs.length b) (tg_eq (se0_eq h) (by rw [hp]; rfl)) trivial (Post := fun r => r = errT 1) rfl
    exact fun ρ w vs h1 h2 h3 => (this ρ w vs h1 h2 h3).mono fun e w' ⟨u, v, T', ρ', he, hv, h4⟩ => ⟨u, v, T', ρ', he, by rw [hv]; exact resO_err 1 T', h4⟩
  | true =>
  cases hb : decide ((bs.length : Int) > 200) with
  | true =>
    have := Fn.xvL (X := atW w 0) seL_ok mixed [false, true] (se_2 pub dc off bs.length b) (ty_eq (tg_eq (se0_eq h) (by rw [hp]; rfl)) hb) trivial (Post := fun r => r = errT 1) rfl
    exact fun ρ w vs h1 h2 h3 => (this ρ w vs h1 h2 h3).mono fun e w' ⟨u, v, T', ρ', he, hv, h4⟩ => ⟨u, v, T', ρ', he, by rw [hv]; exact resO_err 1 T', h4⟩
  | false =>
    have := Fn.xtL (X := atW w 0) seL_ok mixed [false, false] (se_3 pub dc off bs.length b) (se3_eq h hr hl hp hb) ⟨rfl, trivial⟩
    rw [seB_eq pub h hr] at this
    exact fun ρ w vs h1 h2 h3 => (this ρ w vs h1 h2 h3).mono fun e w' ⟨u, v, T', ρ', he, ⟨hv, hT⟩, h4⟩ => ⟨u, v, T', ρ', he, by rw [hv]; exact resO_ok _ hT, h4⟩
theorem rseal_fn (pub : Int) {dc : List SC} {bs : List UInt8} {off : Nat} {b : Blk} (h : h32 dc = true) (hr : RowB off b bs) (hl : bs.length ≤ 1000000) (w : World) : Sx.Fn Try.prog frSeal (atW w 0) [.c (.int pub), .agg dc, .c (.slc 0 off 1 bs.length none)] [(0, some b)] 1 fun r T => (resO (sealF pub dc bs)).is r T := by
  unfold sealF
  cases hp : isS pub with
  | false =>
    have := Fn.xvL (X := atW w 0) rseL_ok mixed [true] (rse_1 pub dc off bs.length b) (tg_eq rfl (by rw [hp]; rfl)) trivial (Post := fun r => r = errT 1) rfl
    exact fun ρ w vs h1 h2 h3 => (this ρ w vs h1 h2 h3).mono fun e w' ⟨u, v, T', ρ', he, hv, h4⟩ => ⟨u, v, T', ρ', he, by rw [hv]; exact resO_err 1 T', h4⟩
  | true =>
  cases hb : decide ((bs.length : Int) > 200) with
  | true =>
    have := Fn.xvL (X := atW w 0) rseL_ok mixed [false, true] (rse_2 pub dc off bs.length b) (ty_eq (tg_eq rfl (by rw [hp]; rfl)) hb) trivial (Post := fun r => r = errT 1) rfl
    exact fun ρ w vs h1 h2 h3 => (this ρ w vs h1 h2 h3).mono fun e w' ⟨u, v, T', ρ', he, hv, h4⟩ => ⟨u, v, T', ρ', he, by rw [hv]; exact resO_err 1 T', h4⟩
  | false =>
    have := Fn.xtL (X := atW w 0) rseL_ok mixed [false, false] (rse_3 pub dc off bs.length b) (rse3_eq h hr hl hp hb) trivial
    rw [seB_eq pub h hr] at this
    exact fun ρ w vs h1 h2 h3 => (this ρ w vs h1 h2 h3).mono fun e w' ⟨u, v, T', ρ', he, ⟨hv, hT⟩, h4⟩ => ⟨u, v, T', ρ', he, by rw [hv]; exact resO_ok _ hT, h4⟩
/-- A contract: what is sealed, and an error. -/
def sealC (F : Int → List SC → List UInt8 → List UInt8 × Int) : Con := gNew [false, false, true] 1000000 fun ps rs => match ps, rs with | [.c (.int pub), .agg dc], [bs] => some (h32 dc, resO (F pub dc bs)) | _, _ => none
theorem seal_ok {F : Int → List SC → List UInt8 → List UInt8 × Int} (hF : F = sealF) : ConOK Try.prog fSeal (sealC F) := by
  subst hF
  refine gNew_ok (fn := Try.f12) (by kernel_rfl) rfl rfl fun ps rs o h hs hl w rb hrb => ?_
  split at h <;> try (cases h; done)
  rename_i pub dc bs
  simp only [Option.some.injEq, Prod.mk.injEq] at h
  obtain ⟨h32, rfl⟩ := h
  cases hrb with
  | @cons r1 _ _ _ h1 hrb =>
  cases hrb
  obtain ⟨o1, n1, b1⟩ := r1
  obtain ⟨e1, h1⟩ := h1
  simp only at e1 h1
  subst e1
  exact seal_fn pub h32 h1 (hl bs (by simp)) w
theorem rseal_ok {F : Int → List SC → List UInt8 → List UInt8 × Int} (hF : F = sealF) : ConOK Try.prog frSeal (sealC F) := by
  subst hF
  refine gNew_ok (fn := Try.f13) (by kernel_rfl) rfl rfl fun ps rs o h hs hl w rb hrb => ?_
  split at h <;> try (cases h; done)
  rename_i pub dc bs
  simp only [Option.some.injEq, Prod.mk.injEq] at h
  obtain ⟨h32, rfl⟩ := h
  cases hrb with
  | @cons r1 _ _ _ h1 hrb =>
  cases hrb
  obtain ⟨o1, n1, b1⟩ := r1
  obtain ⟨e1, h1⟩ := h1
  simp only at e1 h1
  subst e1
  exact rseal_fn pub h32 h1 (hl bs (by simp)) w

end Go.Proofs.Ytdjimjjemiaokaa.Sl
