/-
  Operations as bytes stand one behind the other.
-/
import Derived.Test.YtjjnmafoakoenaaVwX
namespace Go.Proofs.Ytjjnmafoakoenaa.Vw
open Go.RowKit Go.Proofs.Ytjjnmafoakoenaa.Sx Go.Proofs.Ytjjnmafoakoenaa.Pw
set_option linter.unusedVariables false
set_option linter.unusedSimpArgs false

abbrev fRows : Nat := 12
abbrev rwL (O : List Ope → List UInt8) : List (Nat × Con) := [(fOps, opsBC), (fKnown, knownC)]
noncomputable abbrev rwX (told : List Bool) (o1 n1 : Nat) (c1 : List SC) (t1 o2 n2 : Nat) (c2 : List SC) (t2 : TypeId) := (xfunL Try.prog (rwL opsBy) 1000 fRows [.c (.slc 0 o1 5 n1 none), .c (.slc 1 o2 5 n2 none)] [(0, some ⟨c1, t1, true, false⟩), (1, some ⟨c2, t2, true, false⟩)] 2 told).map (fun q => (q.1, q.2.1, q.2.2.1))
def bsU (r : RB) : List SC := (opsBy (opsL r)).map SC.u8
def opsN (r : RB) : Bool := (r.b.cells.all SC.sole && true) && ((okOps r && Nat.ble r.n 1000000) && ((bsU r).all SC.sole && true))
def cat1 (o1 n1 : Nat) (c1 : List SC) : List SC := (c1.drop o1).take (n1 * 5)
def cat2 (o1 n1 : Nat) (c1 : List SC) (o2 n2 : Nat) (c2 : List SC) : List SC := (cat1 o1 n1 c1).take ((0 + n1) * 5) ++ (c2.drop o2).take (n2 * 5)
def catR (o1 n1 : Nat) (c1 : List SC) (o2 n2 : Nat) (c2 : List SC) : RB := ⟨0, 0 + n1 + n2, ⟨cat2 o1 n1 c1 o2 n2 c2, 46, true, false⟩⟩
def cv (n : Nat) (r : RB) (acc : Bool) : Bool := bnd acc ((Nat.ble (0 + n * 1) (bsU r).length && true) && (((bsU r).drop 0).take (n * 1)).all SC.isU8)
def sU (n : Nat) (r : RB) : List UInt8 := (((bsU r).drop 0).take (n * 1)).map SC.asU8
def sE (n : Nat) (r : RB) : Prop := SV.c (.str (sU n r)) = SV.c (.str (sU n r))
section
variable (o1 n1 : Nat) (c1 : List SC) (t1 : TypeId) (o2 n2 : Nat) (c2 : List SC) (t2 : TypeId)
def rwA1 : Bool := bnd (bnd (tn (tg true (decide ((n1 : Int) > 20)) false) (decide ((n2 : Int) > 20))) (opsN (rbO o1 n1 c1 t1))) (opsN (rbO o2 n2 c2 t2))
def rwA2 (acc : Bool) : Bool :=
  bnd (bnd acc ((Nat.ble (o1 + n1 * 5) c1.length && true) && (Nat.ble (0 + n1) maxLen && (Nat.ble ((0 + n1) * 40) 140737488355328 && true)))) ((Nat.ble (o2 + n2 * 5) c2.length && true) && (Nat.ble (0 + n1 + n2) maxLen && (Nat.ble ((0 + n1 + n2) * 40) 140737488355328 && Nat.ble ((0 + n1) * 5) (cat1 o1 n1 c1).length)))
def rwA3 (acc : Bool) : Bool := bnd (cv (40 * n2) (rbO o2 n2 c2 t2) (cv (40 * n1) (rbO o1 n1 c1 t1) (cv (40 * (0 + n1 + n2)) (catR o1 n1 c1 o2 n2 c2) (bnd acc (opsN (catR o1 n1 c1 o2 n2 c2)))))) (decide ((sU (40 * n1) (rbO o1 n1 c1 t1)).length + (sU (40 * n2) (rbO o2 n2 c2 t2)).length ≤ 9223372036854775807))
def rwA4 (acc : Bool) : Bool := cv (40 * n1) (rbO o1 n1 c1 t1) (cv (40 * n1) (rbO o1 n1 c1 t1) (cv (40 * n2) (rbO o2 n2 c2 t2) (cv (40 * n2) (rbO o2 n2 c2 t2) acc)))
theorem rw_1 : rwX [true] o1 n1 c1 t1 o2 n2 c2 t2 = some (tg true (decide ((n1 : Int) > 20)) true, [], .c (.bool true)) := by kernel_rfl
theorem rw_2 : rwX [false, true] o1 n1 c1 t1 o2 n2 c2 t2 = some (ty_ (tg true (decide ((n1 : Int) > 20)) false) (decide ((n2 : Int) > 20)), [], .c (.bool true)) := by kernel_rfl
theorem rw_3 : rwX [false, false, true, true] o1 n1 c1 t1 o2 n2 c2 t2 =
    some (rwA4 o1 n1 c1 t1 o2 n2 c2 t2 (tg (rwA3 o1 n1 c1 t1 o2 n2 c2 t2 (rwA2 o1 n1 c1 o2 n2 c2 (tg (rwA1 o1 n1 c1 t1 o2 n2 c2 t2) (((40 * n1 : Nat) : Int) == IntKind.i64.wrap (40 * n1)) true)))
      (sU (40 * (0 + n1 + n2)) (catR o1 n1 c1 o2 n2 c2) == sU (40 * n1) (rbO o1 n1 c1 t1) ++ sU (40 * n2) (rbO o2 n2 c2 t2)) true),
      [sE (40 * n1) (rbO o1 n1 c1 t1), sE (40 * n1) (rbO o1 n1 c1 t1), sE (40 * n2) (rbO o2 n2 c2 t2), sE (40 * n2) (rbO o2 n2 c2 t2)], .c (.bool true)) := by kernel_rfl
end

theorem okOps_len {r : RB} (h : okOps r = true) : r.off + r.n * 5 ≤ r.b.cells.length := by
  unfold okOps at h
  simp only [Bool.and_eq_true, Nat.ble_eq] at h
  exact h.1
theorem bsU_len (r : RB) : (bsU r).length = 40 * r.n := by
  unfold bsU
  rw [List.length_map, opsBy_len]
  unfold opsL; simp
theorem opsN_eq {r : RB} (hr : RBok r) (ho : okOps r = true) (hn : r.n ≤ 1000000) : opsN r = true := by
  unfold opsN
  have : (bsU r).all SC.sole = true := by unfold bsU; simp [List.all_eq_true, SC.sole]
  rw [hr.2.2, ho, this, show Nat.ble r.n 1000000 = true by rw [Nat.ble_eq]; exact hn]; rfl
theorem cv_eq (r : RB) {acc : Bool} (ha : acc = true) : cv (40 * r.n) r acc = true := by
  unfold cv
  refine bnds ha ?_
  have hl := bsU_len r
  rw [List.drop_zero, List.take_of_length_le (by omega)]
  have : (bsU r).all SC.isU8 = true := by unfold bsU; exact Sp.isU8s _
  rw [this, show Nat.ble (0 + 40 * r.n * 1) (bsU r).length = true by rw [Nat.ble_eq]; omega]; rfl
theorem sU_eq (r : RB) : sU (40 * r.n) r = opsBy (opsL r) := by
  unfold sU
  have hl := bsU_len r
  rw [List.drop_zero, List.take_of_length_le (by omega)]
  unfold bsU
  rw [List.map_map]
  exact List.map_id'' (fun _ => rfl) _
section
variable {o1 n1 : Nat} {c1 : List SC} {o2 n2 : Nat} {c2 : List SC}
theorem cat1_len (h1 : o1 + n1 * 5 ≤ c1.length) : (cat1 o1 n1 c1).length = n1 * 5 := by unfold cat1; simp; omega
theorem cat2_eq (h1 : o1 + n1 * 5 ≤ c1.length) : cat2 o1 n1 c1 o2 n2 c2 = cat1 o1 n1 c1 ++ cat1 o2 n2 c2 := by
  have := cat1_len h1
  unfold cat2
  rw [List.take_of_length_le (by omega)]; rfl
theorem cat1_get (j : Nat) (hj : j < n1 * 5) : (cat1 o1 n1 c1).getD j .nilp = c1.getD (o1 + j) .nilp := by
  unfold cat1
  rw [List.getD_eq_getElem?_getD, List.getD_eq_getElem?_getD, List.getElem?_take, if_pos hj, List.getElem?_drop]
theorem cat_l (h1 : o1 + n1 * 5 ≤ c1.length) (j : Nat) (hj : j < n1 * 5) : (cat2 o1 n1 c1 o2 n2 c2).getD j .nilp = c1.getD (o1 + j) .nilp := by
  rw [cat2_eq h1, ← cat1_get j hj, List.getD_eq_getElem?_getD, List.getD_eq_getElem?_getD, List.getElem?_append_left (by rw [cat1_len h1]; exact hj)]
theorem cat_r (h1 : o1 + n1 * 5 ≤ c1.length) (j : Nat) (hj : j < n2 * 5) : (cat2 o1 n1 c1 o2 n2 c2).getD (n1 * 5 + j) .nilp = c2.getD (o2 + j) .nilp := by
  rw [cat2_eq h1, ← cat1_get (o1 := o2) (n1 := n2) (c1 := c2) j hj, List.getD_eq_getElem?_getD, List.getD_eq_getElem?_getD, List.getElem?_append_right (by rw [cat1_len h1]; omega), cat1_len h1]
  congr 3; omega
theorem catR_opsL (h1 : o1 + n1 * 5 ≤ c1.length) (t1 t2 : TypeId) : opsL (catR o1 n1 c1 o2 n2 c2) = opsL (rbO o1 n1 c1 t1) ++ opsL (rbO o2 n2 c2 t2) := by
  unfold opsL
  show (List.range (0 + n1 + n2)).map _ = (List.range n1).map _ ++ (List.range n2).map _
  rw [Nat.zero_add, List.range_add, List.map_append, List.map_map]
  congr 1
  · refine List.map_congr_left fun i hi => ?_
    rw [List.mem_range] at hi
    unfold opAt gI
    show Ope.mk ((cat2 o1 n1 c1 o2 n2 c2).getD (0 + i * 5) .nilp).asInt ((cat2 o1 n1 c1 o2 n2 c2).getD (0 + i * 5 + 1) .nilp).asInt ((cat2 o1 n1 c1 o2 n2 c2).getD (0 + i * 5 + 1 + 1) .nilp).asInt ((cat2 o1 n1 c1 o2 n2 c2).getD (0 + i * 5 + 1 + 1 + 1) .nilp).asInt ((cat2 o1 n1 c1 o2 n2 c2).getD (0 + i * 5 + 1 + 1 + 1 + 1) .nilp).asInt = _
    rw [Nat.zero_add, cat_l h1 _ (by omega), cat_l h1 _ (by omega), cat_l h1 _ (by omega), cat_l h1 _ (by omega), cat_l h1 _ (by omega)]
    rfl
  · refine List.map_congr_left fun i hi => ?_
    rw [List.mem_range] at hi
    unfold opAt gI
    show Ope.mk ((cat2 o1 n1 c1 o2 n2 c2).getD (0 + (n1 + i) * 5) .nilp).asInt ((cat2 o1 n1 c1 o2 n2 c2).getD (0 + (n1 + i) * 5 + 1) .nilp).asInt ((cat2 o1 n1 c1 o2 n2 c2).getD (0 + (n1 + i) * 5 + 1 + 1) .nilp).asInt ((cat2 o1 n1 c1 o2 n2 c2).getD (0 + (n1 + i) * 5 + 1 + 1 + 1) .nilp).asInt ((cat2 o1 n1 c1 o2 n2 c2).getD (0 + (n1 + i) * 5 + 1 + 1 + 1 + 1) .nilp).asInt = _
    have e : ∀ j, 0 + (n1 + i) * 5 + j = n1 * 5 + (i * 5 + j) := fun j => by omega
    rw [show 0 + (n1 + i) * 5 = n1 * 5 + i * 5 by omega, Nat.add_assoc (n1 * 5), Nat.add_assoc (n1 * 5), Nat.add_assoc (n1 * 5), Nat.add_assoc (n1 * 5)]
    rw [cat_r h1 _ (by omega), cat_r h1 _ (by omega), cat_r h1 _ (by omega), cat_r h1 _ (by omega), cat_r h1 _ (by omega)]
    rfl
theorem cat_all {p : SC → Bool} (h1 : o1 + n1 * 5 ≤ c1.length) (hp1 : ((c1.drop o1).take (n1 * 5)).all p = true) (hp2 : ((c2.drop o2).take (n2 * 5)).all p = true) : (cat2 o1 n1 c1 o2 n2 c2).all p = true := by
  rw [cat2_eq h1, List.all_append]
  unfold cat1
  rw [hp1, hp2]; rfl
end
theorem sub_all {p : SC → Bool} {c : List SC} (o m : Nat) (h : c.all p = true) : ((c.drop o).take m).all p = true := by
  rw [List.all_eq_true] at h ⊢
  intro x hx
  exact h x (List.mem_of_mem_drop (List.mem_of_mem_take hx))
theorem rwL_ok : LibOK Try.prog (rwL opsBy) := LibOK.cons opsB_ok (LibOK.cons known_ok (LibOK.nil _))
theorem viewRows_fn (a b : RB) (ha : RBok a) (oa : okOps a = true) (hb : RBok b) (ob : okOps b = true) (w : World) : Sx.Fn Try.prog fRows (atW w 0) [.c (.slc 0 a.off 5 a.n none), .c (.slc 1 b.off 5 b.n none)] [(0, some a.b), (1, some b.b)] 2 fun x _ => x = .c (.bool true) := by
  obtain ⟨o1, n1, c1, t1, tail1, own1⟩ := a
  obtain ⟨o2, n2, c2, t2, tail2, own2⟩ := b
  obtain ⟨hown, htail, hs1⟩ := ha
  simp only at hown htail
  subst hown htail
  obtain ⟨hown, htail, hs2⟩ := hb
  simp only at hown htail
  subst hown htail
  have ha : RBok (rbO o1 n1 c1 t1) := ⟨rfl, rfl, hs1⟩
  have hb : RBok (rbO o2 n2 c2 t2) := ⟨rfl, rfl, hs2⟩
  have oa : okOps (rbO o1 n1 c1 t1) = true := oa
  have ob : okOps (rbO o2 n2 c2 t2) = true := ob
  have l1 : o1 + n1 * 5 ≤ c1.length := okOps_len oa
  have l2 : o2 + n2 * 5 ≤ c2.length := okOps_len ob
  have hM : maxLen = 9223372036854775807 := rfl
  cases h1 : decide ((n1 : Int) > 20) with
  | true => exact Fn.xvL rwL_ok Sp.mixed [true] (rw_1 o1 n1 c1 t1 o2 n2 c2 t2) (tg_eq rfl h1) trivial rfl
  | false =>
  cases h2 : decide ((n2 : Int) > 20) with
  | true => exact Fn.xvL rwL_ok Sp.mixed [false, true] (rw_2 o1 n1 c1 t1 o2 n2 c2 t2) (ty_eq (tg_eq rfl h1) h2) trivial rfl
  | false =>
  have b1 : n1 ≤ 20 := by rw [decide_eq_false_iff_not] at h1; omega
  have b2 : n2 ≤ 20 := by rw [decide_eq_false_iff_not] at h2; omega
  have i1 : ((c1.drop o1).take (n1 * 5)).all SC.isInt = true := by have h := oa; unfold okOps at h; rw [Bool.and_eq_true] at h; exact h.2
  have i2 : ((c2.drop o2).take (n2 * 5)).all SC.isInt = true := by have h := ob; unfold okOps at h; rw [Bool.and_eq_true] at h; exact h.2
  have hc : RBok (catR o1 n1 c1 o2 n2 c2) := ⟨rfl, rfl, cat_all l1 (sub_all _ _ hs1) (sub_all _ _ hs2)⟩
  have hcl : (cat2 o1 n1 c1 o2 n2 c2).length = (n1 + n2) * 5 := by rw [cat2_eq l1, List.length_append, cat1_len l1, cat1_len l2]; omega
  have oc : okOps (catR o1 n1 c1 o2 n2 c2) = true := by
    unfold okOps
    show (Nat.ble (0 + (0 + n1 + n2) * 5) (cat2 o1 n1 c1 o2 n2 c2).length && (((cat2 o1 n1 c1 o2 n2 c2).drop 0).take ((0 + n1 + n2) * 5)).all SC.isInt) = true
    rw [sub_all _ _ (cat_all l1 i1 i2), show Nat.ble (0 + (0 + n1 + n2) * 5) (cat2 o1 n1 c1 o2 n2 c2).length = true by rw [Nat.ble_eq, hcl]; omega]; rfl
  have s1 : sU (40 * n1) (rbO o1 n1 c1 t1) = opsBy (opsL (rbO o1 n1 c1 t1)) := sU_eq (rbO o1 n1 c1 t1)
  have s2 : sU (40 * n2) (rbO o2 n2 c2 t2) = opsBy (opsL (rbO o2 n2 c2 t2)) := sU_eq (rbO o2 n2 c2 t2)
  have s3 : sU (40 * (0 + n1 + n2)) (catR o1 n1 c1 o2 n2 c2) = opsBy (opsL (catR o1 n1 c1 o2 n2 c2)) := sU_eq (catR o1 n1 c1 o2 n2 c2)
  have y1 : (opsBy (opsL (rbO o1 n1 c1 t1))).length = 40 * n1 := by rw [opsBy_len]; unfold opsL; simp [rbO]
  have y2 : (opsBy (opsL (rbO o2 n2 c2 t2))).length = 40 * n2 := by rw [opsBy_len]; unfold opsL; simp [rbO]
  refine Fn.xvL rwL_ok Sp.mixed [false, false, true, true] (rw_3 o1 n1 c1 t1 o2 n2 c2 t2) ?_ ⟨rfl, rfl, rfl, rfl, trivial⟩ rfl
  have A1 : rwA1 o1 n1 c1 t1 o2 n2 c2 t2 = true := bnds (bnds (tn_eq (tg_eq rfl h1) h2) (opsN_eq ha oa (by show n1 ≤ 1000000; omega))) (opsN_eq hb ob (by show n2 ≤ 1000000; omega))
  have A2 : rwA2 o1 n1 c1 o2 n2 c2 (tg (rwA1 o1 n1 c1 t1 o2 n2 c2 t2) (((40 * n1 : Nat) : Int) == IntKind.i64.wrap (40 * n1)) true) = true := by
    refine bnds (bnds (tg_eq A1 ?_) ?_) ?_
    · rw [wrapN (show (0 : Int) ≤ 40 * (n1 : Int) by omega) (by omega)]
      simp
    · simp only [Bool.and_eq_true, Nat.ble_eq, and_true]; omega
    · have := cat1_len l1
      simp only [Bool.and_eq_true, Nat.ble_eq, and_true]; omega
  have A3 : rwA3 o1 n1 c1 t1 o2 n2 c2 t2 (rwA2 o1 n1 c1 o2 n2 c2 (tg (rwA1 o1 n1 c1 t1 o2 n2 c2 t2) (((40 * n1 : Nat) : Int) == IntKind.i64.wrap (40 * n1)) true)) = true := by
    refine bnds (cv_eq (rbO o2 n2 c2 t2) (cv_eq (rbO o1 n1 c1 t1) (cv_eq (catR o1 n1 c1 o2 n2 c2) (bnds A2 (opsN_eq hc oc (by show 0 + n1 + n2 ≤ 1000000; omega)))))) ?_
    rw [s1, s2, y1, y2]
    exact decide_eq_true (by omega)
  refine cv_eq (rbO o1 n1 c1 t1) (cv_eq (rbO o1 n1 c1 t1) (cv_eq (rbO o2 n2 c2 t2) (cv_eq (rbO o2 n2 c2 t2) (tg_eq A3 ?_))))
  rw [s1, s2, s3, catR_opsL l1 t1 t2, opsBy_app]
  simp

end Go.Proofs.Ytjjnmafoakoenaa.Vw
