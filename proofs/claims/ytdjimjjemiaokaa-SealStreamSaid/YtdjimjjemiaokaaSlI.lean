/-
  The laws of what is sealed, and of what is opened.
-/
import Derived.Test.YtdjimjjemiaokaaSlH
namespace Go.Proofs.Ytdjimjjemiaokaa.Sl
open Go.RowKit Go.Proofs.Ytdjimjjemiaokaa.Sx Go.Proofs.Ytdjimjjemiaokaa.Pw Go.Proofs.Ytdjimjjemiaokaa.Pr
open Go.Proofs.Ytdjimjjemiaokaa.Sp (hc hb deriveS isU8s asU8s tB tH mixed H4)
set_option linter.unusedVariables false

abbrev tL (F : FT) : List (Nat × Con) := [(fSeal, sealC F), (frSeal, sealC F), (fKnown5, knownC)]
theorem tL_ok {F : FT} (hF : F = sealF) : LibOK Try.prog (tL F) := LibOK.cons (seal_ok hF) (LibOK.cons (rseal_ok hF) (LibOK.cons known_ok (LibOK.nil _)))
abbrev oL (O : OT) : List (Nat × Con) := [(fOpen, openC O), (frOpen, ropenC O), (fFrom, fromC), (frFrom, rfromC), (fKnown5, knownC)]
theorem oL_ok {O : OT} (hO : O = openF) : LibOK Try.prog (oL O) := LibOK.cons (open_ok hO) (LibOK.cons (ropen_ok hO) (LibOK.cons from_ok (LibOK.cons rfrom_ok (LibOK.cons known_ok (LibOK.nil _)))))
section
variable (F : FT) (O : OT) (pub : Int) (dc : List SC) (off n : Nat) (b : Blk)
def rowL (off n : Nat) (b : Blk) : Bool := (Nat.ble (off + n * 1) b.cells.length && true) && (((b.cells.drop off).take (n * 1)).all SC.isU8 && Nat.ble n 1000000)
def tQ : List UInt8 × Int := F pub (hs_ dc) (rdU off n b)
/-- What is asked where something is sealed. -/
def seA (dc : List SC) (row : Bool) (q : List UInt8 × Int) : Bool := ((hs_ dc).all SC.sole && (row && true)) && (h32 (hs_ dc) && rok q.1)
def seO (acc : Bool) (dc : List SC) (row : Bool) (q : List UInt8 × Int) : Bool := bnd (bnd acc (Nat.ble 32 dc.length)) (seA dc row q)
def st2 (acc : Bool) (p q : List UInt8) : Bool := bnd (bnd acc (strOk p)) (strOk q)
theorem ts_1 : (xfunL Try.prog (tL F) 1000 3 [.c (.int pub), .agg dc, .c (.slc 0 off 1 n none)] [(0, some b)] 1 [true]).map (fun q => (q.1, q.2.1, q.2.2.1)) = some (ty_ true (decide ((n : Int) > 500)), [], .c (.bool true)) := by kernel_rfl
def ts2 : Bool := tg (tg (st2 (seO (seO (tn true (decide ((n : Int) > 500))) dc (rowL off n b) (tQ F pub dc off n b)) dc (rowL off n b) (tQ F pub dc off n b)) (tQ F pub dc off n b).1 (tQ F pub dc off n b).1) (ownR (tQ F pub dc off n b).1 == ownR (tQ F pub dc off n b).1) true) ((tQ F pub dc off n b).2 == (tQ F pub dc off n b).2) true
theorem ts_2 : (xfunL Try.prog (tL F) 1000 3 [.c (.int pub), .agg dc, .c (.slc 0 off 1 n none)] [(0, some b)] 1 [false, true, true]).map (fun q => (q.1, q.2.1, q.2.2.1)) = some (ts2 F pub dc off n b, [], .c (.bool true)) := by kernel_rfl
/-- A row that was appended to an empty one. -/
def cpB (off n : Nat) (b : Blk) : List SC := [] ++ List.take (n * 1) (List.drop off b.cells)
def cpO (off n : Nat) (b : Blk) : Bool := (Nat.ble (off + n * 1) b.cells.length && true) && (Nat.ble (0 + n) 9223372036854775807 && (Nat.ble ((0 + n) * 1) 140737488355328 && true))
def cpU (off n : Nat) (b : Blk) : List UInt8 := (List.take ((0 + n) * 1) (List.drop 0 (cpB off n b))).map SC.asU8
def cpR (off n : Nat) (b : Blk) (r : List UInt8) : Bool := (Nat.ble (0 + (0 + n) * 1) (cpB off n b).length && true) && ((List.take ((0 + n) * 1) (List.drop 0 (cpB off n b))).all SC.isU8 && (Nat.ble (0 + n) 1000000 && (rok r && true)))
def frO (acc : Bool) (dc : List SC) : Bool := bnd (bnd acc (Nat.ble 32 dc.length)) ([SV.agg (hs_ dc)].all SV.sole && h32 (hs_ dc))
def rfO (acc : Bool) (dc : List SC) : Bool := bnd (bnd acc (Nat.ble 32 dc.length)) (h32 (hs_ dc))
def oP : List UInt8 × Int := O (scalS (hs_ dc)) (cpU off n b)
def oR : List UInt8 × Int := O (scalS (hs_ dc)) (rdU off n b)
theorem os_1 : (xfunL Try.prog (oL O) 1000 4 [.agg dc, .c (.slc 0 off 1 n none)] [(0, some b)] 1 [true]).map (fun q => (q.1, q.2.1, q.2.2.1)) = some (ty_ true (decide ((n : Int) > 500)), [], .c (.bool true)) := by kernel_rfl
def os2 : Bool := tg (tg (st2 (bnd (rfO (bnd (bnd (frO (tn true (decide ((n : Int) > 500))) dc) (cpO off n b)) (cpR off n b (oP O dc off n b).1)) dc) ((rowL off n b && true) && rok (oR O dc off n b).1)) (oP O dc off n b).1 (oR O dc off n b).1) (ownR (oP O dc off n b).1 == ownR (oR O dc off n b).1) true) ((oP O dc off n b).2 == (oR O dc off n b).2) true
theorem os_2 : (xfunL Try.prog (oL O) 1000 4 [.agg dc, .c (.slc 0 off 1 n none)] [(0, some b)] 1 [false, true, true]).map (fun q => (q.1, q.2.1, q.2.2.1)) = some (os2 O dc off n b, [], .c (.bool true)) := by kernel_rfl
end
section
variable {off : Nat} {b : Blk} {bs : List UInt8} {hs : List UInt8}
theorem rowL_eq (h : RowB off b bs) (hl : bs.length ≤ 1000000) : rowL off bs.length b = true := rowA_eq h hl
theorem h32_hs (h : hs.length = 32) : h32 (hs.map SC.u8) = true := is32_of h
theorem seO_eq (h : hs.length = 32) {acc row : Bool} (ha : acc = true) (hr : row = true) (q : List UInt8 × Int) : seO acc (hs.map SC.u8) row q = true := by
  unfold seO seA
  rw [hs_eq h, h32_hs h, rok_eq, sole_u8s, hr, ha, List.length_map, h]; rfl
theorem st2_eq {acc : Bool} (ha : acc = true) (p q : List UInt8) : st2 acc p q = true := by unfold st2; rw [strOk_eq, strOk_eq, ha]; rfl
theorem frO_eq (h : hs.length = 32) {acc : Bool} (ha : acc = true) : frO acc (hs.map SC.u8) = true := by
  unfold frO
  rw [hs_eq h, h32_hs h, ha, List.length_map, h]
  simp only [SV.sole, List.all_cons, List.all_nil, sole_u8s]; rfl
theorem rfO_eq (h : hs.length = 32) {acc : Bool} (ha : acc = true) : rfO acc (hs.map SC.u8) = true := by
  unfold rfO
  rw [hs_eq h, h32_hs h, ha, List.length_map, h]; rfl
theorem cpB_eq (h : RowB off b bs) : cpB off bs.length b = bs.map SC.u8 := by
  unfold cpB
  rw [h.cells, Nat.mul_one, List.take_of_length_le (by simp), List.nil_append]
theorem cp_eq (h : RowB off b bs) (hl : bs.length ≤ 1000000) : cpO off bs.length b = true ∧ cpU off bs.length b = bs ∧ ∀ r, cpR off bs.length b r = true := by
  have hb := h.len
  refine ⟨?_, ?_, fun r => ?_⟩
  · unfold cpO
    rw [ble_of (by omega), ble_of (by omega), ble_of (by omega)]; rfl
  · unfold cpU
    rw [cpB_eq h, List.drop_zero, List.take_of_length_le (by simp), asU8s]
  · unfold cpR
    rw [cpB_eq h, List.drop_zero, List.take_of_length_le (by simp), isU8s, rok_eq, ble_of (by simp), ble_of (by omega)]; rfl
end
theorem tells_gen {F : FT} (hF : F = sealF) (pub : Int) {hs bs : List UInt8} (h32 : hs.length = 32) {off : Nat} {b : Blk} (h : RowB off b bs) (w : World) : Sx.Fn Try.prog 3 (atW w 0) [.c (.int pub), .agg (hs.map SC.u8), .c (.slc 0 off 1 bs.length none)] [(0, some b)] 1 fun r _ => r = .c (.bool true) := by
  cases h1 : decide ((bs.length : Int) > 500) with
  | true => exact Fn.xvL (tL_ok hF) mixed [true] (ts_1 F pub (hs.map SC.u8) off bs.length b) (ty_eq rfl h1) trivial rfl
  | false =>
    have hl : bs.length ≤ 1000000 := by rw [decide_eq_false_iff_not] at h1; omega
    refine Fn.xvL (tL_ok hF) mixed [false, true, true] (ts_2 F pub (hs.map SC.u8) off bs.length b) ?_ trivial rfl
    exact tg_eq (tg_eq (st2_eq (seO_eq h32 (seO_eq h32 (tn_eq rfl h1) (rowL_eq h hl) _) (rowL_eq h hl) _) _ _) (by simp)) (by simp)
theorem sealTells_fn (pub : Int) (hs : List UInt8) (w : World) (h32 : hs.length = 32) {bs : List UInt8} {off : Nat} {b : Blk} (h : RowB off b bs) : Sx.Fn Try.prog 3 (atW w 0) [.c (.int pub), .agg (hs.map SC.u8), .c (.slc 0 off 1 bs.length none)] [(0, some b)] 1 fun r _ => r = .c (.bool true) := tells_gen rfl pub h32 h w
theorem opens_gen {O : OT} (hO : O = openF) {hs bs : List UInt8} (h32 : hs.length = 32) {off : Nat} {b : Blk} (h : RowB off b bs) (w : World) : Sx.Fn Try.prog 4 (atW w 0) [.agg (hs.map SC.u8), .c (.slc 0 off 1 bs.length none)] [(0, some b)] 1 fun r _ => r = .c (.bool true) := by
  cases h1 : decide ((bs.length : Int) > 500) with
  | true => exact Fn.xvL (oL_ok hO) mixed [true] (os_1 O (hs.map SC.u8) off bs.length b) (ty_eq rfl h1) trivial rfl
  | false =>
    have hl : bs.length ≤ 1000000 := by rw [decide_eq_false_iff_not] at h1; omega
    obtain ⟨c1, c2, c3⟩ := cp_eq h hl
    refine Fn.xvL (oL_ok hO) mixed [false, true, true] (os_2 O (hs.map SC.u8) off bs.length b) ?_ trivial rfl
    have e : oP O (hs.map SC.u8) off bs.length b = oR O (hs.map SC.u8) off bs.length b := by unfold oP oR; rw [c2, rdU_eq h]
    unfold os2
    rw [c1, c3, e, rok_eq, rowL_eq h hl]
    exact tg_eq (tg_eq (st2_eq (by rw [rfO_eq h32 (show bnd (bnd (frO (tn true (decide ((bs.length : Int) > 500))) (hs.map SC.u8)) true) true = true by rw [frO_eq h32 (tn_eq rfl h1)]; rfl)]; rfl) _ _) (by simp)) (by simp)
theorem sealOpens_fn (hs : List UInt8) (w : World) (h32 : hs.length = 32) {bs : List UInt8} {off : Nat} {b : Blk} (h : RowB off b bs) : Sx.Fn Try.prog 4 (atW w 0) [.agg (hs.map SC.u8), .c (.slc 0 off 1 bs.length none)] [(0, some b)] 1 fun r _ => r = .c (.bool true) := opens_gen rfl h32 h w

end Go.Proofs.Ytdjimjjemiaokaa.Sl
