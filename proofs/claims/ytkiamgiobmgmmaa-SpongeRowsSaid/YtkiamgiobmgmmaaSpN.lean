/-
  The law of rows: how bytes are parted into rows does not matter.
-/
import Derived.Test.YtkiamgiobmgmmaaSpM
namespace Go.Proofs.Ytkiamgiobmgmmaa.Sp
open Go.RowKit Go.Proofs.Ytkiamgiobmgmmaa.Sx
set_option linter.unusedVariables false

def rwI (off n : Nat) (b : Blk) (a : Int × Nat × List SC) : St := ⟨[(0, .c (.slc 0 off 1 n none)), (3, .c (.slc 1 0 1 a.2.1 none)), (4, .c (.int a.1))], [(0, some b), (1, some ⟨a.2.2, tB, true, true⟩)], 2, 49⟩
section
variable (off n : Nat) (b : Blk) (i l : Nat) (cs : List SC) (g : Bool)
def rwE : SV := .c (b.cells.getD (off + i * 1) .nilp)
def rwG : Bool := decide ((i : Int) > 200)
def rwH : Bool := decide (IntKind.i64.wrap ((l : Int) + (rwE off b i).sliN) > 1500)
/-- What the guarded operations ask. -/
def rwO : Bool := bnd (bnd (bnd (bnd (bnd (bnd (bnd (bnd (bnd (bnd true (decide ((i : Int) < n))) (rwG i == g && true)) (rwG i == g && true)) (rwG i == g && true)) (rwG i == g && true))
  (rwG i == g && bif g then true else (decide (0 ≤ (i : Int)) && (Nat.blt i n && true)))) (rwG i == g && bif g then true else (Nat.blt (off + i * 1) b.cells.length && true))) (rwG i == g && bif g then true else (rwE off b i).sliOk)) (rwG i == g && true)) (rwG i == g && true)
def rwT : Tab := [(0, some b), (1, some ⟨cs, tB, true, true⟩)]
def rwA : Bool := bnd (bnd (bnd (bnd (bnd (rwO off n b i false) (!(bif rwG i then true else rwH off b i l))) (decide (0 ≤ (i : Int)) && (Nat.blt i n && true))) (Nat.blt (off + i * 1) b.cells.length && true))
        (srcOk (rwT b cs) 1 (rwE off b i) && (Nat.ble (l + srcN (rwE off b i)) maxLen && (Nat.ble ((l + srcN (rwE off b i)) * 1) 140737488355328 && Nat.ble (l * 1) cs.length))))
        ((b.cells.all SC.plain) && ((cs.take (l * 1) ++ srcC (rwT b cs) (rwE off b i)).all SC.plain && true))
end
abbrev fRows : Nat := 10
def rwCut (j : Nat) : Cut := ⟨[(0, false), (3, false), (4, true)], [(0, 0, true), (j, 1, true)], 2⟩

section
variable (off n : Nat) (b : Blk) (l : Nat) (cs : List SC)
def rwU : Tab := (14, some ⟨[SC.slc 1 0 1 l none], tRow, false, true⟩) :: rwT b cs
def rwL (lim : Nat) (T : Tab) : Bool := (Nat.ble (off + n * 1) b.cells.length && true) && ((rd off n b).all (rowOk T) && (Nat.ble (rowsOf T (.slc 0 off 1 n none)).length lim && Nat.ble (rowsOf T (.slc 0 off 1 n none)).flatten.length lim))
def rwM (lim : Nat) : Bool := (((Nat.ble (0 + l * 1) cs.length && true) && (rd 0 l ⟨cs, tB, true, true⟩).all SC.isU8) && true) && Nat.ble ([rdB 0 l ⟨cs, tB, true, true⟩]).flatten.length lim
def zb : List UInt8 := List.replicate 32 0
def rwV : Bool := eqH (sumS (rowsOf (rwT b cs) (.slc 0 off 1 n none)).flatten) (sumS [rdB 0 l ⟨cs, tB, true, true⟩].flatten)
def rwW : Bool := eqH (deriveS zb [120] (rowsOf (rwU b l cs) (.slc 0 off 1 n none)).flatten) (deriveS zb [120] [rdB 0 l ⟨cs, tB, true, true⟩].flatten)
def rwZ : Bool := bif rwV off n b l cs then rwW off n b l cs else false
def rwX (x : Bool) : Bool := rwV off n b l cs == true && x
def rwF : Bool := bnd (bnd (bnd (bnd (bnd (bnd (bnd (bnd (bnd (bnd (bnd true (rwL off n b sumLim (rwT b cs))) (rwM l cs sumLim)) (rwX off n b l cs true)) (rwX off n b l cs true)) (rwX off n b l cs (rwL off n b 1073741824 (rwU b l cs)))) (rwX off n b l cs true)) (rwX off n b l cs true)) (rwX off n b l cs true)) (rwX off n b l cs (rwM l cs 1073741824))) (rwX off n b l cs true)) (rwZ off n b l cs == true && true)
end

theorem rw_row {n : Nat} {rows : List (List UInt8)} {w : World} {off : Nat} {b : Blk} {rs : List (Value × List UInt8)} (hrs : rs.map (·.2) = rows) (h : RowsB w off b rs) (hlt : n < rows.length) : ∃ u, rwE off b n = .c (.row rows[n] u) := by
  have hrl : rs.length = rows.length := by rw [← hrs, List.length_map]
  refine ⟨(rs[n]'(by omega)).1, ?_⟩
  unfold rwE
  rw [Nat.mul_one, rows_get h (by omega)]
  congr 2
  subst hrs; simp
theorem rw_rowsOf {w : World} {off : Nat} {b : Blk} {rs : List (Value × List UInt8)} {T : Tab} (hT : T.blk 0 = some b) (h : RowsB w off b rs) : srcC T (.c (.slc 0 off 1 rs.length none)) = rs.map rowSC := by
  simp only [srcC, hT]
  rw [h.cells, Nat.mul_one, List.take_of_length_le (by simp)]
theorem rw_rows {w : World} {off : Nat} {b : Blk} {rs : List (Value × List UInt8)} {T : Tab} (hT : T.blk 0 = some b) (h : RowsB w off b rs) : rowsOf T (.slc 0 off 1 rs.length none) = rs.map (·.2) := by
  unfold rowsOf
  rw [rw_rowsOf hT h, List.map_map]
  congr 1
  funext p
  simp only [Function.comp, rowSC, srcC, asU8s]
theorem rw_ok {w : World} {off : Nat} {b : Blk} {rs : List (Value × List UInt8)} (T : Tab) (h : RowsB w off b rs) : (rd off rs.length b).all (rowOk T) = true := by
  rw [rd_rows h, List.all_eq_true]
  intro y hy
  obtain ⟨p, _, rfl⟩ := List.mem_map.1 hy
  show (true && (Nat.beq 1 1 && (p.2.map SC.u8).all SC.isU8)) = true
  rw [isU8s]; rfl

set_option maxRecDepth 10000 in
theorem spongeRows_fn {rows : List (List UInt8)} (w : World) {off : Nat} {b : Blk} {rs : List (Value × List UInt8)} (hrs : rs.map (·.2) = rows) (h : RowsB w off b rs) (hb : ∀ p ∈ rs, p.2.length ≤ 140737488351232) :
    Sx.Fn Try.prog fRows (atW w 0) [.c (.slc 0 off 1 rs.length none)] [(0, some b)] 1 fun r _ => r = .c (.bool true) := by
  have hS : sumLim = 1099511627776 := rfl
  have hM : maxLen = 9223372036854775807 := rfl
  have hpl := h.plain
  have hbl := h.len
  have hrl : rs.length = rows.length := by rw [← hrs, List.length_map]
  have hb' : ∀ r ∈ rows, r.length ≤ 140737488351232 := fun r hr => by
    rw [← hrs] at hr
    obtain ⟨p, hp, rfl⟩ := List.mem_map.1 hr
    exact hb p hp
  rw [hrl] at hbl ⊢
  refine Sx.Fn.of (nt := 49) (by kernel_rfl) rfl ?_
  refine SWs.step (LibOK.nil _) mixed (fuel := 1000) (n := 3) (told := []) (un := [(3, 1, tB)]) (c := rwCut 13) (t := rwI off rows.length b (0, 0, [])) (ob := bnd true (b.cells.all SC.plain && true)) (obs := []) (by kernel_rfl) (by simp [bnd_true, hpl]) trivial ?_
  refine SWs.loop (by kernel_rfl) (rwI off rows.length b) (fun a => (rows.length - a.1).toNat) (fun a => ∃ n : Nat, a.1 = n ∧ n ≤ rows.length ∧ n ≤ 201 ∧ (gone rows n).length ≤ 1500 ∧ a.2.1 = (gone rows n).length ∧ a.2.2 = (gone rows n).map SC.u8) (0, 0, []) ⟨0, rfl, by omega, by omega, by simp [gone], rfl, rfl⟩ ?_
  rintro ⟨i, l, cs⟩ ⟨n, hn, hle, h201, h1500, hl1, hcs⟩
  simp only at hn hl1 hcs
  subst hn hl1 hcs
  have hpa := plainU8 (gone rows n)
  by_cases hlt : n < rows.length
  · obtain ⟨u, hE⟩ := rw_row hrs h hlt
    have hbn : rows[n].length ≤ 140737488351232 := hb' _ (List.getElem_mem _)
    have hO : ∀ g, rwG n = g → rwO off rows.length b n g = true := fun g hg => by
      unfold rwO
      rw [hg, hE]
      cases g
      · simp only [cond_false, SV.sliOk, bnd_true, Bool.and_eq_true, Nat.blt_eq, decide_eq_true_eq, beq_self_eq_true, and_true, true_and]
        omega
      · simp only [cond_true, bnd_true, Bool.and_eq_true, decide_eq_true_eq, beq_self_eq_true, and_true, true_and]
        omega
    by_cases hG : (n : Int) > 200
    · have hg : rwG n = true := by simp only [rwG, decide_eq_true hG]
      exact SWs.ret (LibOK.nil _) mixed (f := fRows) (fuel := 1000) (n := 4) (told := [true, true, true]) (v := .c (.bool true)) (ob := bnd (rwO off rows.length b n true) (rwG n)) (obs := []) (Post := fun r _ => r = .c (.bool true)) (by kernel_rfl) (by rw [hO true hg, hg]; rfl) trivial (fun _ => rfl) fun _ h => h
    have hg : rwG n = false := by simp only [rwG, decide_eq_false hG]
    cases hH : rwH off b n (gone rows n).length with
    | true => exact SWs.ret (LibOK.nil _) mixed (f := fRows) (fuel := 1000) (n := 4) (told := [true, false, true]) (v := .c (.bool true)) (ob := bnd (rwO off rows.length b n false) (bif rwG n then true else rwH off b n (gone rows n).length)) (obs := []) (Post := fun r _ => r = .c (.bool true)) (by kernel_rfl) (by rw [hO false hg, hg, hH]; rfl) trivial (fun _ => rfl) fun _ h => h
    | false =>
    have hsum : (gone rows n).length + rows[n].length ≤ 1500 := by
      simp only [rwH, hE, SV.sliN, decide_eq_false_iff_not] at hH
      rw [wrap_id (by omega) (by omega)] at hH; omega
    refine SWs.round (LibOK.nil _) mixed (fuel := 1000) (n := 4) (told := [true, false, false]) (un := []) (c := rwCut 90) (t := rwI off rows.length b (IntKind.i64.wrap (n + 1), (gone rows n).length + srcN (rwE off b n), ((gone rows n).map SC.u8).take ((gone rows n).length * 1) ++ srcC (rwT b ((gone rows n).map SC.u8)) (rwE off b n)))
      (ob := rwA off rows.length b n (gone rows n).length ((gone rows n).map SC.u8)) (obs := []) (by kernel_rfl) (by kernel_rfl) ?_ trivial ?_
    · unfold rwA
      rw [hO false hg, hg, hH, hE]
      simp only [srcN, srcC, srcOk]
      rw [own_take, ← List.map_append, plainU8, hpl]
      simp only [cond_false, Bool.not_false, bnd_true, Bool.and_eq_true, Nat.ble_eq, Nat.blt_eq, decide_eq_true_eq, List.length_map, and_true, true_and, Nat.beq_refl]
      omega
    · rw [hE]
      simp only [srcN, srcC]
      rw [own_take, ← List.map_append]
      have hw : IntKind.i64.wrap ((n : Int) + 1) = ((n + 1 : Nat) : Int) := wrap_succ (by omega)
      refine ⟨_, ⟨n + 1, hw, by omega, by omega, ?_, ?_, ?_⟩, ?_, rfl⟩
      · rw [gone_succ hlt, List.length_append]; omega
      · rw [gone_succ hlt, List.length_append]
      · rw [gone_succ hlt]
      · simp only [hw]; omega
  · have he : n = rows.length := by omega
    subst he
    have hg : gone rows rows.length = rows.flatten := by simp [gone]
    refine SWs.out (LibOK.nil _) mixed (fuel := 1000) (n := 2) (told := [false]) (un := []) (c := rwCut 1) (t := rwI off rows.length b ((rows.length : Int), (gone rows rows.length).length, (gone rows rows.length).map SC.u8))
      (ob := bnd (bnd true (!decide ((rows.length : Int) < rows.length))) ((b.cells.all SC.plain) && (((gone rows rows.length).map SC.u8).all SC.plain && true))) (obs := []) (by kernel_rfl) (by simp only [hpl, hpa]; simp [bnd_true]) trivial ?_
    rw [hg] at h1500 ⊢
    have hV : rwV off rows.length b rows.flatten.length (rows.flatten.map SC.u8) = true := by
      unfold rwV
      rw [rdB_own, ← hrl, rw_rows rfl h, hrs]
      simp only [List.flatten_cons, List.flatten_nil, List.append_nil]; exact eqH_self _
    have hW : rwW off rows.length b rows.flatten.length (rows.flatten.map SC.u8) = true := by
      unfold rwW
      rw [rdB_own, ← hrl, rw_rows rfl h, hrs]
      simp only [List.flatten_cons, List.flatten_nil, List.append_nil]; exact eqH_self _
    have hZ : rwZ off rows.length b rows.flatten.length (rows.flatten.map SC.u8) = true := by unfold rwZ; rw [hV, hW]; rfl
    refine SWs.finv der_lib mixed (fuel := 1000) (n := 100) (told := [true, true]) (v := .c (.bool (bif rwZ off rows.length b rows.flatten.length (rows.flatten.map SC.u8) then true else false))) (ob := rwF off rows.length b rows.flatten.length (rows.flatten.map SC.u8)) (obs := []) (by kernel_rfl) ?_ trivial (by rw [hZ]; rfl)
    have hL : ∀ lim T, T.blk 0 = some b → rows.length ≤ lim → rows.flatten.length ≤ lim → rwL off rows.length b lim T = true := fun lim T hT g1 g2 => by
      unfold rwL
      have e1 := rw_ok T h
      rw [hrl] at e1
      have e2 := rw_rows hT h
      rw [hrl, hrs] at e2
      rw [e1, e2]
      simp only [Bool.and_eq_true, Nat.ble_eq, and_true, true_and]
      omega
    have hMM : ∀ lim, rows.flatten.length ≤ lim → rwM rows.flatten.length (rows.flatten.map SC.u8) lim = true := fun lim g => by
      unfold rwM
      rw [rd_own, rdB_own, isU8s]
      simp only [List.flatten_cons, List.flatten_nil, List.append_nil, Bool.and_eq_true, Nat.ble_eq, and_true, true_and, List.length_map]
      omega
    unfold rwF rwX
    rw [hV, hZ, hL _ _ rfl (by omega) (by omega), hL _ _ rfl (by omega) (by omega), hMM _ (by omega), hMM _ (by omega)]
    rfl

end Go.Proofs.Ytkiamgiobmgmmaa.Sp
