/-
  Approvals one behind the other; as many as are asked.
-/
import Derived.Test.YtabiknpgakhkkaaGreatVtN
set_option maxRecDepth 20000
namespace Go.Proofs.YtabiknpgakhkkaaGreat.Vt
open Go.RowKit Go.Proofs.YtabiknpgakhkkaaGreat.Sx Go.Proofs.YtabiknpgakhkkaaGreat.Pw Go.Proofs.YtabiknpgakhkkaaGreat.Vw
open Go.Proofs.YtabiknpgakhkkaaGreat.Pr (fromG fromG_ok rfromG rfromG_ok tKey keyC)
set_option linter.unusedVariables false
set_option linter.unusedSimpArgs false
set_option maxRecDepth 10000

/-! Rows of approvals, as cells. -/
def Vot.cs (x : Vot) : List SC := [.int x.ad, .int x.E, .int x.S]
def flat : List Vot → List SC
  | [] => []
  | x :: l => x.cs ++ flat l
theorem flat_len : ∀ l : List Vot, (flat l).length = l.length * 3
  | [] => rfl
  | x :: l => by
    show (x.cs ++ flat l).length = _
    rw [List.length_append, flat_len l, List.length_cons]
    show 3 + _ = _
    omega
theorem flat_app : ∀ (l m : List Vot), flat (l ++ m) = flat l ++ flat m
  | [], m => rfl
  | x :: l, m => by
    show x.cs ++ flat (l ++ m) = x.cs ++ flat l ++ flat m
    rw [flat_app l m, List.append_assoc]
theorem flat_sole : ∀ l : List Vot, (flat l).all SC.sole = true
  | [] => rfl
  | x :: l => by
    show (x.cs ++ flat l).all SC.sole = true
    rw [List.all_append, flat_sole l]; rfl
theorem flat_isInt : ∀ l : List Vot, (flat l).all SC.isInt = true
  | [] => rfl
  | x :: l => by
    show (x.cs ++ flat l).all SC.isInt = true
    rw [List.all_append, flat_isInt l]; rfl
theorem flat_get : ∀ (l : List Vot) (i j : Nat) (h : i < l.length), j < 3 → (flat l).getD (i * 3 + j) .nilp = (l[i]).cs.getD j .nilp
  | x :: l, 0, j, h, hj => by
    show (x.cs ++ flat l).getD (0 * 3 + j) .nilp = x.cs.getD j .nilp
    rw [List.getD_eq_getElem?_getD, List.getD_eq_getElem?_getD, List.getElem?_append_left (by show 0 * 3 + j < 3; omega), Nat.zero_mul, Nat.zero_add]
  | x :: l, i + 1, j, h, hj => by
    have hi : i < l.length := Nat.lt_of_succ_lt_succ h
    have ih := flat_get l i j hi hj
    show (x.cs ++ flat l).getD ((i + 1) * 3 + j) .nilp = (l[i]).cs.getD j .nilp
    rw [← ih, List.getD_eq_getElem?_getD, List.getD_eq_getElem?_getD, List.getElem?_append_right (by show 3 ≤ _; omega)]
    congr 2
    show (i + 1) * 3 + j - 3 = i * 3 + j
    omega
theorem vtL_flat (l : List Vot) (ty : TypeId) : vtL (rbO 0 l.length (flat l) ty) = l := by
  unfold vtL
  refine List.ext_getElem (by simp [rbO]) fun i h1 h2 => ?_
  rw [List.getElem_map, List.getElem_range]
  have g := fun j hj => flat_get l i j h2 hj
  show (⟨((flat l).getD (0 + i * 3) .nilp).asInt, ((flat l).getD (0 + i * 3 + 1) .nilp).asInt, ((flat l).getD (0 + i * 3 + 1 + 1) .nilp).asInt⟩ : Vot) = l[i]
  rw [show 0 + i * 3 = i * 3 + 0 by omega, g 0 (by omega), show i * 3 + 0 + 1 = i * 3 + 1 by omega, g 1 (by omega), show i * 3 + 1 + 1 = i * 3 + 2 by omega, g 2 (by omega)]
  rfl
theorem okVt_flat (l : List Vot) (ty : TypeId) : okVt (rbO 0 l.length (flat l) ty) = true := vt_ok (flat_len l) (flat_isInt l)

/-! Who approves. -/
def sel (wh : Nat → Bool) (n : Nat) : List Nat := (List.range n).filter wh
theorem sel_succ (wh : Nat → Bool) (n : Nat) : sel wh (n + 1) = bif wh n then sel wh n ++ [n] else sel wh n := by
  unfold sel
  rw [List.range_succ, List.filter_append]
  cases h : wh n <;> simp [h]
theorem sel_lt {wh : Nat → Bool} {n i : Nat} (h : i ∈ sel wh n) : i < n := by
  unfold sel at h
  rw [List.mem_filter, List.mem_range] at h
  exact h.1
theorem sel_sorted (wh : Nat → Bool) (n : Nat) : (sel wh n).Pairwise (· < ·) := (List.pairwise_lt_range).filter _
def gvs (v : Vi) (f : Int) (l : List Ope) (is : List Nat) : List Vot := is.map fun (i : Nat) => gV v f l (i : Int)
theorem chkL_gvs {v : Vi} {f : Int} {l : List Ope} : ∀ (is : List Nat) (last : Int), is.Pairwise (· < ·) → (∀ i ∈ is, last < (i : Int)) → (∀ i ∈ is, adI v (i : Int) = true ∧ v.t.sg i = keyY i) → chkL v (hashL (paperS v f l)) (gvs v f l is) last = 0
  | [], _, _, _, _ => rfl
  | i :: r, last, hs, hl, hg => by
    rw [List.pairwise_cons] at hs
    show chkL v (hashL (paperS v f l)) (gV v f l (i : Int) :: gvs v f l r) last = 0
    obtain ⟨g1, g2⟩ := hg i (by simp)
    rw [chkL_good g1 (hl i (by simp)) (by rw [Int.toNat_natCast]; exact g2)]
    exact chkL_gvs r i hs.2 (fun j hj => by have := hs.1 j hj; omega) fun j hj => hg j (by simp [hj])
/-- Out of order, or twice the same. -/
theorem chkL_turned {v : Vi} {f : Int} {l : List Ope} {i j : Nat} {r : List Vot} (hij : i ≤ j) (hi : adI v (i : Int) = true) (hj : adI v (j : Int) = true ∧ v.t.sg j = keyY j) : chkL v (hashL (paperS v f l)) (gV v f l (j : Int) :: gV v f l (i : Int) :: r) (-1) = 6 := by
  rw [chkL_good hj.1 (by omega) (by rw [Int.toNat_natCast]; exact hj.2)]
  show (bif !adI v (i : Int) then (6 : Int) else bif decide ((i : Int) ≤ (j : Int)) then 6 else _) = 6
  rw [hi, decide_eq_true (by omega)]; rfl
end Go.Proofs.YtabiknpgakhkkaaGreat.Vt
