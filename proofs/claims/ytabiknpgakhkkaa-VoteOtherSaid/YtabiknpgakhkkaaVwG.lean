/-
  One operation of the program; rows of operations; is one of them odd?
-/
import Derived.Test.YtabiknpgakhkkaaVwF
import Derived.Test.YtabiknpgakhkkaaSxV
namespace Go.Proofs.Ytabiknpgakhkkaa.Vw
open Go.RowKit Go.Proofs.Ytabiknpgakhkkaa.Sx Go.Proofs.Ytabiknpgakhkkaa.Pw
set_option linter.unusedVariables false
set_option linter.unusedSimpArgs false

/-! One operation. -/
def chW (args : List SV → Bool) (f : Chg' → List SV → Int × Chg') : Con := objW fun off cs ps => bif args ps then some (Nat.beq off 0 && isCh cs, .c (.int (f (Chg'.of cs) ps).1), (f (Chg'.of cs) ps).2.cs) else none
theorem chW_ok {f : FuncId} {args : List SV → Bool} {g : Chg' → List SV → Int × Chg'} {fn : Func} (hf : Try.prog.funcs[f]? = some fn) (hn : (fn.name == "runtime.NumGoroutine") = false) (hb : fn.body.isNone = false)
    (h : ∀ c ps, args ps = true → ObjStep Try.prog f 0 c.cs ps (.c (.int (g c ps).1)) (g c ps).2.cs) (hof : ∀ c ps, args ps = true → (g (Chg'.of c.cs) ps).1 = (g c ps).1 ∧ (g (Chg'.of c.cs) ps).2.cs = (g c ps).2.cs) : ConOK Try.prog f (chW args g) := by
  refine objW_ok hf hn hb fun off cs ps v cs' he _ _ => ?_
  cases ha : args ps with
  | false => rw [ha] at he; cases he
  | true =>
    rw [ha] at he
    simp only [cond_true, Option.some.injEq, Prod.mk.injEq, Bool.and_eq_true] at he
    obtain ⟨⟨h0, hc⟩, rfl, rfl⟩ := he
    obtain rfl := Nat.eq_of_beq_eq_true h0
    have e := Chg'.of_cs hc
    generalize Chg'.of cs = c at e
    subst e
    exact h c ps ha
def argA : List SV → Bool | [.agg [.int _, .int _]] => true | _ => false
def argR : List SV → Bool | [.c (.int _)] => true | _ => false
def argM : List SV → Bool | [.c (.int _), .c (.bool _)] => true | _ => false
def argO : List SV → Bool | [.agg [.int _, .int _, .int _, .int _, .int _]] => true | _ => false
def addW : Con := chW argA fun c ps => match ps with | [.agg [.int s, .int p]] => addR c s p | _ => (0, c)
def remW : Con := chW argR fun c ps => match ps with | [.c (.int n)] => remR c n | _ => (0, c)
def admW : Con := chW argM fun c ps => match ps with | [.c (.int n), .c (.bool b)] => admR c n b | _ => (0, c)
def opW : Con := chW argO fun c ps => match ps with | [.agg [.int a, .int b, .int d, .int s, .int p]] => opR c ⟨a, b, d, s, p⟩ | _ => (0, c)

theorem fstF_congr {f g : Nat → Bool} : ∀ {n : Nat}, (∀ j, j < n → f j = g j) → fstF f n = fstF g n
  | 0, _ => rfl
  | n + 1, h => by
    unfold fstF
    rw [fstF_congr fun j hj => h j (by omega), h n (by omega)]
theorem sg_of (c : Chg') : ∀ i, i < 8 → (Chg'.of c.cs).v.t.sg i = c.v.t.sg i := by refine all8 ?_ ?_ ?_ ?_ ?_ ?_ ?_ ?_ <;> kernel_rfl
theorem sl_of (c : Chg') : ∀ i, i < 8 → (Chg'.of c.cs).v.t.sl i = c.v.t.sl i := by refine all8 ?_ ?_ ?_ ?_ ?_ ?_ ?_ ?_ <;> kernel_rfl
theorem addR_of (c : Chg') (s p : Int) : (addR (Chg'.of c.cs) s p).1 = (addR c s p).1 ∧ (addR (Chg'.of c.cs) s p).2.cs = (addR c s p).2.cs := by
  have e0 : (Chg'.of c.cs).cs = c.cs := by kernel_rfl
  have e1 : fstF (fun i => (Chg'.of c.cs).v.t.sg i == s) 8 = fstF (fun i => c.v.t.sg i == s) 8 := fstF_congr fun j hj => by rw [sg_of c j hj]
  have e2 : fstF (fun i => ezs ((Chg'.of c.cs).v.t.sg i) ((Chg'.of c.cs).v.t.sl i)) 8 = fstF (fun i => ezs (c.v.t.sg i) (c.v.t.sl i)) 8 := fstF_congr fun j hj => by rw [sg_of c j hj, sl_of c j hj]
  have e3 : ∀ i, i < 8 → (addN (Chg'.of c.cs) i s p).cs = (addN c i s p).cs := by refine all8 ?_ ?_ ?_ ?_ ?_ ?_ ?_ ?_ <;> kernel_rfl
  unfold addR
  rw [e1, e2]
  cases isS s with
  | false => exact ⟨rfl, e0⟩
  | true =>
    cases isS p with
    | false => exact ⟨rfl, e0⟩
    | true =>
      simp only [Bool.not_true, cond_false]
      split
      · exact ⟨rfl, e0⟩
      · split
        · exact ⟨rfl, e0⟩
        · rename_i i hi
          exact ⟨rfl, e3 i (fstF_some hi).1⟩
theorem memI_ofc (c : Chg') (n : Int) : memI (Chg'.of c.cs).v n = memI c.v n := by
  unfold memI
  cases h1 : decide (n ≥ 0) with
  | false => rfl
  | true =>
    cases h2 : decide (n < 8) with
    | false => rfl
    | true =>
      rw [decide_eq_true_eq] at h1 h2
      obtain ⟨i, rfl⟩ : ∃ i : Nat, n = i := ⟨n.toNat, by omega⟩
      have : ∀ i, i < 8 → memT (Chg'.of c.cs).v.t i = memT c.v.t i := by refine all8 ?_ ?_ ?_ ?_ ?_ ?_ ?_ ?_ <;> kernel_rfl
      exact this i (by omega)
theorem remR_of (c : Chg') (n : Int) : (remR (Chg'.of c.cs) n).1 = (remR c n).1 ∧ (remR (Chg'.of c.cs) n).2.cs = (remR c n).2.cs := by
  cases h : memI c.v n with
  | false =>
    have h' : memI (Chg'.of c.cs).v n = false := by rw [memI_ofc, h]
    unfold remR
    rw [h, h']
    exact ⟨rfl, by kernel_rfl⟩
  | true =>
    have h' : memI (Chg'.of c.cs).v n = true := by rw [memI_ofc, h]
    obtain ⟨i, hi, rfl, _⟩ := memI_no h
    unfold remR
    rw [h, h']
    have e1 : (Chg'.of c.cs).fr = c.fr := rfl
    rw [e1]
    cases h2 : (i : Int) == c.fr with
    | true => exact ⟨rfl, by kernel_rfl⟩
    | false =>
      refine ⟨rfl, ?_⟩
      show (remN (Chg'.of c.cs) (i : Int).toNat).cs = (remN c (i : Int).toNat).cs
      rw [Int.toNat_natCast]
      have : ∀ i, i < 8 → (remN (Chg'.of c.cs) i).cs = (remN c i).cs := by refine all8 ?_ ?_ ?_ ?_ ?_ ?_ ?_ ?_ <;> kernel_rfl
      exact this i hi
theorem admR_of (c : Chg') (n : Int) (b : Bool) : (admR (Chg'.of c.cs) n b).1 = (admR c n b).1 ∧ (admR (Chg'.of c.cs) n b).2.cs = (admR c n b).2.cs := by
  cases h : memI c.v n with
  | false =>
    have h' : memI (Chg'.of c.cs).v n = false := by rw [memI_ofc, h]
    unfold admR
    rw [h, h']
    exact ⟨rfl, by kernel_rfl⟩
  | true =>
    have h' : memI (Chg'.of c.cs).v n = true := by rw [memI_ofc, h]
    obtain ⟨i, hi, rfl, _⟩ := memI_no h
    have e1 : ∀ i, i < 8 → (Chg'.of c.cs).v.ad i = c.v.ad i := by refine all8 ?_ ?_ ?_ ?_ ?_ ?_ ?_ ?_ <;> kernel_rfl
    have e2 : ∀ i, i < 8 → (admN (Chg'.of c.cs) i b).cs = (admN c i b).cs := by refine all8 ?_ ?_ ?_ ?_ ?_ ?_ ?_ ?_ <;> kernel_rfl
    unfold admR
    rw [h, h', Int.toNat_natCast, e1 i hi]
    cases h2 : c.v.ad i == b with
    | true => exact ⟨rfl, by kernel_rfl⟩
    | false => exact ⟨rfl, e2 i hi⟩
theorem opR_of (c : Chg') (o : Ope) : (opR (Chg'.of c.cs) o).1 = (opR c o).1 ∧ (opR (Chg'.of c.cs) o).2.cs = (opR c o).2.cs := by
  unfold opR
  cases o.kind == 1 with
  | true => exact addR_of c o.sg o.sl
  | false =>
  cases o.kind == 2 with
  | true => exact remR_of c o.who
  | false =>
  cases o.kind == 3 with
  | true => exact admR_of c o.who true
  | false =>
  cases o.kind == 4 with
  | true => exact admR_of c o.who false
  | false =>
    simp only [cond_false]
    unfold limR
    cases decide (o.k < 1) with
    | true => exact ⟨rfl, by kernel_rfl⟩
    | false =>
      cases decide (o.k > 8) with
      | true => exact ⟨rfl, by kernel_rfl⟩
      | false => exact ⟨rfl, rfl⟩

theorem addW_ok : ConOK Try.prog fAdd addW := chW_ok (fn := Try.f69) (by kernel_rfl) rfl rfl (fun c ps h => by
  unfold argA at h
  split at h <;> try (cases h; done)
  exact add_step c _ _) (fun c ps h => by
  unfold argA at h
  split at h <;> try (cases h; done)
  exact addR_of c _ _)
theorem remW_ok : ConOK Try.prog fRem remW := chW_ok (fn := Try.f70) (by kernel_rfl) rfl rfl (fun c ps h => by
  unfold argR at h
  split at h <;> try (cases h; done)
  exact rem_step c _) (fun c ps h => by
  unfold argR at h
  split at h <;> try (cases h; done)
  exact remR_of c _)
theorem admW_ok : ConOK Try.prog fAdmin admW := chW_ok (fn := Try.f71) (by kernel_rfl) rfl rfl (fun c ps h => by
  unfold argM at h
  split at h <;> try (cases h; done)
  exact adm_step c _ _) (fun c ps h => by
  unfold argM at h
  split at h <;> try (cases h; done)
  exact admR_of c _ _)
abbrev opL : List (Nat × Con) := [(fAdd, addW), (fRem, remW), (fAdmin, admW)]
theorem opL_ok : LibOK Try.prog opL := LibOK.cons addW_ok (LibOK.cons remW_ok (LibOK.cons admW_ok (LibOK.nil _)))
def kn4 (k : Int) : Bool := tn (tn (tn (tn true (k == 1)) (k == 2)) (k == 3)) (k == 4)
theorem op_1 (c : Chg') (ty : TypeId) (w k s p : Int) : runM opL fOp [.agg [.int 1, .int w, .int k, .int s, .int p]] c ty [] = some (true, [], .c (.int (addR (Chg'.of c.cs) s p).1), some ⟨(addR (Chg'.of c.cs) s p).2.cs, ty, false, true⟩) := by kernel_rfl
theorem op_2 (c : Chg') (ty : TypeId) (w k s p : Int) : runM opL fOp [.agg [.int 2, .int w, .int k, .int s, .int p]] c ty [] = some (true, [], .c (.int (remR (Chg'.of c.cs) w).1), some ⟨(remR (Chg'.of c.cs) w).2.cs, ty, false, true⟩) := by kernel_rfl
theorem op_3 (c : Chg') (ty : TypeId) (w k s p : Int) : runM opL fOp [.agg [.int 3, .int w, .int k, .int s, .int p]] c ty [] = some (true, [], .c (.int (admR (Chg'.of c.cs) w true).1), some ⟨(admR (Chg'.of c.cs) w true).2.cs, ty, false, true⟩) := by kernel_rfl
theorem op_4 (c : Chg') (ty : TypeId) (w k s p : Int) : runM opL fOp [.agg [.int 4, .int w, .int k, .int s, .int p]] c ty [] = some (true, [], .c (.int (admR (Chg'.of c.cs) w false).1), some ⟨(admR (Chg'.of c.cs) w false).2.cs, ty, false, true⟩) := by kernel_rfl
theorem op_5 (c : Chg') (ty : TypeId) (a w k s p : Int) : runM opL fOp [.agg [.int a, .int w, .int k, .int s, .int p]] c ty [false, false, false, false, true] = some (tg (kn4 a) (decide (k < 1)) true, [], .c (.int 7), some ⟨c.cs, ty, false, true⟩) := by kernel_rfl
theorem op_6 (c : Chg') (ty : TypeId) (a w k s p : Int) : runM opL fOp [.agg [.int a, .int w, .int k, .int s, .int p]] c ty [false, false, false, false, false, true] = some (ty_ (tg (kn4 a) (decide (k < 1)) false) (decide (k > 8)), [], .c (.int 7), some ⟨c.cs, ty, false, true⟩) := by kernel_rfl
theorem op_7 (c : Chg') (ty : TypeId) (a w k s p : Int) : runM opL fOp [.agg [.int a, .int w, .int k, .int s, .int p]] c ty [false, false, false, false, false, false] = some (tn (tg (kn4 a) (decide (k < 1)) false) (decide (k > 8)), [], .c (.int 0), some ⟨(limN c k).cs, ty, false, true⟩) := by kernel_rfl
theorem op_step (c : Chg') (o : Ope) : ObjStep Try.prog fOp 0 c.cs [.agg o.cs] (.c (.int (opR c o).1)) (opR c o).2.cs := by
  obtain ⟨a, w, k, s, p⟩ := o
  unfold opR
  cases h1 : a == 1 with
  | true =>
    rw [beq_iff_eq] at h1; subst h1
    have := addR_of c s p
    exact ch_step (c' := (addR c s p).2) (e := (addR c s p).1) opL_ok (fun ty => by rw [← this.1, ← this.2]; exact op_1 c ty w k s p) rfl rfl
  | false =>
  cases h2 : a == 2 with
  | true =>
    rw [beq_iff_eq] at h2; subst h2
    have := remR_of c w
    exact ch_step (c' := (remR c w).2) (e := (remR c w).1) opL_ok (fun ty => by rw [← this.1, ← this.2]; exact op_2 c ty w k s p) rfl rfl
  | false =>
  cases h3 : a == 3 with
  | true =>
    rw [beq_iff_eq] at h3; subst h3
    have := admR_of c w true
    exact ch_step (c' := (admR c w true).2) (e := (admR c w true).1) opL_ok (fun ty => by rw [← this.1, ← this.2]; exact op_3 c ty w k s p) rfl rfl
  | false =>
  cases h4 : a == 4 with
  | true =>
    rw [beq_iff_eq] at h4; subst h4
    have := admR_of c w false
    exact ch_step (c' := (admR c w false).2) (e := (admR c w false).1) opL_ok (fun ty => by rw [← this.1, ← this.2]; exact op_4 c ty w k s p) rfl rfl
  | false =>
    have hk : kn4 a = true := tn_eq (tn_eq (tn_eq (tn_eq rfl h1) h2) h3) h4
    simp only [cond_false]
    unfold limR
    cases hA : decide (k < 1) with
    | true => exact ch_step opL_ok (fun ty => op_5 c ty a w k s p) (tg_eq hk hA) rfl
    | false =>
      cases hB : decide (k > 8) with
      | true => exact ch_step opL_ok (fun ty => op_6 c ty a w k s p) (ty_eq (tg_eq hk hA) hB) rfl
      | false => exact ch_step opL_ok (fun ty => op_7 c ty a w k s p) (tn_eq (tg_eq hk hA) hB) rfl
theorem opW_ok : ConOK Try.prog fOp opW := chW_ok (fn := Try.f50) (by kernel_rfl) rfl rfl (fun c ps h => by
  unfold argO at h
  split at h <;> try (cases h; done)
  exact op_step c ⟨_, _, _, _, _⟩) (fun c ps h => by
  unfold argO at h
  split at h <;> try (cases h; done)
  exact opR_of c ⟨_, _, _, _, _⟩)

/-! Rows of operations. -/
def opAt (r : RB) (i : Nat) : Ope := ⟨gI r.b.cells (r.off + i * 5), gI r.b.cells (r.off + i * 5 + 1), gI r.b.cells (r.off + i * 5 + 1 + 1), gI r.b.cells (r.off + i * 5 + 1 + 1 + 1), gI r.b.cells (r.off + i * 5 + 1 + 1 + 1 + 1)⟩
def okOps (r : RB) : Bool := Nat.ble (r.off + r.n * 5) r.b.cells.length && ((r.b.cells.drop r.off).take (r.n * 5)).all SC.isInt
def isI (cs : List SC) (i : Nat) : Bool := (cs.getD i .nilp).isInt
def ldO (r : RB) (i : Nat) (acc : Bool) : Bool := bnd (bnd acc (decide (0 ≤ (i : Int)) && (Nat.blt (i : Int).toNat r.n && true)))
  (Nat.ble (r.off + i * 5 + 5) r.b.cells.length && (isI r.b.cells (r.off + i * 5) && (isI r.b.cells (r.off + i * 5 + 1) && (isI r.b.cells (r.off + i * 5 + 1 + 1) && (isI r.b.cells (r.off + i * 5 + 1 + 1 + 1) && (isI r.b.cells (r.off + i * 5 + 1 + 1 + 1 + 1) && true))))))
theorem isI_of {r : RB} (h : okOps r = true) {j : Nat} (hj : j < r.n * 5) : isI r.b.cells (r.off + j) = true := by
  unfold okOps at h
  simp only [Bool.and_eq_true, Nat.ble_eq, List.all_eq_true] at h
  have hlt : r.off + j < r.b.cells.length := by omega
  unfold isI
  have hg : r.b.cells.getD (r.off + j) .nilp = r.b.cells[r.off + j] := by simp [List.getD, List.getElem?_eq_getElem hlt]
  rw [hg]
  refine h.2 _ ?_
  have : ((r.b.cells.drop r.off).take (r.n * 5))[j]? = some r.b.cells[r.off + j] := by
    rw [List.getElem?_take_of_lt hj, List.getElem?_drop, List.getElem?_eq_getElem hlt]
  exact List.mem_of_getElem? this
theorem ldO_eq {r : RB} (h : okOps r = true) {i : Nat} (hi : i < r.n) (acc : Bool) : ldO r i acc = acc := by
  have hl : r.off + r.n * 5 ≤ r.b.cells.length := by
    unfold okOps at h
    simp only [Bool.and_eq_true, Nat.ble_eq] at h
    exact h.1
  have hI : ∀ k, k < 5 → isI r.b.cells (r.off + i * 5 + k) = true := fun k hk => by
    rw [Nat.add_assoc]; exact isI_of h (by omega)
  have h0 := hI 0 (by omega)
  have h1 := hI 1 (by omega)
  have h2 := hI 2 (by omega)
  have h3 := hI 3 (by omega)
  have h4 := hI 4 (by omega)
  unfold ldO
  have e1 : decide (0 ≤ (i : Int)) = true := decide_eq_true (by omega)
  have e2 : Nat.blt (i : Int).toNat r.n = true := by rw [Int.toNat_natCast, Nat.blt_eq]; exact hi
  have e3 : Nat.ble (r.off + i * 5 + 5) r.b.cells.length = true := by rw [Nat.ble_eq]; omega
  simp only [Nat.add_assoc] at h0 h1 h2 h3 h4 e3 ⊢
  rw [e1, e2, e3]
  simp only [Nat.reduceAdd, Nat.add_zero] at h0 h1 h2 h3 h4 ⊢
  rw [h0, h1, h2, h3, h4]
  rfl
theorem sole_plain {cs : List SC} (h : cs.all SC.sole = true) : cs.all SC.plain = true := by
  rw [List.all_eq_true] at h ⊢
  intro x hx
  have := h x hx
  cases x <;> first | rfl | (simp [SC.sole] at this; done) | skip
  rename_i f caps
  cases caps with
  | nil => rfl
  | cons a r => simp [SC.sole] at this

/-! Is one of them odd? -/
abbrev fOdd : Nat := 45
abbrev fIdxO : Nat := 68
abbrev fConO : Nat := 48
def oddC : Con := pureCon fun | [.agg [.int a, .int b, .int c, .int d, .int e]] => some (.c (.bool (!opOk ⟨a, b, c, d, e⟩))) | _ => none
theorem odd_ok : ConOK Try.prog fOdd oddC := by
  refine pureCon_ok (fn := Try.f45) (by kernel_rfl) rfl rfl fun args v h => ?_
  split at h <;> try (cases h; done)
  rename_i a b c d e
  simp only [Option.some.injEq] at h; subst h
  exact ⟨rfl, rfl, fun w => Fn.xvL (fuel := 1000) (LibOK.cons isOp_ok (LibOK.nil _)) Sp.mixed [] (r := .c (.bool (!opOk ⟨a, b, c, d, e⟩))) (ob := true) (obs := []) (by kernel_rfl) rfl trivial rfl⟩
def oddF (r : RB) (i : Nat) : Bool := !opOk (opAt r i)
def idxV (a : Option Nat) : Int := match a with | some i => i | none => -1
def idxO (r : RB) : Int := idxV (fstF (oddF r) r.n)
def idxOC : Con := sVal [some 5, none] fun ps rs => match ps, rs with | [.c (.fn f [])], [r] => bif Nat.beq f fOdd then some (okOps r && Nat.ble r.n 1000000, .c (.int (idxO r))) else none | _, _ => none
abbrev idxOL : List (Nat × Con) := [(fOdd, oddC)]
theorem idxOL_ok : LibOK Try.prog idxOL := LibOK.cons odd_ok (LibOK.nil _)
def idxI (r : RB) (i : Int) : St := ⟨[(0, .c (.slc 0 r.off 5 r.n none)), (1, .c (.fn fOdd [])), (4, .c (.int 0)), (7, .c (.int r.n)), (8, .c (.int i))], [(0, some r.b)], 1, 19⟩
def idxCut : Cut := ⟨[(0, false), (1, false), (4, true), (7, true), (8, true)], [(0, 0, true)], 1⟩
def pl (r : RB) : Bool := r.b.cells.all SC.plain && true
theorem pl_eq {r : RB} (h : RBok r) : pl r = true := by unfold pl; rw [sole_plain h.2.2]; rfl
theorem idxO_fn (r : RB) (hr : RBok r) (ho : okOps r = true) (hn : r.n ≤ 1000000) (w : World) : Sx.Fn Try.prog fIdxO (atW w 0) [.c (.slc 0 r.off 5 r.n none), .c (.fn fOdd [])] [(0, some r.b)] 1 fun v _ => v = .c (.int (idxO r)) := by
  have hpl := pl_eq hr
  refine Sx.Fn.of (nt := 19) (by kernel_rfl) rfl ?_
  refine SWs.stepL idxOL_ok Sp.mixed (fuel := 1000) (n := 2) [] (un := []) (c := idxCut) (t := idxI r 0) (ob := bnd true (pl r)) (obs := []) (by kernel_rfl) (bnd_eq rfl hpl) trivial ?_
  refine SWs.loop (by kernel_rfl) (fun i : Nat => idxI r i) (fun i => r.n - i) (fun i => i ≤ r.n ∧ fstF (oddF r) i = none) 0 ⟨by omega, rfl⟩ ?_
  rintro i ⟨hi, hf⟩
  by_cases hlt : i < r.n
  · have hc : decide ((i : Int) < (r.n : Int)) = true := decide_eq_true (by omega)
    cases hodd : oddF r i with
    | true =>
      refine SWs.retR idxOL_ok Sp.mixed (fuel := 1000) (n := 4) [true, true] (ob := ty_ (ldO r i (ty_ true (decide ((i : Int) < (r.n : Int))))) (oddF r i)) (obs := []) (v := .c (.int i)) (by kernel_rfl) (ty_eq (by rw [ldO_eq ho hlt]; exact ty_eq rfl hc) hodd) trivial fun _ => ?_
      have : fstF (oddF r) r.n = some i := by
        cases h : fstF (oddF r) r.n with
        | none => rw [fstF_none h i hlt] at hodd; cases hodd
        | some j =>
          obtain ⟨h1, h2, h3⟩ := fstF_some h
          have hji : ¬ j < i := fun hji => by rw [fstF_none hf j hji] at h2; cases h2
          have hij : ¬ i < j := fun hij => by rw [h3 i hij] at hodd; cases hodd
          congr 1; omega
      unfold idxO idxV
      rw [this]
    | false =>
      refine SWs.roundL idxOL_ok Sp.mixed (fuel := 1000) (n := 4) [true, false] (un := []) (c := idxCut) (t := idxI r (IntKind.i64.wrap ((i : Int) + 1))) (ob := bnd (tn (ldO r i (ty_ true (decide ((i : Int) < (r.n : Int))))) (oddF r i)) (pl r)) (obs := []) (by kernel_rfl) rfl (bnd_eq (tn_eq (by rw [ldO_eq ho hlt]; exact ty_eq rfl hc) hodd) hpl) trivial ⟨i + 1, ⟨by omega, ?_⟩, by omega, ?_⟩
      · unfold fstF; rw [hf, hodd]; rfl
      · rw [wrapN (by omega) (by omega)]; rfl
  · obtain rfl : i = r.n := by omega
    refine SWs.outL idxOL_ok Sp.mixed (fuel := 1000) (n := 2) [false] (un := []) (c := idxCut) (t := idxI r r.n) (ob := bnd (tn true (decide ((r.n : Int) < (r.n : Int)))) (pl r)) (obs := []) (by kernel_rfl) (bnd_eq (tn_eq rfl (decide_eq_false (by omega))) hpl) trivial ?_
    exact SWs.finvL idxOL_ok Sp.mixed (fuel := 1000) (n := 100) [] (ob := true) (obs := []) (v := .c (.int (-1))) (by kernel_rfl) rfl trivial (by unfold idxO idxV; rw [hf])
theorem idxO_ok : ConOK Try.prog fIdxO idxOC := by
  refine sVal_ok (fn := Try.f68) (by kernel_rfl) rfl rfl fun ps rs v h hps hrs => ?_
  split at h <;> try (cases h; done)
  rename_i f r
  cases hf : Nat.beq f fOdd with
  | false => rw [hf] at h; cases h
  | true =>
    rw [hf] at h
    obtain rfl := Nat.eq_of_beq_eq_true hf
    simp only [cond_true, Option.some.injEq, Prod.mk.injEq, Bool.and_eq_true, Nat.ble_eq] at h
    obtain ⟨⟨ho, hn⟩, rfl⟩ := h
    exact ⟨rfl, fun w => idxO_fn r (hrs r (by simp)) ho hn w⟩
def conOC : Con := sVal [some 5, none] fun ps rs => match ps, rs with | [.c (.fn f [])], [r] => bif Nat.beq f fOdd then some (okOps r && Nat.ble r.n 1000000, .c (.bool (decide (idxO r ≥ 0)))) else none | _, _ => none
theorem conO_ok : ConOK Try.prog fConO conOC := by
  refine sVal_ok (fn := Try.f48) (by kernel_rfl) rfl rfl fun ps rs v h hps hrs => ?_
  split at h <;> try (cases h; done)
  rename_i f r
  cases hf : Nat.beq f fOdd with
  | false => rw [hf] at h; cases h
  | true =>
    rw [hf] at h
    obtain rfl := Nat.eq_of_beq_eq_true hf
    simp only [cond_true, Option.some.injEq, Prod.mk.injEq, Bool.and_eq_true, Nat.ble_eq] at h
    obtain ⟨⟨ho, hn⟩, rfl⟩ := h
    refine ⟨rfl, fun w => ?_⟩
    obtain ⟨off, n, cells, ty, tail, own⟩ := r
    obtain ⟨h1, h2, h3⟩ := hrs _ List.mem_cons_self
    simp only at h1 h2
    subst h1 h2
    exact Fn.xvL (fuel := 1000) (LibOK.cons idxO_ok (LibOK.nil _)) Sp.mixed [] (r := .c (.bool (decide (idxO ⟨off, n, ⟨cells, ty, true, false⟩⟩ ≥ 0)))) (ob := bnd true ((cells.all SC.sole && true) && (okOps ⟨off, n, ⟨cells, ty, true, false⟩⟩ && Nat.ble n 1000000))) (obs := []) (by kernel_rfl)
      (bnd_eq rfl (by simp only [Bool.and_eq_true, Nat.ble_eq]; exact ⟨⟨h3, trivial⟩, ho, hn⟩)) trivial rfl

end Go.Proofs.Ytabiknpgakhkkaa.Vw
