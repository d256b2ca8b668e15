/-
  Keys: what their functions do.
-/
import Derived.Test.YtdjimjjemiaokaaPrA
import Derived.Test.YtdjimjjemiaokaaSxM
import Derived.Test.YtdjimjjemiaokaaSpS
import Derived.Test.YtdjimjjemiaokaaSxL
namespace Go.Proofs.Ytdjimjjemiaokaa.Pr
open Go.RowKit Go.Proofs.Ytdjimjjemiaokaa.Sx Go.Proofs.Ytdjimjjemiaokaa.Pw
set_option linter.unusedVariables false

abbrev tKey : Nat := 72
/-- A key's cells: its secret; done, state, sema; its public number; made; uses. -/
def keyC (x d s e y m u : Int) : List SC := [.int x, .ik .u32 d, .ik .i32 s, .ik .u32 e, .int y, .ik .u32 m, .int u]

/-! The atomics. -/
abbrev fLoadB : Nat := 50
abbrev fStoreB : Nat := 39
abbrev fAddI : Nat := 41
def asIk : SC → Int | .ik _ n => n | .int n => n | _ => 0
def isU32 : SC → Bool | .ik .u32 _ => true | _ => false
theorem isU32_eq {c : SC} (h : isU32 c = true) : c = .ik .u32 (asIk c) := by
  cases c <;> simp [isU32] at h
  rename_i k n
  cases k <;> simp at h
  rfl
theorem isInt_eq {c : SC} (h : c.isInt = true) : c = .int (asIk c) := by
  cases c <;> simp [SC.isInt] at h
  rfl
theorem getD_some {cs : List SC} {i : Nat} (h : i < cs.length) : cs[i]? = some (cs.getD i .nilp) := by
  simp [List.getD, List.getElem?_eq_getElem h]
def loadBC : Con := objR fun off cs ps => match ps with
  | [] => some (Nat.blt off cs.length && isU32 (cs.getD off .nilp), .c (.bool (asIk (cs.getD off .nilp) != 0)))
  | _ => none
theorem loadB_ok : ConOK Try.prog fLoadB loadBC := by
  refine objR_ok (fn := Try.f50) (by kernel_rfl) rfl rfl fun off cs ps v h hs hps => ?_
  split at h <;> try (cases h; done)
  simp only [Option.some.injEq, Prod.mk.injEq, Bool.and_eq_true, Nat.blt_eq] at h
  obtain ⟨⟨hlt, hk⟩, rfl⟩ := h
  intro w g o us hrd hus
  cases hus
  obtain ⟨v, hv, hr⟩ := hrd.cell (getD_some hlt)
  rw [isU32_eq hk] at hr
  have hr : v = .int .u32 (asIk (cs.getD off .nilp)) := hr
  subst hr
  exact (load_bool ⟨g, o + off, none⟩ _ w hv).mono fun e w' ⟨he, hw⟩ => ⟨_, he, fun ρ => rfl, by subst hw; exact Below.refl _ _⟩
def storeBC : Con := objW fun off cs ps => match ps with
  | [.c (.bool true)] => some (Nat.blt off cs.length, .tup [], cs.set off (.ik .u32 1))
  | _ => none
theorem storeB_ok : ConOK Try.prog fStoreB storeBC := by
  refine objW_ok (fn := Try.f39) (by kernel_rfl) rfl rfl fun off cs ps v cs' h hs hps => ?_
  split at h <;> try (cases h; done)
  simp only [Option.some.injEq, Prod.mk.injEq, Nat.blt_eq] at h
  obtain ⟨hlt, rfl, rfl⟩ := h
  intro w g ty us hobj hus
  cases hus with
  | @cons _ u _ _ hu hus =>
  cases hus
  have hu : u = .bool true := hu
  subst hu
  obtain ⟨v, hv, _⟩ := hobj.cell (getD_some hlt)
  obtain ⟨g1, g2⟩ := ObjAt.set (w := w.drew) (c := .ik .u32 1) (v := .int .u32 1) hobj hlt rfl
  exact (store_called ⟨g, off, none⟩ v w hv hobj.thaw).mono fun e w' ⟨he, hw⟩ => ⟨_, he, fun ρ => ⟨[], rfl, .nil⟩, by subst hw; exact (Chg.refl g w).drew.trans g2, by subst hw; exact g1⟩
def addIC : Con := objW fun off cs ps => match ps with
  | [.c (.int y)] => some (Nat.blt off cs.length && (cs.getD off .nilp).isInt, .c (.int (IntKind.i64.wrap (asIk (cs.getD off .nilp) + y))), cs.set off (.int (IntKind.i64.wrap (asIk (cs.getD off .nilp) + y))))
  | _ => none
theorem addI_ok : ConOK Try.prog fAddI addIC := by
  refine objW_ok (fn := Try.f41) (by kernel_rfl) rfl rfl fun off cs ps v cs' h hs hps => ?_
  split at h <;> try (cases h; done)
  rename_i y
  simp only [Option.some.injEq, Prod.mk.injEq, Bool.and_eq_true, Nat.blt_eq] at h
  obtain ⟨⟨hlt, hk⟩, rfl, rfl⟩ := h
  intro w g ty us hobj hus
  cases hus with
  | @cons _ u _ _ hu hus =>
  cases hus
  have hu : u = .int .i64 y := hu
  subst hu
  obtain ⟨v, hv, hr⟩ := hobj.cell (getD_some hlt)
  rw [isInt_eq hk] at hr
  have hr : v = .int .i64 (asIk (cs.getD off .nilp)) := hr
  subst hr
  obtain ⟨g1, g2⟩ := ObjAt.set (w := w) (c := .int (IntKind.i64.wrap (asIk (cs.getD off .nilp) + y))) (v := .int .i64 (IntKind.i64.wrap (asIk (cs.getD off .nilp) + y))) hobj hlt rfl
  exact (add_int ⟨g, off, none⟩ _ y w hv hobj.thaw).mono fun e w' ⟨he, hw⟩ => ⟨_, he, fun ρ => rfl, by subst hw; exact g2, by subst hw; exact g1⟩

/-! Keys. -/
abbrev fFrom : Nat := 16
abbrev fPub : Nat := 19

def fromC : Con := objNew fun args => match args with
  | [.agg cs] => some (h32 cs, tKey, keyC (scalS cs) 0 0 0 0 0 0)
  | _ => none
theorem from_ok : ConOK Try.prog fFrom fromC := by
  refine objNew_ok (fn := Try.f16) (by kernel_rfl) rfl rfl fun args ty cs h hp w => ?_
  split at h <;> try (cases h; done)
  rename_i hs
  simp only [Option.some.injEq, Prod.mk.injEq] at h
  obtain ⟨hh, rfl, rfl⟩ := h
  have hok := hh
  simp only [h32, Bool.and_eq_true] at hok
  have hl := Nat.eq_of_beq_eq_true hok.1
  have ht : hs.take 32 = hs := List.take_of_length_le (by omega)
  have := Fn.xt (X := atW w 0) (LibOK.cons pscal_ok (LibOK.nil _)) Sp.mixed (fuel := 1000) (f := fFrom) (args := [.agg hs]) (T := []) (nk := 0) (told := []) (ob := bnd (bnd true (Nat.ble (0 + 32) hs.length)) (h32 (hs.take 32))) (obs := []) (r := .c (.ptr 20 0)) (k := 20) (b := some ⟨keyC (scalS (hs.take 32)) 0 0 0 0 0 0, tKey, false, true⟩) (by kernel_rfl) (by rw [ht, hh]; simp [bnd_true]; omega) trivial
  rw [ht] at this
  intro ρ w0 vs h1 h2 h3
  exact (this ρ w0 vs h1 h2 h3).mono fun e w' ⟨u, v, T', ρ', a, ⟨b, c⟩, d⟩ => ⟨u, v, T', ρ', a, ⟨20, b, c⟩, d⟩

/-! The public number. -/
abbrev tPK : Nat := 33
theorem clo_lib : LibOK Try.prog [(fpPow, powC), (fStoreB, storeBC)] := LibOK.cons ppow_ok (LibOK.cons storeB_ok (LibOK.nil _))
theorem clo_fn (X : Cx) (x d s e y m u : Int) (ty t2 : TypeId) : Sx.Fn Try.prog fClo X [.c (.ptr 1 0)] [(0, some ⟨keyC x d s e y m u, ty, false, true⟩), (1, some ⟨[.ptr 0 0], t2, true, false⟩)] 2 fun v T => v = .tup [] ∧ T.blk 0 = some ⟨keyC x d s e (powS 4 x) 1 u, ty, false, true⟩ :=
  Fn.xt clo_lib Sp.mixed (fuel := 1000) (told := []) (ob := true) (obs := []) (by kernel_rfl) rfl trivial

end Go.Proofs.Ytdjimjjemiaokaa.Pr
