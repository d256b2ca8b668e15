/-
  Keys: what their functions do. A key's public number: worked out once. What keys share; the document's keys; what all laws of keys ask last.
-/
import Derived.Test.YtabiknpgakhkkaaGreatPrA
import Derived.Test.YtabiknpgakhkkaaGreatSxM
import Derived.Test.YtabiknpgakhkkaaGreatSpT
import Derived.Test.YtabiknpgakhkkaaGreatSxL
set_option maxRecDepth 20000
section
namespace Go.Proofs.YtabiknpgakhkkaaGreat.Pr
open Go.RowKit Go.Proofs.YtabiknpgakhkkaaGreat.Sx Go.Proofs.YtabiknpgakhkkaaGreat.Pw
set_option linter.unusedVariables false

abbrev tKey : Nat := 88
/-- A key's cells: its secret; done, state, sema; its public number; made; uses. -/
def keyC (x d s e y m u : Int) : List SC := [.int x, .ik .u32 d, .ik .i32 s, .ik .u32 e, .int y, .ik .u32 m, .int u]

/-! The atomics. -/
abbrev fLoadB : Nat := 84
abbrev fStoreB : Nat := 57
def asIk : SC → Int | .ik _ n => n | .int n => n | _ => 0
def isU32 : SC → Bool | .ik .u32 _ => true | _ => false
theorem isU32_eq {c : SC} (h : isU32 c = true) : c = .ik .u32 (asIk c) := by
  cases c <;> simp [isU32] at h
  rename_i k n
  cases k <;> simp at h
  rfl
theorem isInt_eq {c : SC} (h : c.isInt = true) : c = .int (asIk c) := by
  cases c <;> simp [SC.isInt] at h
  rfl
theorem getD_some {cs : List SC} {i : Nat} (h : i < cs.length) : cs[i]? = some (cs.getD i .nilp) := by
  simp [List.getD, List.getElem?_eq_getElem h]
def loadBC : Con := objR fun off cs ps => match ps with
  | [] => some (Nat.blt off cs.length && isU32 (cs.getD off .nilp), .c (.bool (asIk (cs.getD off .nilp) != 0)))
  | _ => none
theorem loadB_ok : ConOK Tryz.prog fLoadB loadBC := by
  refine objR_ok (fn := Tryz.f84) (by kernel_rfl) rfl rfl fun off cs ps v h hs hps => ?_
  split at h <;> try (cases h; done)
  simp only [Option.some.injEq, Prod.mk.injEq, Bool.and_eq_true, Nat.blt_eq] at h
  obtain ⟨⟨hlt, hk⟩, rfl⟩ := h
  intro w g o us hrd hus
  cases hus
  obtain ⟨v, hv, hr⟩ := hrd.cell (getD_some hlt)
  rw [isU32_eq hk] at hr
  have hr : v = .int .u32 (asIk (cs.getD off .nilp)) := hr
  subst hr
  exact (load_bool ⟨g, o + off, none⟩ _ w hv).mono fun e w' ⟨he, hw⟩ => ⟨_, he, fun ρ => rfl, by subst hw; exact Below.refl _ _⟩
def storeBC : Con := objW fun off cs ps => match ps with
  | [.c (.bool true)] => some (Nat.blt off cs.length, .tup [], cs.set off (.ik .u32 1))
  | _ => none
theorem storeB_ok : ConOK Tryz.prog fStoreB storeBC := by
  refine objW_ok (fn := Tryz.f57) (by kernel_rfl) rfl rfl fun off cs ps v cs' h hs hps => ?_
  split at h <;> try (cases h; done)
  simp only [Option.some.injEq, Prod.mk.injEq, Nat.blt_eq] at h
  obtain ⟨hlt, rfl, rfl⟩ := h
  intro w g ty us hobj hus
  cases hus with
  | @cons _ u _ _ hu hus =>
  cases hus
  have hu : u = .bool true := hu
  subst hu
  obtain ⟨v, hv, _⟩ := hobj.cell (getD_some hlt)
  obtain ⟨g1, g2⟩ := ObjAt.set (w := w.drew) (c := .ik .u32 1) (v := .int .u32 1) hobj hlt rfl
  exact (store_called ⟨g, off, none⟩ v w hv hobj.thaw).mono fun e w' ⟨he, hw⟩ => ⟨_, he, fun ρ => ⟨[], rfl, .nil⟩, by subst hw; exact (Chg.refl g w).drew.trans g2, by subst hw; exact g1⟩

/-! Keys. -/
abbrev fFrom : Nat := 10
abbrev fSec : Nat := 58
abbrev fPub : Nat := 23
def secC : Con := objR fun off cs ps => match off, cs, ps with
  | 0, [.int x, .ik .u32 d, .ik .i32 s, .ik .u32 e, .int y, .ik .u32 m, .int u], [] => some (true, .c (.int x))
  | _, _, _ => none
theorem sec_ok : ConOK Tryz.prog fSec secC := by
  refine objR_ok (fn := Tryz.f58) (by kernel_rfl) rfl rfl fun off cs ps v h hs hps => ?_
  split at h <;> try (cases h; done)
  rename_i x d s e y m u
  simp only [Option.some.injEq, Prod.mk.injEq, true_and] at h; subst h
  exact objLook_of hs rfl (fun w ty => Fn.xv (fuel := 1000) (told := []) (LibOK.nil _) Sp.mixed (r := .c (.int x)) (ob := true) (obs := []) (by kernel_rfl) rfl trivial rfl) rfl

def fromC : Con := objNew fun args => match args with
  | [.agg cs] => some (h32 cs, tKey, keyC (scalS cs) 0 0 0 0 0 0)
  | _ => none
theorem from_ok : ConOK Tryz.prog fFrom fromC := by
  refine objNew_ok (fn := Tryz.f10) (by kernel_rfl) rfl rfl fun args ty cs h hp w => ?_
  split at h <;> try (cases h; done)
  rename_i hs
  simp only [Option.some.injEq, Prod.mk.injEq] at h
  obtain ⟨hh, rfl, rfl⟩ := h
  have hok := hh
  simp only [h32, Bool.and_eq_true] at hok
  have hl := Nat.eq_of_beq_eq_true hok.1
  have ht : hs.take 32 = hs := List.take_of_length_le (by omega)
  have := Fn.xt (X := atW w 0) (LibOK.cons pscal_ok (LibOK.nil _)) Sp.mixed (fuel := 1000) (f := fFrom) (args := [.agg hs]) (T := []) (nk := 0) (told := []) (ob := bnd (bnd true (Nat.ble (0 + 32) hs.length)) (h32 (hs.take 32))) (obs := []) (r := .c (.ptr 20 0)) (k := 20) (b := some ⟨keyC (scalS (hs.take 32)) 0 0 0 0 0 0, tKey, false, true⟩) (by kernel_rfl) (by rw [ht, hh]; simp [bnd_true]; omega) trivial
  rw [ht] at this
  intro ρ w0 vs h1 h2 h3
  exact (this ρ w0 vs h1 h2 h3).mono fun e w' ⟨u, v, T', ρ', a, ⟨b, c⟩, d⟩ => ⟨u, v, T', ρ', a, ⟨20, b, c⟩, d⟩

/-! The public number. -/
abbrev tPK : Nat := 43
theorem clo_lib : LibOK Tryz.prog [(fpPow, powC), (fStoreB, storeBC)] := LibOK.cons ppow_ok (LibOK.cons storeB_ok (LibOK.nil _))
theorem clo_fn (X : Cx) (x d s e y m u : Int) (ty t2 : TypeId) : Sx.Fn Tryz.prog fClo X [.c (.ptr 1 0)] [(0, some ⟨keyC x d s e y m u, ty, false, true⟩), (1, some ⟨[.ptr 0 0], t2, true, false⟩)] 2 fun v T => v = .tup [] ∧ T.blk 0 = some ⟨keyC x d s e (powS 4 x) 1 u, ty, false, true⟩ :=
  Fn.xt clo_lib Sp.mixed (fuel := 1000) (told := []) (ob := true) (obs := []) (by kernel_rfl) rfl trivial

end Go.Proofs.YtabiknpgakhkkaaGreat.Pr
end

section
namespace Go.Proofs.YtabiknpgakhkkaaGreat.Pr
open Go.RowKit Go.Proofs.YtabiknpgakhkkaaGreat.Sx Go.Proofs.YtabiknpgakhkkaaGreat.Pw
set_option linter.unusedVariables false

/-- The closure, in a world that holds the key and the variable which holds the key's address. -/
theorem clo_world (g : Nat) (ty : TypeId) (x d s e y m u : Int) (w : World) (bx : Nat) (hobj : ObjAt w g ty (keyC x d s e y m u)) (hbx : ∃ t2 fr, w.heap[bx]? = some (.cells #[.pointer (some ⟨g, 0, none⟩)] t2 fr)) (hne : bx ≠ g) :
    Calls Tryz.prog fClo #[.pointer (some ⟨bx, 0, none⟩)] w fun r w' => r = .returned (.tuple #[]) ∧ Chg g w w' ∧ ObjAt w' g ty (keyC x d s e (powS 4 x) 1 u) := by
  obtain ⟨t2, fr, hbx⟩ := hbx
  have hB : ∀ ρ, (⟨keyC x d s e y m u, ty, false, true⟩ : Blk).R ρ w (some ⟨g, 7, false, 0⟩) := fun ρ => of_obj (l := ⟨g, 7, false, 0⟩) rfl rfl hobj rfl
  have hBx : (⟨[.ptr 0 0], t2, true, false⟩ : Blk).R (renL [some ⟨g, 7, false, 0⟩, some ⟨bx, 1, false, 0⟩]) w (some ⟨bx, 1, false, 0⟩) :=
    ⟨[], [.pointer (some ⟨g, 0, none⟩)], [], fr, hbx, .cons ⟨⟨g, 7, false, 0⟩, rfl, rfl⟩ .nil, rfl, fun h => by simp at h, rfl, fun h => by simp at h, fun _ h => by simp at h⟩
  have hrel : Rel ⟨w, w.heap.size, [g], 1⟩ (renL [some ⟨g, 7, false, 0⟩, some ⟨bx, 1, false, 0⟩]) [(0, some ⟨keyC x d s e y m u, ty, false, true⟩), (1, some ⟨[.ptr 0 0], t2, true, false⟩)] w := by
    have cases2 : ∀ {k : Nat} {c : Blk}, Tab.blk [(0, some ⟨keyC x d s e y m u, ty, false, true⟩), (1, some ⟨[.ptr 0 0], t2, true, false⟩)] k = some c → (k = 0 ∧ c = ⟨keyC x d s e y m u, ty, false, true⟩) ∨ (k = 1 ∧ c = ⟨[.ptr 0 0], t2, true, false⟩) := fun {k c} hc => by
      rw [blk_cons] at hc
      by_cases h0 : 0 = k
      · rw [if_pos h0] at hc; cases hc; exact .inl ⟨h0.symm, rfl⟩
      · rw [if_neg h0, blk_cons] at hc
        by_cases h1 : 1 = k
        · rw [if_pos h1] at hc; cases hc; exact .inr ⟨h1.symm, rfl⟩
        · rw [if_neg h1] at hc; simp [Tab.blk, Sx.get] at hc
    refine ⟨rfl, rfl, rfl, Nat.le_refl _, Nat.le_refl _, fun _ _ _ => rfl, fun k c hc => ?_, fun k c l hc ho hl => ?_, fun k l hl hlit => ?_, fun _ _ h => by simp [renL] at h⟩
    · rcases cases2 hc with ⟨rfl, rfl⟩ | ⟨rfl, rfl⟩
      · exact ⟨_, rfl, hB _⟩
      · exact ⟨_, rfl, hBx⟩
    · rcases cases2 hc with ⟨rfl, rfl⟩ | ⟨rfl, rfl⟩
      · have : l = ⟨g, 7, false, 0⟩ := by simpa [renL] using hl.symm
        subst this
        refine ⟨.inr (by simp), fun k' c' l' hne' hc' hl' => ?_⟩
        rcases cases2 hc' with ⟨rfl, rfl⟩ | ⟨rfl, rfl⟩
        · exact absurd rfl hne'
        · have : l' = ⟨bx, 1, false, 0⟩ := by simpa [renL] using hl'.symm
          subst this; exact hne
      · simp at ho
    · simp only [renL] at hl
      match k, hl with
      | 0, hl => cases hl; cases hlit
      | 1, hl => cases hl; cases hlit
      | k + 2, hl => simp at hl
  refine (clo_fn ⟨w, w.heap.size, [g], 1⟩ x d s e y m u ty t2 _ w _ hrel (.cons ⟨⟨bx, 1, false, 0⟩, rfl, rfl⟩ .nil) (renL_fresh _ (Nat.le_refl _))).mono fun r w' ⟨v, v', T', ρ', he, ⟨hv', hT⟩, hur, hag, hrel'⟩ => ?_
  subst hv'
  obtain ⟨vs, rfl, hvs⟩ := hur
  cases hvs
  have hk := hag 0 (Nat.lt_succ_self 0) (some ⟨g, 7, false, 0⟩) rfl
  obtain ⟨z, hz, hR⟩ := hrel'.blk 0 _ hT
  rw [hk] at hz; cases hz
  obtain ⟨_, _, ho⟩ := obj_of hR rfl rfl rfl
  exact ⟨he, ⟨hrel'.os, hrel'.tape, hrel'.output, hrel'.size0, fun i hi hne => hrel'.old i hi (by simpa using hne)⟩, ho⟩

set_option maxRecDepth 100000 in
set_option maxHeartbeats 1600000 in
/-- The first time. -/
theorem pub_first (w : World) (g : Nat) (ty : TypeId) (x e y m u : Int) (hobj : ObjAt w g ty (keyC x 0 0 e y m u)) :
    Calls Tryz.prog fPub #[.pointer (some ⟨g, 0, none⟩)] w fun r w' => r = .returned (.int .i64 (powS 4 x)) ∧ Chg g w w' ∧ ObjAt w' g ty (keyC x 1 0 e (powS 4 x) 1 u) := by
  have hmf : ∀ (fn : Fn) (first cap : Array Value) (w : World), (Instr.makeFunc fn first cap).run Tryz.prog w = .ok (.func fn first cap) w := fun _ _ _ _ => rfl
  have hb : g < w.heap.size := by obtain ⟨vs, hh, _⟩ := hobj; exact (Array.getElem?_eq_some_iff.1 hh).1
  -- the world in which Do is called
  have hal : ObjAt (w.alloc (.cells #[.pointer (some ⟨g, 0, none⟩)] tPK)) g ty (keyC x 0 0 e y m u) := by
    obtain ⟨vs, hh, hc⟩ := hobj
    exact ⟨vs, by rw [heap_alloc_old _ _ hb]; exact hh, hc⟩
  have hca : Chg g w (w.alloc (.cells #[.pointer (some ⟨g, 0, none⟩)] tPK)) := Chg.below ((Below.refl _ _).alloc (Nat.le_refl _) _)
  obtain ⟨v0, a0, r0⟩ := hal.cell (off := 1) rfl
  have r0 : v0 = .int .u32 0 := r0
  subst r0
  obtain ⟨v1, a1, r1⟩ := hal.cell (off := 2) rfl
  have r1 : v1 = .int .i32 0 := r1
  subst r1
  obtain ⟨o2, c2⟩ := hal.set (off := 2) (c := .ik .i32 1) (v := .int .i32 1) (by simp [keyC]) rfl
  have hbox : ∀ w' : World, Chg g ((w.alloc (.cells #[.pointer (some ⟨g, 0, none⟩)] tPK)).setCell ⟨g, 2, none⟩ (.int .i32 1)) w' → w'.heap[w.heap.size]? = some (.cells #[.pointer (some ⟨g, 0, none⟩)] tPK (0, 0)) := fun w' hc => by
    have h1 := (c2.trans hc).other w.heap.size (by simp) (by omega)
    rw [h1, heap_alloc_new]
  have hclo := clo_world g ty x 0 1 e y m u _ w.heap.size o2 ⟨_, _, hbox _ (Chg.refl _ _)⟩ (by omega)
  -- behind it
  have hEnd : ∀ w2, (Chg g ((w.alloc (.cells #[.pointer (some ⟨g, 0, none⟩)] tPK)).setCell ⟨g, 2, none⟩ (.int .i32 1)) w2 ∧ ObjAt w2 g ty (keyC x 0 1 e (powS 4 x) 1 u)) →
      Chg g w ((w2.drew.setCell ⟨g, 1, none⟩ (.int .u32 1)).setCell ⟨g, 2, none⟩ (.int .i32 0)) ∧ ObjAt ((w2.drew.setCell ⟨g, 1, none⟩ (.int .u32 1)).setCell ⟨g, 2, none⟩ (.int .i32 0)) g ty (keyC x 1 0 e (powS 4 x) 1 u) ∧
      ((w2.drew.setCell ⟨g, 1, none⟩ (.int .u32 1)).setCell ⟨g, 2, none⟩ (.int .i32 0)).cell? ⟨w.heap.size, 0, none⟩ = some (.pointer (some ⟨g, 0, none⟩)) ∧
      ((w2.drew.setCell ⟨g, 1, none⟩ (.int .u32 1)).setCell ⟨g, 2, none⟩ (.int .i32 0)).cell? ⟨g, 4, none⟩ = some (.int .i64 (powS 4 x)) := fun w2 ⟨hc, ho⟩ => by
    obtain ⟨o3, c3⟩ := ObjAt.set (w := w2.drew) (off := 1) (c := .ik .u32 1) (v := .int .u32 1) ho (by simp [keyC]) rfl
    obtain ⟨o4, c4⟩ := o3.set (off := 2) (c := .ik .i32 0) (v := .int .i32 0) (by simp [keyC]) rfl
    have hch := ((hc.drew).trans c3).trans c4
    refine ⟨(hca.trans c2).trans hch, o4, ?_, ?_⟩
    · rw [cell_of (hbox _ hch)]; rfl
    · obtain ⟨v4, a4, r4⟩ := o4.cell (off := 4) rfl
      rw [a4]; exact congrArg some r4
  have hpar : (w.alloc (.cells #[.pointer (some ⟨g, 0, none⟩)] tPK)).cell? ⟨w.heap.size, 0, none⟩ = some (.pointer (some ⟨g, 0, none⟩)) := by simp
  go_enter Tryz.func23, Tryz.ntmps23
  go_wp2_with (go_at_call 54; refine (do_first g 1 ⟨w.heap.size, 0, none⟩ _ a0 a1 hal.thaw hal.thaw (fun w2 => Chg g ((w.alloc (.cells #[.pointer (some ⟨g, 0, none⟩)] tPK)).setCell ⟨g, 2, none⟩ (.int .i32 1)) w2 ∧ ObjAt w2 g ty (keyC x 0 1 e (powS 4 x) 1 u)) (hclo.mono fun r w2 ⟨hr, hc, ho⟩ => ⟨hr, ⟨by obtain ⟨v, hv, hr⟩ := ho.cell (off := 1) rfl; rw [hv]; exact congrArg some hr, by obtain ⟨v, hv, hr⟩ := ho.cell (off := 2) rfl; rw [hv]; exact congrArg some hr, ho.thaw, ho.thaw⟩, hc, ho⟩)).mono ?_; rintro e w' ⟨rfl, w2, hR, rfl⟩; obtain ⟨hC, hO, hP, hV⟩ := hEnd w2 hR; have hP' : ((w2.setCell ⟨g, 1, none⟩ (.int .u32 1)).setCell ⟨g, 2, none⟩ (.int .i32 0)).cell? ⟨w.heap.size, 0, none⟩ = some (.pointer (some ⟨g, 0, none⟩)) := hP; have hV' : ((w2.setCell ⟨g, 1, none⟩ (.int .u32 1)).setCell ⟨g, 2, none⟩ (.int .i32 0)).cell? ⟨g, 4, none⟩ = some (.int .i64 (powS 4 x)) := hV)
  go_ret
  exact ⟨rfl, hC, hO⟩

set_option maxRecDepth 100000 in
set_option maxHeartbeats 1600000 in
/-- Each time after the first. -/
theorem pub_look (w : World) (g o : Nat) (x d s e y m u : Int) (hd : ¬ d = 0) (hobj : ObjRd w g o (keyC x d s e y m u)) :
    Calls Tryz.prog fPub #[.pointer (some ⟨g, o, none⟩)] w fun r w' => r = .returned (.int .i64 y) ∧ w' = w.alloc (.cells #[.pointer (some ⟨g, o, none⟩)] tPK) := by
  have hmf : ∀ (fn : Fn) (first cap : Array Value) (w : World), (Instr.makeFunc fn first cap).run Tryz.prog w = .ok (.func fn first cap) w := fun _ _ _ _ => rfl
  have hal : ObjRd (w.alloc (.cells #[.pointer (some ⟨g, o, none⟩)] tPK)) g o (keyC x d s e y m u) := by
    obtain ⟨pre, vs, rest, ty, fr, hh, hc, hp⟩ := hobj
    exact ⟨pre, vs, rest, ty, fr, by rw [heap_alloc_old _ _ (Array.getElem?_eq_some_iff.1 hh).1]; exact hh, hc, hp⟩
  obtain ⟨v0, a0, r0⟩ := hal.cell (off := 1) rfl
  have r0 : v0 = .int .u32 d := r0
  subst r0
  obtain ⟨v4, a4, r4⟩ := hal.cell (off := 4) rfl
  have r4 : v4 = .int .i64 y := r4
  subst r4
  go_enter Tryz.func23, Tryz.ntmps23
  go_wp2_with (go_at_call 54; refine (do_done ⟨g, o + 1, none⟩ d hd _ _ a0).mono ?_; rintro e w' ⟨rfl, rfl⟩)
  go_ret
  exact ⟨rfl, rfl⟩
theorem pub_again (w : World) (g : Nat) (ty : TypeId) (x d s e y m u : Int) (hd : ¬ d = 0) (hobj : ObjAt w g ty (keyC x d s e y m u)) :
    Calls Tryz.prog fPub #[.pointer (some ⟨g, 0, none⟩)] w fun r w' => r = .returned (.int .i64 y) ∧ Chg g w w' ∧ ObjAt w' g ty (keyC x d s e y m u) := by
  have hb : g < w.heap.size := by obtain ⟨vs, hh, _⟩ := hobj; exact (Array.getElem?_eq_some_iff.1 hh).1
  have hrd : ObjRd w g 0 (keyC x d s e y m u) := by
    obtain ⟨vs, hh, hc⟩ := hobj
    exact ⟨[], vs, [], ty, (0, 0), by simpa using hh, hc, rfl⟩
  refine (pub_look w g 0 x d s e y m u hd hrd).mono fun r w' ⟨h1, h2⟩ => ⟨h1, ?_, ?_⟩
  · subst h2; exact Chg.below ((Below.refl _ _).alloc (Nat.le_refl _) _)
  · subst h2
    obtain ⟨vs, hh, hc⟩ := hobj
    exact ⟨vs, by rw [heap_alloc_old _ _ hb]; exact hh, hc⟩
/-- The public number of a key that has one. -/
def pubR : Con := objR fun off cs ps => match off, cs, ps with
  | 0, [.int x, .ik .u32 d, .ik .i32 s, .ik .u32 e, .int y, .ik .u32 m, .int u], [] => some (!(d == 0), .c (.int y))
  | _, _, _ => none
theorem pubR_ok : ConOK Tryz.prog fPub pubR := by
  refine objR_ok (fn := Tryz.f23) (by kernel_rfl) rfl rfl fun off cs ps v h hs hps => ?_
  split at h <;> try (cases h; done)
  rename_i x d s e y m u
  simp only [Option.some.injEq, Prod.mk.injEq, Bool.not_eq_true', beq_eq_false_iff_ne, ne_eq] at h
  obtain ⟨hd, rfl⟩ := h
  intro w g o us hrd hus
  cases hus
  exact (pub_look w g o x d s e y m u hd hrd).mono fun r w' ⟨h1, h2⟩ => ⟨_, h1, fun ρ => rfl, by subst h2; exact (Below.refl _ _).alloc (Nat.le_refl _) _⟩

def pubC : Con := objW fun off cs ps => match off, cs, ps with
  | 0, [.int x, .ik .u32 d, .ik .i32 s, .ik .u32 e, .int y, .ik .u32 m, .int u], [] => bif d == 0 then some (s == 0, .c (.int (powS 4 x)), keyC x 1 0 e (powS 4 x) 1 u) else some (true, .c (.int y), keyC x d s e y m u)
  | _, _, _ => none
theorem pub_ok : ConOK Tryz.prog fPub pubC := by
  refine objW_ok (fn := Tryz.f23) (by kernel_rfl) rfl rfl fun off cs ps v cs' h hs hps => ?_
  split at h <;> try (cases h; done)
  rename_i x d s e y m u
  intro w g ty us hobj hus
  cases hus
  cases hd : d == 0 with
  | true =>
    rw [hd] at h
    simp only [cond_true, Option.some.injEq, Prod.mk.injEq, beq_iff_eq] at h
    simp only [beq_iff_eq] at hd
    obtain ⟨rfl, rfl, rfl⟩ := h
    subst hd
    exact (pub_first w g ty x e y m u hobj).mono fun r w' ⟨a, b, c⟩ => ⟨_, a, fun ρ => rfl, b, c⟩
  | false =>
    rw [hd] at h
    simp only [cond_false, Option.some.injEq, Prod.mk.injEq, true_and] at h
    obtain ⟨rfl, rfl⟩ := h
    exact (pub_again w g ty x d s e y m u (by simpa using hd) hobj).mono fun r w' ⟨a, b, c⟩ => ⟨_, a, fun ρ => rfl, b, c⟩

end Go.Proofs.YtabiknpgakhkkaaGreat.Pr
end

section
namespace Go.Proofs.YtabiknpgakhkkaaGreat.Pr
open Go.RowKit Go.Proofs.YtabiknpgakhkkaaGreat.Sx Go.Proofs.YtabiknpgakhkkaaGreat.Pw
set_option linter.unusedVariables false

abbrev fFour : Nat := 59
abbrev frFour : Nat := 62
abbrev frFrom : Nat := 12
abbrev tB8 : Nat := 5
/-- A number's lowest four bytes, the highest first. -/
def fourB (n : Int) : List UInt8 := [UInt8.ofInt (n.fdiv 16777216), UInt8.ofInt (n.fdiv 65536), UInt8.ofInt (n.fdiv 256), UInt8.ofInt n]
def fourC : Con := pureLit tB8 fun args => match args with | [.c (.int n)] => some (fourB n) | _ => none
theorem four_ok : ConOK Tryz.prog fFour fourC := by
  refine pureLit_ok (fn := Tryz.f59) (by kernel_rfl) rfl rfl fun args bs h hp w => ?_
  split at h <;> try (cases h; done)
  rename_i n
  simp only [Option.some.injEq] at h; subst h
  intro ρ w0 vs h1 h2 h3
  exact (Fn.xt (X := atW w 0) (LibOK.nil _) Sp.mixed (fuel := 1000) (f := fFour) (args := [.c (.int n)]) (T := []) (nk := 0) (told := []) (ob := true) (obs := []) (r := .c (.slc 48 0 1 4 (some 4))) (k := 48) (b := some ⟨(fourB n).map SC.u8, tB8, false, false⟩) (by kernel_rfl) rfl trivial ρ w0 vs h1 h2 h3).mono fun e w' ⟨u, v, T', ρ', a, ⟨b, c⟩, d⟩ => ⟨u, v, T', ρ', a, ⟨48, b, c⟩, d⟩
theorem rfour_ok : ConOK Tryz.prog frFour fourC := by
  refine pureLit_ok (fn := Tryz.f62) (by kernel_rfl) rfl rfl fun args bs h hp w => ?_
  split at h <;> try (cases h; done)
  rename_i n
  simp only [Option.some.injEq] at h; subst h
  intro ρ w0 vs h1 h2 h3
  exact (Fn.xt (X := atW w 0) (LibOK.nil _) Sp.mixed (fuel := 1000) (f := frFour) (args := [.c (.int n)]) (T := []) (nk := 0) (told := []) (ob := true) (obs := []) (r := .c (.slc 48 0 1 4 (some 4))) (k := 48) (b := some ⟨(fourB n).map SC.u8, tB8, false, false⟩) (by kernel_rfl) rfl trivial ρ w0 vs h1 h2 h3).mono fun e w' ⟨u, v, T', ρ', a, ⟨b, c⟩, d⟩ => ⟨u, v, T', ρ', a, ⟨48, b, c⟩, d⟩

def zb : List UInt8 := List.replicate 32 0
def shareT : List UInt8 := [115, 104, 97, 114, 101]
/-- What is shared by one of this secret with one of this public number. -/
def shS (x p : Int) : Sp.H4 := Sp.deriveS zb shareT (fourB (powS p x))
def shY (x p : Int) : SV := .tup [.inr (Sp.hc (shS x p)), .inl (.bool true)]
/-- The same, or nothing. -/
def shI (x p : Int) : Sp.H4 := bif isS p then shS x p else ⟨0, 0, 0, 0⟩
def shN : SV := .tup [.inr Sp.zeroH, .inl (.bool false)]
theorem hc_sole (h : Sp.H4) : (Sp.hc h).all SC.sole = true := rfl
theorem tup_any {h : Sp.H4} {b : Bool} {ρ ρ' : Ren} {u : Value} (hu : (SV.tup [.inr (Sp.hc h), .inl (.bool b)]).R ρ u) : (SV.tup [.inr (Sp.hc h), .inl (.bool b)]).R ρ' u := by
  obtain ⟨vs, rfl, hvs⟩ := hu
  cases hvs with
  | cons h1 h2 =>
  cases h2 with
  | cons h3 h4 =>
  cases h4
  obtain ⟨us, hus, hcs⟩ := h1
  exact ⟨_, rfl, .cons ⟨us, hus, sole_all hcs (hc_sole h)⟩ (.cons h3 .nil)⟩

/-! The document's. -/
def rfromC : Con := pureConB (fun | [.agg cs] => h32 cs | _ => true) fun | [.agg cs] => some (.agg [.int (scalS cs), .int (powS 4 (scalS cs))]) | _ => none
theorem rfrom_ok : ConOK Tryz.prog frFrom rfromC := by
  refine pureConB_ok (fn := Tryz.f12) (by kernel_rfl) rfl rfl fun args v hok h => ?_
  split at h <;> try (cases h; done)
  rename_i cs
  simp only [Option.some.injEq] at h; subst h
  simp only at hok
  have hok' := hok
  simp only [h32, Bool.and_eq_true] at hok'
  have hl := Nat.eq_of_beq_eq_true hok'.1
  have ht : cs.take 32 = cs := List.take_of_length_le (by omega)
  refine ⟨rfl, by simp [SV.sole, soleU hok'.2], fun w => ?_⟩
  exact Fn.xv (fuel := 1000) (told := []) (LibOK.cons rscal_ok (LibOK.cons rpow_ok (LibOK.nil _))) Sp.mixed (r := .agg [.int (scalS (cs.take 32)), .int (powS 4 (scalS (cs.take 32)))]) (ob := bnd (bnd true (Nat.ble (0 + 32) cs.length)) (h32 (cs.take 32))) (obs := []) (by kernel_rfl) (by rw [ht, hok]; simp [bnd_true]; omega) trivial (by rw [ht])
/-- A contract of plain values that hands back a tuple. -/
def tupCon (spec : List SV → Option SV) : Con := ⟨false, fun args _ _ => match spec args with
  | some v => some (.new ⟨args.all SV.sole, [], v, []⟩)
  | none => none⟩
theorem tupCon_ok {P : Program} {f : FuncId} {spec : List SV → Option SV} {fn : Func} (hf : P.funcs[f]? = some fn) (hn : (fn.name == "runtime.NumGoroutine") = false) (hb : fn.body.isNone = false)
    (h : ∀ args v, spec args = some v → args.all SV.sole = true → (∀ ρ ρ' u, v.R ρ u → v.R ρ' u) ∧ ∀ w, Sx.Fn P f (atW w 0) args [] 0 fun r _ => r = v) : ConOK P f (tupCon spec) := by
  refine ⟨fun args w => enters_of hf hn hb args w, fun args T kb r hr hob hobs X ρ w vs hrel ha hfr => ?_, fun args T kb r hr => ?_⟩
  · simp only [tupCon] at hr
    split at hr <;> try (cases hr; done)
    rename_i v hv
    simp only [Option.some.injEq, Eff.new.injEq] at hr; subst hr
    obtain ⟨h1, h3⟩ := h args v hv hob
    refine (h3 w renNone w vs (rel0 w) (plains_R ha hob) fun k _ => rfl).mono fun e w' ⟨u, v', T', ρ', he, hv', hur, _, hrel'⟩ => ⟨u, ρ, he, ?_, New.of_below hrel'.below⟩
    subst hv'; exact h1 _ _ _ hur
  · simp only [tupCon] at hr
    split at hr <;> cases hr

/-! Secrets and powers under names of their own: what is computed of literals is not to be computed. -/
def fromG (S : List SC → Int) : Con := objNew fun args => match args with
  | [.agg cs] => some (h32 cs, tKey, keyC (S cs) 0 0 0 0 0 0)
  | _ => none
def rfromG (S : List SC → Int) (W : Int → Int → Int) : Con := pureConB (fun | [.agg cs] => h32 cs | _ => true) fun | [.agg cs] => some (.agg [.int (S cs), .int (W 4 (S cs))]) | _ => none
def pubG (W : Int → Int → Int) : Con := objW fun off cs ps => match off, cs, ps with
  | 0, [.int x, .ik .u32 d, .ik .i32 s, .ik .u32 e, .int y, .ik .u32 m, .int u], [] => bif d == 0 then some (s == 0, .c (.int (W 4 x)), keyC x 1 0 e (W 4 x) 1 u) else some (true, .c (.int y), keyC x d s e y m u)
  | _, _, _ => none
theorem fromG_ok {S : List SC → Int} (hS : S = scalS) : ConOK Tryz.prog fFrom (fromG S) := by subst hS; exact from_ok
theorem pubG_ok {W : Int → Int → Int} (hW : W = powS) : ConOK Tryz.prog fPub (pubG W) := by subst hW; exact pub_ok
theorem rfromG_ok {S : List SC → Int} {W : Int → Int → Int} (hS : S = scalS) (hW : W = powS) : ConOK Tryz.prog frFrom (rfromG S W) := by subst hS hW; exact rfrom_ok
end Go.Proofs.YtabiknpgakhkkaaGreat.Pr
end

