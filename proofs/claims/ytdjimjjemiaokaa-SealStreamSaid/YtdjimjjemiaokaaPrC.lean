/-
  A key's public number: worked out once.
-/
import Derived.Test.YtdjimjjemiaokaaPrB
namespace Go.Proofs.Ytdjimjjemiaokaa.Pr
open Go.RowKit Go.Proofs.Ytdjimjjemiaokaa.Sx Go.Proofs.Ytdjimjjemiaokaa.Pw
set_option linter.unusedVariables false

/-- The closure, in a world that holds the key and the variable which holds the key's address. -/
theorem clo_world (g : Nat) (ty : TypeId) (x d s e y m u : Int) (w : World) (bx : Nat) (hobj : ObjAt w g ty (keyC x d s e y m u)) (hbx : ∃ t2 fr, w.heap[bx]? = some (.cells #[.pointer (some ⟨g, 0, none⟩)] t2 fr)) (hne : bx ≠ g) :
    Calls Try.prog fClo #[.pointer (some ⟨bx, 0, none⟩)] w fun r w' => r = .returned (.tuple #[]) ∧ Chg g w w' ∧ ObjAt w' g ty (keyC x d s e (powS 4 x) 1 u) := by
  obtain ⟨t2, fr, hbx⟩ := hbx
  have hB : ∀ ρ, (⟨keyC x d s e y m u, ty, false, true⟩ : Blk).R ρ w (some ⟨g, 7, false, 0⟩) := fun ρ => of_obj (l := ⟨g, 7, false, 0⟩) rfl rfl hobj rfl
  have hBx : (⟨[.ptr 0 0], t2, true, false⟩ : Blk).R (renL [some ⟨g, 7, false, 0⟩, some ⟨bx, 1, false, 0⟩]) w (some ⟨bx, 1, false, 0⟩) :=
    ⟨[], [.pointer (some ⟨g, 0, none⟩)], [], fr, hbx, .cons ⟨⟨g, 7, false, 0⟩, rfl, rfl⟩ .nil, rfl, fun h => by simp at h, rfl, fun h => by simp at h, fun _ h => by simp at h⟩
  have hrel : Rel ⟨w, w.heap.size, [g], 1⟩ (renL [some ⟨g, 7, false, 0⟩, some ⟨bx, 1, false, 0⟩]) [(0, some ⟨keyC x d s e y m u, ty, false, true⟩), (1, some ⟨[.ptr 0 0], t2, true, false⟩)] w := by
    have cases2 : ∀ {k : Nat} {c : Blk}, Tab.blk [(0, some ⟨keyC x d s e y m u, ty, false, true⟩), (1, some ⟨[.ptr 0 0], t2, true, false⟩)] k = some c → (k = 0 ∧ c = ⟨keyC x d s e y m u, ty, false, true⟩) ∨ (k = 1 ∧ c = ⟨[.ptr 0 0], t2, true, false⟩) := fun {k c} hc => by
      rw [blk_cons] at hc
      by_cases h0 : 0 = k
      · rw [if_pos h0] at hc; cases hc; exact .inl ⟨h0.symm, rfl⟩
      · rw [if_neg h0, blk_cons] at hc
        by_cases h1 : 1 = k
        · rw [if_pos h1] at hc; cases hc; exact .inr ⟨h1.symm, rfl⟩
        · rw [if_neg h1] at hc; simp [Tab.blk, Sx.get] at hc
    refine ⟨rfl, rfl, rfl, Nat.le_refl _, Nat.le_refl _, fun _ _ _ => rfl, fun k c hc => ?_, fun k c l hc ho hl => ?_, fun k l hl hlit => ?_, fun _ _ h => by simp [renL] at h⟩
    · rcases cases2 hc with ⟨rfl, rfl⟩ | ⟨rfl, rfl⟩
      · exact ⟨_, rfl, hB _⟩
      · exact ⟨_, rfl, hBx⟩
    · rcases cases2 hc with ⟨rfl, rfl⟩ | ⟨rfl, rfl⟩
      · have : l = ⟨g, 7, false, 0⟩ := by simpa [renL] using hl.symm
        subst this
        refine ⟨.inr (by simp), fun k' c' l' hne' hc' hl' => ?_⟩
        rcases cases2 hc' with ⟨rfl, rfl⟩ | ⟨rfl, rfl⟩
        · exact absurd rfl hne'
        · have : l' = ⟨bx, 1, false, 0⟩ := by simpa [renL] using hl'.symm
          subst this; exact hne
      · simp at ho
    · simp only [renL] at hl
      match k, hl with
      | 0, hl => cases hl; cases hlit
      | 1, hl => cases hl; cases hlit
      | k + 2, hl => simp at hl
  refine (clo_fn ⟨w, w.heap.size, [g], 1⟩ x d s e y m u ty t2 _ w _ hrel (.cons ⟨⟨bx, 1, false, 0⟩, rfl, rfl⟩ .nil) (renL_fresh _ (Nat.le_refl _))).mono fun r w' ⟨v, v', T', ρ', he, ⟨hv', hT⟩, hur, hag, hrel'⟩ => ?_
  subst hv'
  obtain ⟨vs, rfl, hvs⟩ := hur
  cases hvs
  have hk := hag 0 (Nat.lt_succ_self 0) (some ⟨g, 7, false, 0⟩) rfl
  obtain ⟨z, hz, hR⟩ := hrel'.blk 0 _ hT
  rw [hk] at hz; cases hz
  obtain ⟨_, _, ho⟩ := obj_of hR rfl rfl rfl
  exact ⟨he, ⟨hrel'.os, hrel'.tape, hrel'.output, hrel'.size0, fun i hi hne => hrel'.old i hi (by simpa using hne)⟩, ho⟩

set_option maxRecDepth 100000 in
set_option maxHeartbeats 1600000 in
/-- The first time. -/
theorem pub_first (w : World) (g : Nat) (ty : TypeId) (x e y m u : Int) (hobj : ObjAt w g ty (keyC x 0 0 e y m u)) :
    Calls Try.prog fPub #[.pointer (some ⟨g, 0, none⟩)] w fun r w' => r = .returned (.int .i64 (powS 4 x)) ∧ Chg g w w' ∧ ObjAt w' g ty (keyC x 1 0 e (powS 4 x) 1 u) := by
  have hmf : ∀ (fn : Fn) (first cap : Array Value) (w : World), (Instr.makeFunc fn first cap).run Try.prog w = .ok (.func fn first cap) w := fun _ _ _ _ => rfl
  have hb : g < w.heap.size := by obtain ⟨vs, hh, _⟩ := hobj; exact (Array.getElem?_eq_some_iff.1 hh).1
  -- the world in which Do is called
  have hal : ObjAt (w.alloc (.cells #[.pointer (some ⟨g, 0, none⟩)] tPK)) g ty (keyC x 0 0 e y m u) := by
    obtain ⟨vs, hh, hc⟩ := hobj
    exact ⟨vs, by rw [heap_alloc_old _ _ hb]; exact hh, hc⟩
  have hca : Chg g w (w.alloc (.cells #[.pointer (some ⟨g, 0, none⟩)] tPK)) := Chg.below ((Below.refl _ _).alloc (Nat.le_refl _) _)
  obtain ⟨v0, a0, r0⟩ := hal.cell (off := 1) rfl
  have r0 : v0 = .int .u32 0 := r0
  subst r0
  obtain ⟨v1, a1, r1⟩ := hal.cell (off := 2) rfl
  have r1 : v1 = .int .i32 0 := r1
  subst r1
  obtain ⟨o2, c2⟩ := hal.set (off := 2) (c := .ik .i32 1) (v := .int .i32 1) (by simp [keyC]) rfl
  have hbox : ∀ w' : World, Chg g ((w.alloc (.cells #[.pointer (some ⟨g, 0, none⟩)] tPK)).setCell ⟨g, 2, none⟩ (.int .i32 1)) w' → w'.heap[w.heap.size]? = some (.cells #[.pointer (some ⟨g, 0, none⟩)] tPK (0, 0)) := fun w' hc => by
    have h1 := (c2.trans hc).other w.heap.size (by simp) (by omega)
    rw [h1, heap_alloc_new]
  have hclo := clo_world g ty x 0 1 e y m u _ w.heap.size o2 ⟨_, _, hbox _ (Chg.refl _ _)⟩ (by omega)
  -- behind it
  have hEnd : ∀ w2, (Chg g ((w.alloc (.cells #[.pointer (some ⟨g, 0, none⟩)] tPK)).setCell ⟨g, 2, none⟩ (.int .i32 1)) w2 ∧ ObjAt w2 g ty (keyC x 0 1 e (powS 4 x) 1 u)) →
      Chg g w ((w2.drew.setCell ⟨g, 1, none⟩ (.int .u32 1)).setCell ⟨g, 2, none⟩ (.int .i32 0)) ∧ ObjAt ((w2.drew.setCell ⟨g, 1, none⟩ (.int .u32 1)).setCell ⟨g, 2, none⟩ (.int .i32 0)) g ty (keyC x 1 0 e (powS 4 x) 1 u) ∧
      ((w2.drew.setCell ⟨g, 1, none⟩ (.int .u32 1)).setCell ⟨g, 2, none⟩ (.int .i32 0)).cell? ⟨w.heap.size, 0, none⟩ = some (.pointer (some ⟨g, 0, none⟩)) ∧
      ((w2.drew.setCell ⟨g, 1, none⟩ (.int .u32 1)).setCell ⟨g, 2, none⟩ (.int .i32 0)).cell? ⟨g, 4, none⟩ = some (.int .i64 (powS 4 x)) := fun w2 ⟨hc, ho⟩ => by
    obtain ⟨o3, c3⟩ := ObjAt.set (w := w2.drew) (off := 1) (c := .ik .u32 1) (v := .int .u32 1) ho (by simp [keyC]) rfl
    obtain ⟨o4, c4⟩ := o3.set (off := 2) (c := .ik .i32 0) (v := .int .i32 0) (by simp [keyC]) rfl
    have hch := ((hc.drew).trans c3).trans c4
    refine ⟨(hca.trans c2).trans hch, o4, ?_, ?_⟩
    · rw [cell_of (hbox _ hch)]; rfl
    · obtain ⟨v4, a4, r4⟩ := o4.cell (off := 4) rfl
      rw [a4]; exact congrArg some r4
  have hpar : (w.alloc (.cells #[.pointer (some ⟨g, 0, none⟩)] tPK)).cell? ⟨w.heap.size, 0, none⟩ = some (.pointer (some ⟨g, 0, none⟩)) := by simp
  go_enter Try.func19, Try.ntmps19
  go_wp2_with (go_at_call 36; refine (do_first g 1 ⟨w.heap.size, 0, none⟩ _ a0 a1 hal.thaw hal.thaw (fun w2 => Chg g ((w.alloc (.cells #[.pointer (some ⟨g, 0, none⟩)] tPK)).setCell ⟨g, 2, none⟩ (.int .i32 1)) w2 ∧ ObjAt w2 g ty (keyC x 0 1 e (powS 4 x) 1 u)) (hclo.mono fun r w2 ⟨hr, hc, ho⟩ => ⟨hr, ⟨by obtain ⟨v, hv, hr⟩ := ho.cell (off := 1) rfl; rw [hv]; exact congrArg some hr, by obtain ⟨v, hv, hr⟩ := ho.cell (off := 2) rfl; rw [hv]; exact congrArg some hr, ho.thaw, ho.thaw⟩, hc, ho⟩)).mono ?_; rintro e w' ⟨rfl, w2, hR, rfl⟩; obtain ⟨hC, hO, hP, hV⟩ := hEnd w2 hR; have hP' : ((w2.setCell ⟨g, 1, none⟩ (.int .u32 1)).setCell ⟨g, 2, none⟩ (.int .i32 0)).cell? ⟨w.heap.size, 0, none⟩ = some (.pointer (some ⟨g, 0, none⟩)) := hP; have hV' : ((w2.setCell ⟨g, 1, none⟩ (.int .u32 1)).setCell ⟨g, 2, none⟩ (.int .i32 0)).cell? ⟨g, 4, none⟩ = some (.int .i64 (powS 4 x)) := hV)
  go_ret
  exact ⟨rfl, hC, hO⟩

set_option maxRecDepth 100000 in
set_option maxHeartbeats 1600000 in
/-- Each time after the first. -/
theorem pub_look (w : World) (g o : Nat) (x d s e y m u : Int) (hd : ¬ d = 0) (hobj : ObjRd w g o (keyC x d s e y m u)) :
    Calls Try.prog fPub #[.pointer (some ⟨g, o, none⟩)] w fun r w' => r = .returned (.int .i64 y) ∧ w' = w.alloc (.cells #[.pointer (some ⟨g, o, none⟩)] tPK) := by
  have hmf : ∀ (fn : Fn) (first cap : Array Value) (w : World), (Instr.makeFunc fn first cap).run Try.prog w = .ok (.func fn first cap) w := fun _ _ _ _ => rfl
  have hal : ObjRd (w.alloc (.cells #[.pointer (some ⟨g, o, none⟩)] tPK)) g o (keyC x d s e y m u) := by
    obtain ⟨pre, vs, rest, ty, fr, hh, hc, hp⟩ := hobj
    exact ⟨pre, vs, rest, ty, fr, by rw [heap_alloc_old _ _ (Array.getElem?_eq_some_iff.1 hh).1]; exact hh, hc, hp⟩
  obtain ⟨v0, a0, r0⟩ := hal.cell (off := 1) rfl
  have r0 : v0 = .int .u32 d := r0
  subst r0
  obtain ⟨v4, a4, r4⟩ := hal.cell (off := 4) rfl
  have r4 : v4 = .int .i64 y := r4
  subst r4
  go_enter Try.func19, Try.ntmps19
  go_wp2_with (go_at_call 36; refine (do_done ⟨g, o + 1, none⟩ d hd _ _ a0).mono ?_; rintro e w' ⟨rfl, rfl⟩)
  go_ret
  exact ⟨rfl, rfl⟩
theorem pub_again (w : World) (g : Nat) (ty : TypeId) (x d s e y m u : Int) (hd : ¬ d = 0) (hobj : ObjAt w g ty (keyC x d s e y m u)) :
    Calls Try.prog fPub #[.pointer (some ⟨g, 0, none⟩)] w fun r w' => r = .returned (.int .i64 y) ∧ Chg g w w' ∧ ObjAt w' g ty (keyC x d s e y m u) := by
  have hb : g < w.heap.size := by obtain ⟨vs, hh, _⟩ := hobj; exact (Array.getElem?_eq_some_iff.1 hh).1
  have hrd : ObjRd w g 0 (keyC x d s e y m u) := by
    obtain ⟨vs, hh, hc⟩ := hobj
    exact ⟨[], vs, [], ty, (0, 0), by simpa using hh, hc, rfl⟩
  refine (pub_look w g 0 x d s e y m u hd hrd).mono fun r w' ⟨h1, h2⟩ => ⟨h1, ?_, ?_⟩
  · subst h2; exact Chg.below ((Below.refl _ _).alloc (Nat.le_refl _) _)
  · subst h2
    obtain ⟨vs, hh, hc⟩ := hobj
    exact ⟨vs, by rw [heap_alloc_old _ _ hb]; exact hh, hc⟩
/-- The public number of a key that has one. -/
def pubR : Con := objR fun off cs ps => match off, cs, ps with
  | 0, [.int x, .ik .u32 d, .ik .i32 s, .ik .u32 e, .int y, .ik .u32 m, .int u], [] => some (!(d == 0), .c (.int y))
  | _, _, _ => none
theorem pubR_ok : ConOK Try.prog fPub pubR := by
  refine objR_ok (fn := Try.f19) (by kernel_rfl) rfl rfl fun off cs ps v h hs hps => ?_
  split at h <;> try (cases h; done)
  rename_i x d s e y m u
  simp only [Option.some.injEq, Prod.mk.injEq, Bool.not_eq_true', beq_eq_false_iff_ne, ne_eq] at h
  obtain ⟨hd, rfl⟩ := h
  intro w g o us hrd hus
  cases hus
  exact (pub_look w g o x d s e y m u hd hrd).mono fun r w' ⟨h1, h2⟩ => ⟨_, h1, fun ρ => rfl, by subst h2; exact (Below.refl _ _).alloc (Nat.le_refl _) _⟩

def pubC : Con := objW fun off cs ps => match off, cs, ps with
  | 0, [.int x, .ik .u32 d, .ik .i32 s, .ik .u32 e, .int y, .ik .u32 m, .int u], [] => bif d == 0 then some (s == 0, .c (.int (powS 4 x)), keyC x 1 0 e (powS 4 x) 1 u) else some (true, .c (.int y), keyC x d s e y m u)
  | _, _, _ => none
theorem pub_ok : ConOK Try.prog fPub pubC := by
  refine objW_ok (fn := Try.f19) (by kernel_rfl) rfl rfl fun off cs ps v cs' h hs hps => ?_
  split at h <;> try (cases h; done)
  rename_i x d s e y m u
  intro w g ty us hobj hus
  cases hus
  cases hd : d == 0 with
  | true =>
    rw [hd] at h
    simp only [cond_true, Option.some.injEq, Prod.mk.injEq, beq_iff_eq] at h
    simp only [beq_iff_eq] at hd
    obtain ⟨rfl, rfl, rfl⟩ := h
    subst hd
    exact (pub_first w g ty x e y m u hobj).mono fun r w' ⟨a, b, c⟩ => ⟨_, a, fun ρ => rfl, b, c⟩
  | false =>
    rw [hd] at h
    simp only [cond_false, Option.some.injEq, Prod.mk.injEq, true_and] at h
    obtain ⟨rfl, rfl⟩ := h
    exact (pub_again w g ty x d s e y m u (by simpa using hd) hobj).mono fun r w' ⟨a, b, c⟩ => ⟨_, a, fun ρ => rfl, b, c⟩

end Go.Proofs.Ytdjimjjemiaokaa.Pr
