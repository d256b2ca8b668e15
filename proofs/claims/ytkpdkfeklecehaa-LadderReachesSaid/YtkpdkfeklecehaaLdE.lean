/-
  The nodes that stand for a node.
-/
import Derived.Test.YtkpdkfeklecehaaSxX
import Derived.Test.YtkpdkfeklecehaaSxY
import Derived.Test.YtkpdkfeklecehaaVwC
namespace Go.Proofs.Ytkpdkfeklecehaa.Ld
open Go.RowKit Go.Proofs.Ytkpdkfeklecehaa.Sx Go.Proofs.Ytkpdkfeklecehaa.Pw Go.Proofs.Ytkpdkfeklecehaa.Vw
set_option linter.unusedVariables false
set_option linter.unusedSimpArgs false
set_option maxRecDepth 10000

abbrev fRes : Nat := 26
def keyN (t : Tr) (n : Nat) : Int := bif Nat.beq (n % 2) 0 then t.sl (n / 2) else t.nd n
/-- The nodes that stand for a node of a level. -/
def resS (t : Tr) : Nat → Nat → List Nat
  | 0, n => bif keyN t n != 0 then [n] else []
  | d + 1, n => bif keyN t n != 0 then [n] else resS t d (n - 2 ^ d) ++ resS t d (n + 2 ^ d)
theorem resS_len (t : Tr) : ∀ d n, (resS t d n).length ≤ 2 ^ d
  | 0, n => by unfold resS; cases keyN t n != 0 <;> simp
  | d + 1, n => by
    have h1 := resS_len t d (n - 2 ^ d)
    have h2 := resS_len t d (n + 2 ^ d)
    have h3 : 1 ≤ 2 ^ (d + 1) := Nat.one_le_two_pow
    unfold resS
    cases keyN t n != 0 with
    | true => simpa using h3
    | false => rw [cond_false, List.length_append, Nat.pow_succ]; omega
def lvl (n : Nat) : Nat := bif Nat.beq (n % 2) 0 then 0 else bif Nat.beq (n % 4) 1 then 1 else bif Nat.beq (n % 8) 3 then 2 else 3
def nodC (l : List Nat) : List SC := l.map fun n => .int (Int.ofNat n)
theorem nodC_sole (l : List Nat) : (nodC l).all SC.sole = true := by
  unfold nodC
  rw [List.all_eq_true]
  intro x hx
  obtain ⟨n, _, rfl⟩ := List.mem_map.1 hx
  rfl
theorem nodC_len (l : List Nat) : (nodC l).length = l.length := List.length_map _
abbrev RT : Type := Tr → Nat → Nat → List Nat
def resC (D : Nat) (R : RT) : Con := pureRow 1 3 (fun | [.agg cs, .c (.int (.ofNat n))] => isTr cs && (Nat.blt n 15 && Nat.ble (lvl n) D) | _ => false) fun | [.agg cs, .c (.int (.ofNat n))] => some ((R (Tr.of cs 0) (lvl n) n).length, nodC (R (Tr.of cs 0) (lvl n) n)) | _ => none
noncomputable abbrev reL (C : List (Nat × Con)) : List (Nat × Con) := deep Try.prog 1000 [40, 41, 42] C 3
theorem reL_ok {C : List (Nat × Con)} (hC : LibOK Try.prog C) : LibOK Try.prog (reL C) := deep_ok hC Sp.mixed (by kernel_rfl) 3
section
variable (t : Tr) (R : RT)
noncomputable abbrev reX (C : List (Nat × Con)) (n : Nat) (told : List Bool) (kb : Nat) := (xfunL Try.prog (reL C) 1000 fRes [.agg t.cs, .c (.int (.ofNat n))] [] 0 told).map fun q => (q.1, q.2.1, q.2.2.1, q.2.2.2.blk kb)
def reA (d n : Nat) : List Nat := R (Tr.of t.cs 0) d n
def reO (A B : List Nat) : Bool := (Nat.ble (0 + B.length * 1) (nodC B).length && true) && (Nat.ble (A.length + B.length) maxLen && (Nat.ble ((A.length + B.length) * 8) 140737488355328 && Nat.ble (A.length * 1) (nodC A).length))
def reB (n : Nat) (A B : List Nat) : Bool := bnd (bnd (bnd (tn true (keyN t n != 0)) ((nodC A).all SC.sole && true)) ((nodC B).all SC.sole && true)) (reO A B)
def reC2 (A B : List Nat) : List SC := (nodC A).take (A.length * 1) ++ ((nodC B).drop 0).take (B.length * 1)
theorem re_y0 : reX t [] 0 [false, true] 48 = some (ty_ true (keyN t 0 != 0), [], .c (.slc 48 0 1 1 (some 1)), some ⟨[.int 0], 3, false, true⟩) := by kernel_rfl
theorem re_n0 : reX t [] 0 [false, false, true] 48 = some (tn true (keyN t 0 != 0), [], .c .nils, none) := by kernel_rfl
theorem re_y1 : reX t [] 1 [false, true] 48 = some (ty_ true (keyN t 1 != 0), [], .c (.slc 48 0 1 1 (some 1)), some ⟨[.int 1], 3, false, true⟩) := by kernel_rfl
theorem re_n1 : reX t [(fRes, resC 0 R)] 1 [false, false, false] 108 = some (reB t 1 (reA t R 0 0) (reA t R 0 2), [], .c (.slc 108 0 1 ((reA t R 0 0).length + (reA t R 0 2).length) none), some ⟨reC2 (reA t R 0 0) (reA t R 0 2), 3, true, true⟩) := by kernel_rfl
theorem re_y2 : reX t [] 2 [false, true] 48 = some (ty_ true (keyN t 2 != 0), [], .c (.slc 48 0 1 1 (some 1)), some ⟨[.int 2], 3, false, true⟩) := by kernel_rfl
theorem re_n2 : reX t [] 2 [false, false, true] 48 = some (tn true (keyN t 2 != 0), [], .c .nils, none) := by kernel_rfl
theorem re_y3 : reX t [] 3 [false, true] 48 = some (ty_ true (keyN t 3 != 0), [], .c (.slc 48 0 1 1 (some 1)), some ⟨[.int 3], 3, false, true⟩) := by kernel_rfl
theorem re_n3 : reX t [(fRes, resC 1 R)] 3 [false, false, false] 108 = some (reB t 3 (reA t R 1 1) (reA t R 1 5), [], .c (.slc 108 0 1 ((reA t R 1 1).length + (reA t R 1 5).length) none), some ⟨reC2 (reA t R 1 1) (reA t R 1 5), 3, true, true⟩) := by kernel_rfl
theorem re_y4 : reX t [] 4 [false, true] 48 = some (ty_ true (keyN t 4 != 0), [], .c (.slc 48 0 1 1 (some 1)), some ⟨[.int 4], 3, false, true⟩) := by kernel_rfl
theorem re_n4 : reX t [] 4 [false, false, true] 48 = some (tn true (keyN t 4 != 0), [], .c .nils, none) := by kernel_rfl
theorem re_y5 : reX t [] 5 [false, true] 48 = some (ty_ true (keyN t 5 != 0), [], .c (.slc 48 0 1 1 (some 1)), some ⟨[.int 5], 3, false, true⟩) := by kernel_rfl
theorem re_n5 : reX t [(fRes, resC 0 R)] 5 [false, false, false] 108 = some (reB t 5 (reA t R 0 4) (reA t R 0 6), [], .c (.slc 108 0 1 ((reA t R 0 4).length + (reA t R 0 6).length) none), some ⟨reC2 (reA t R 0 4) (reA t R 0 6), 3, true, true⟩) := by kernel_rfl
theorem re_y6 : reX t [] 6 [false, true] 48 = some (ty_ true (keyN t 6 != 0), [], .c (.slc 48 0 1 1 (some 1)), some ⟨[.int 6], 3, false, true⟩) := by kernel_rfl
theorem re_n6 : reX t [] 6 [false, false, true] 48 = some (tn true (keyN t 6 != 0), [], .c .nils, none) := by kernel_rfl
theorem re_y7 : reX t [] 7 [false, true] 48 = some (ty_ true (keyN t 7 != 0), [], .c (.slc 48 0 1 1 (some 1)), some ⟨[.int 7], 3, false, true⟩) := by kernel_rfl
theorem re_n7 : reX t [(fRes, resC 2 R)] 7 [false, false, false] 108 = some (reB t 7 (reA t R 2 3) (reA t R 2 11), [], .c (.slc 108 0 1 ((reA t R 2 3).length + (reA t R 2 11).length) none), some ⟨reC2 (reA t R 2 3) (reA t R 2 11), 3, true, true⟩) := by kernel_rfl
theorem re_y8 : reX t [] 8 [false, true] 48 = some (ty_ true (keyN t 8 != 0), [], .c (.slc 48 0 1 1 (some 1)), some ⟨[.int 8], 3, false, true⟩) := by kernel_rfl
theorem re_n8 : reX t [] 8 [false, false, true] 48 = some (tn true (keyN t 8 != 0), [], .c .nils, none) := by kernel_rfl
theorem re_y9 : reX t [] 9 [false, true] 48 = some (ty_ true (keyN t 9 != 0), [], .c (.slc 48 0 1 1 (some 1)), some ⟨[.int 9], 3, false, true⟩) := by kernel_rfl
theorem re_n9 : reX t [(fRes, resC 0 R)] 9 [false, false, false] 108 = some (reB t 9 (reA t R 0 8) (reA t R 0 10), [], .c (.slc 108 0 1 ((reA t R 0 8).length + (reA t R 0 10).length) none), some ⟨reC2 (reA t R 0 8) (reA t R 0 10), 3, true, true⟩) := by kernel_rfl
theorem re_y10 : reX t [] 10 [false, true] 48 = some (ty_ true (keyN t 10 != 0), [], .c (.slc 48 0 1 1 (some 1)), some ⟨[.int 10], 3, false, true⟩) := by kernel_rfl
theorem re_n10 : reX t [] 10 [false, false, true] 48 = some (tn true (keyN t 10 != 0), [], .c .nils, none) := by kernel_rfl
theorem re_y11 : reX t [] 11 [false, true] 48 = some (ty_ true (keyN t 11 != 0), [], .c (.slc 48 0 1 1 (some 1)), some ⟨[.int 11], 3, false, true⟩) := by kernel_rfl
theorem re_n11 : reX t [(fRes, resC 1 R)] 11 [false, false, false] 108 = some (reB t 11 (reA t R 1 9) (reA t R 1 13), [], .c (.slc 108 0 1 ((reA t R 1 9).length + (reA t R 1 13).length) none), some ⟨reC2 (reA t R 1 9) (reA t R 1 13), 3, true, true⟩) := by kernel_rfl
theorem re_y12 : reX t [] 12 [false, true] 48 = some (ty_ true (keyN t 12 != 0), [], .c (.slc 48 0 1 1 (some 1)), some ⟨[.int 12], 3, false, true⟩) := by kernel_rfl
theorem re_n12 : reX t [] 12 [false, false, true] 48 = some (tn true (keyN t 12 != 0), [], .c .nils, none) := by kernel_rfl
theorem re_y13 : reX t [] 13 [false, true] 48 = some (ty_ true (keyN t 13 != 0), [], .c (.slc 48 0 1 1 (some 1)), some ⟨[.int 13], 3, false, true⟩) := by kernel_rfl
theorem re_n13 : reX t [(fRes, resC 0 R)] 13 [false, false, false] 108 = some (reB t 13 (reA t R 0 12) (reA t R 0 14), [], .c (.slc 108 0 1 ((reA t R 0 12).length + (reA t R 0 14).length) none), some ⟨reC2 (reA t R 0 12) (reA t R 0 14), 3, true, true⟩) := by kernel_rfl
theorem re_y14 : reX t [] 14 [false, true] 48 = some (ty_ true (keyN t 14 != 0), [], .c (.slc 48 0 1 1 (some 1)), some ⟨[.int 14], 3, false, true⟩) := by kernel_rfl
theorem re_n14 : reX t [] 14 [false, false, true] 48 = some (tn true (keyN t 14 != 0), [], .c .nils, none) := by kernel_rfl
end
theorem bnd2 {a b : Bool} (h1 : a = true) (h2 : b = true) : bnd a b = true := by subst h1 h2; rfl
theorem reO_eq {A B : List Nat} (hA : A.length ≤ 8) (hB : B.length ≤ 8) : reO A B = true := by
  unfold reO
  rw [show Nat.ble (0 + B.length * 1) (nodC B).length = true by rw [Nat.ble_eq, nodC_len]; omega, show Nat.ble (A.length + B.length) maxLen = true by rw [Nat.ble_eq]; unfold maxLen; omega, show Nat.ble ((A.length + B.length) * 8) 140737488355328 = true by rw [Nat.ble_eq]; omega, show Nat.ble (A.length * 1) (nodC A).length = true by rw [Nat.ble_eq, nodC_len]; omega]; rfl
theorem reC2_eq (A B : List Nat) : reC2 A B = nodC (A ++ B) := by
  unfold reC2
  rw [List.drop_zero, List.take_of_length_le (by rw [nodC_len]; omega), List.take_of_length_le (by rw [nodC_len]; omega)]
  unfold nodC
  rw [List.map_append]

abbrev ReFn (t : Tr) (d n : Nat) : Prop := ∀ w : World, Sx.Fn Try.prog fRes (atW w 0) [.agg t.cs, .c (.int (.ofNat n))] [] 0 fun v T => rowIs 1 (resS t d n).length 3 (nodC (resS t d n)) v T
theorem rs_0 (t : Tr) : ReFn t 0 0 := fun w => by
  cases h : keyN t 0 != 0 with
  | true =>
    rw [show resS t 0 0 = [0] by unfold resS; rw [h]; rfl]
    exact (Fn.xtL (reL_ok (LibOK.nil _)) Sp.mixed [false, true] (re_y0 t) (ty_eq rfl h) trivial).mono fun v T ⟨hv, hT⟩ => .inl ⟨48, some 1, false, hv, hT⟩
  | false =>
    rw [show resS t 0 0 = [] by unfold resS; rw [h]; rfl]
    exact (Fn.xtL (reL_ok (LibOK.nil _)) Sp.mixed [false, false, true] (re_n0 t) (tn_eq rfl h) trivial).mono fun v T ⟨hv, hT⟩ => .inr ⟨rfl, rfl, hv⟩
theorem rs_1 (t : Tr) (hC : ConOK Try.prog fRes (resC 0 resS)) : ReFn t 1 1 := fun w => by
  cases h : keyN t 1 != 0 with
  | true =>
    rw [show resS t 1 1 = [1] by unfold resS; rw [h]; rfl]
    exact (Fn.xtL (reL_ok (LibOK.nil _)) Sp.mixed [false, true] (re_y1 t) (ty_eq rfl h) trivial).mono fun v T ⟨hv, hT⟩ => .inl ⟨48, some 1, false, hv, hT⟩
  | false =>
    have e : resS t 1 1 = reA t resS 0 0 ++ reA t resS 0 2 := by unfold resS; rw [h]; rfl
    rw [e]
    have l1 : (reA t resS 0 0).length ≤ 1 := resS_len _ 0 0
    have l2 : (reA t resS 0 2).length ≤ 1 := resS_len _ 0 2
    refine (Fn.xtL (reL_ok (LibOK.cons hC (LibOK.nil _))) Sp.mixed [false, false, false] (re_n1 t resS) (bnd2 (bnd2 (bnd2 (tn_eq rfl h) (by rw [nodC_sole]; rfl)) (by rw [nodC_sole]; rfl)) (reO_eq (by omega) (by omega))) trivial).mono fun v T ⟨hv, hT⟩ => .inl ⟨108, none, true, ?_, ?_⟩
    · rw [hv, List.length_append]
    · rw [hT, reC2_eq]
theorem rs_2 (t : Tr) : ReFn t 0 2 := fun w => by
  cases h : keyN t 2 != 0 with
  | true =>
    rw [show resS t 0 2 = [2] by unfold resS; rw [h]; rfl]
    exact (Fn.xtL (reL_ok (LibOK.nil _)) Sp.mixed [false, true] (re_y2 t) (ty_eq rfl h) trivial).mono fun v T ⟨hv, hT⟩ => .inl ⟨48, some 1, false, hv, hT⟩
  | false =>
    rw [show resS t 0 2 = [] by unfold resS; rw [h]; rfl]
    exact (Fn.xtL (reL_ok (LibOK.nil _)) Sp.mixed [false, false, true] (re_n2 t) (tn_eq rfl h) trivial).mono fun v T ⟨hv, hT⟩ => .inr ⟨rfl, rfl, hv⟩
theorem rs_3 (t : Tr) (hC : ConOK Try.prog fRes (resC 1 resS)) : ReFn t 2 3 := fun w => by
  cases h : keyN t 3 != 0 with
  | true =>
    rw [show resS t 2 3 = [3] by unfold resS; rw [h]; rfl]
    exact (Fn.xtL (reL_ok (LibOK.nil _)) Sp.mixed [false, true] (re_y3 t) (ty_eq rfl h) trivial).mono fun v T ⟨hv, hT⟩ => .inl ⟨48, some 1, false, hv, hT⟩
  | false =>
    have e : resS t 2 3 = reA t resS 1 1 ++ reA t resS 1 5 := by unfold resS; rw [h]; rfl
    rw [e]
    have l1 : (reA t resS 1 1).length ≤ 2 := resS_len _ 1 1
    have l2 : (reA t resS 1 5).length ≤ 2 := resS_len _ 1 5
    refine (Fn.xtL (reL_ok (LibOK.cons hC (LibOK.nil _))) Sp.mixed [false, false, false] (re_n3 t resS) (bnd2 (bnd2 (bnd2 (tn_eq rfl h) (by rw [nodC_sole]; rfl)) (by rw [nodC_sole]; rfl)) (reO_eq (by omega) (by omega))) trivial).mono fun v T ⟨hv, hT⟩ => .inl ⟨108, none, true, ?_, ?_⟩
    · rw [hv, List.length_append]
    · rw [hT, reC2_eq]
theorem rs_4 (t : Tr) : ReFn t 0 4 := fun w => by
  cases h : keyN t 4 != 0 with
  | true =>
    rw [show resS t 0 4 = [4] by unfold resS; rw [h]; rfl]
    exact (Fn.xtL (reL_ok (LibOK.nil _)) Sp.mixed [false, true] (re_y4 t) (ty_eq rfl h) trivial).mono fun v T ⟨hv, hT⟩ => .inl ⟨48, some 1, false, hv, hT⟩
  | false =>
    rw [show resS t 0 4 = [] by unfold resS; rw [h]; rfl]
    exact (Fn.xtL (reL_ok (LibOK.nil _)) Sp.mixed [false, false, true] (re_n4 t) (tn_eq rfl h) trivial).mono fun v T ⟨hv, hT⟩ => .inr ⟨rfl, rfl, hv⟩
theorem rs_5 (t : Tr) (hC : ConOK Try.prog fRes (resC 0 resS)) : ReFn t 1 5 := fun w => by
  cases h : keyN t 5 != 0 with
  | true =>
    rw [show resS t 1 5 = [5] by unfold resS; rw [h]; rfl]
    exact (Fn.xtL (reL_ok (LibOK.nil _)) Sp.mixed [false, true] (re_y5 t) (ty_eq rfl h) trivial).mono fun v T ⟨hv, hT⟩ => .inl ⟨48, some 1, false, hv, hT⟩
  | false =>
    have e : resS t 1 5 = reA t resS 0 4 ++ reA t resS 0 6 := by unfold resS; rw [h]; rfl
    rw [e]
    have l1 : (reA t resS 0 4).length ≤ 1 := resS_len _ 0 4
    have l2 : (reA t resS 0 6).length ≤ 1 := resS_len _ 0 6
    refine (Fn.xtL (reL_ok (LibOK.cons hC (LibOK.nil _))) Sp.mixed [false, false, false] (re_n5 t resS) (bnd2 (bnd2 (bnd2 (tn_eq rfl h) (by rw [nodC_sole]; rfl)) (by rw [nodC_sole]; rfl)) (reO_eq (by omega) (by omega))) trivial).mono fun v T ⟨hv, hT⟩ => .inl ⟨108, none, true, ?_, ?_⟩
    · rw [hv, List.length_append]
    · rw [hT, reC2_eq]
theorem rs_6 (t : Tr) : ReFn t 0 6 := fun w => by
  cases h : keyN t 6 != 0 with
  | true =>
    rw [show resS t 0 6 = [6] by unfold resS; rw [h]; rfl]
    exact (Fn.xtL (reL_ok (LibOK.nil _)) Sp.mixed [false, true] (re_y6 t) (ty_eq rfl h) trivial).mono fun v T ⟨hv, hT⟩ => .inl ⟨48, some 1, false, hv, hT⟩
  | false =>
    rw [show resS t 0 6 = [] by unfold resS; rw [h]; rfl]
    exact (Fn.xtL (reL_ok (LibOK.nil _)) Sp.mixed [false, false, true] (re_n6 t) (tn_eq rfl h) trivial).mono fun v T ⟨hv, hT⟩ => .inr ⟨rfl, rfl, hv⟩
theorem rs_7 (t : Tr) (hC : ConOK Try.prog fRes (resC 2 resS)) : ReFn t 3 7 := fun w => by
  cases h : keyN t 7 != 0 with
  | true =>
    rw [show resS t 3 7 = [7] by unfold resS; rw [h]; rfl]
    exact (Fn.xtL (reL_ok (LibOK.nil _)) Sp.mixed [false, true] (re_y7 t) (ty_eq rfl h) trivial).mono fun v T ⟨hv, hT⟩ => .inl ⟨48, some 1, false, hv, hT⟩
  | false =>
    have e : resS t 3 7 = reA t resS 2 3 ++ reA t resS 2 11 := by unfold resS; rw [h]; rfl
    rw [e]
    have l1 : (reA t resS 2 3).length ≤ 4 := resS_len _ 2 3
    have l2 : (reA t resS 2 11).length ≤ 4 := resS_len _ 2 11
    refine (Fn.xtL (reL_ok (LibOK.cons hC (LibOK.nil _))) Sp.mixed [false, false, false] (re_n7 t resS) (bnd2 (bnd2 (bnd2 (tn_eq rfl h) (by rw [nodC_sole]; rfl)) (by rw [nodC_sole]; rfl)) (reO_eq (by omega) (by omega))) trivial).mono fun v T ⟨hv, hT⟩ => .inl ⟨108, none, true, ?_, ?_⟩
    · rw [hv, List.length_append]
    · rw [hT, reC2_eq]
theorem rs_8 (t : Tr) : ReFn t 0 8 := fun w => by
  cases h : keyN t 8 != 0 with
  | true =>
    rw [show resS t 0 8 = [8] by unfold resS; rw [h]; rfl]
    exact (Fn.xtL (reL_ok (LibOK.nil _)) Sp.mixed [false, true] (re_y8 t) (ty_eq rfl h) trivial).mono fun v T ⟨hv, hT⟩ => .inl ⟨48, some 1, false, hv, hT⟩
  | false =>
    rw [show resS t 0 8 = [] by unfold resS; rw [h]; rfl]
    exact (Fn.xtL (reL_ok (LibOK.nil _)) Sp.mixed [false, false, true] (re_n8 t) (tn_eq rfl h) trivial).mono fun v T ⟨hv, hT⟩ => .inr ⟨rfl, rfl, hv⟩
theorem rs_9 (t : Tr) (hC : ConOK Try.prog fRes (resC 0 resS)) : ReFn t 1 9 := fun w => by
  cases h : keyN t 9 != 0 with
  | true =>
    rw [show resS t 1 9 = [9] by unfold resS; rw [h]; rfl]
    exact (Fn.xtL (reL_ok (LibOK.nil _)) Sp.mixed [false, true] (re_y9 t) (ty_eq rfl h) trivial).mono fun v T ⟨hv, hT⟩ => .inl ⟨48, some 1, false, hv, hT⟩
  | false =>
    have e : resS t 1 9 = reA t resS 0 8 ++ reA t resS 0 10 := by unfold resS; rw [h]; rfl
    rw [e]
    have l1 : (reA t resS 0 8).length ≤ 1 := resS_len _ 0 8
    have l2 : (reA t resS 0 10).length ≤ 1 := resS_len _ 0 10
    refine (Fn.xtL (reL_ok (LibOK.cons hC (LibOK.nil _))) Sp.mixed [false, false, false] (re_n9 t resS) (bnd2 (bnd2 (bnd2 (tn_eq rfl h) (by rw [nodC_sole]; rfl)) (by rw [nodC_sole]; rfl)) (reO_eq (by omega) (by omega))) trivial).mono fun v T ⟨hv, hT⟩ => .inl ⟨108, none, true, ?_, ?_⟩
    · rw [hv, List.length_append]
    · rw [hT, reC2_eq]
theorem rs_10 (t : Tr) : ReFn t 0 10 := fun w => by
  cases h : keyN t 10 != 0 with
  | true =>
    rw [show resS t 0 10 = [10] by unfold resS; rw [h]; rfl]
    exact (Fn.xtL (reL_ok (LibOK.nil _)) Sp.mixed [false, true] (re_y10 t) (ty_eq rfl h) trivial).mono fun v T ⟨hv, hT⟩ => .inl ⟨48, some 1, false, hv, hT⟩
  | false =>
    rw [show resS t 0 10 = [] by unfold resS; rw [h]; rfl]
    exact (Fn.xtL (reL_ok (LibOK.nil _)) Sp.mixed [false, false, true] (re_n10 t) (tn_eq rfl h) trivial).mono fun v T ⟨hv, hT⟩ => .inr ⟨rfl, rfl, hv⟩
theorem rs_11 (t : Tr) (hC : ConOK Try.prog fRes (resC 1 resS)) : ReFn t 2 11 := fun w => by
  cases h : keyN t 11 != 0 with
  | true =>
    rw [show resS t 2 11 = [11] by unfold resS; rw [h]; rfl]
    exact (Fn.xtL (reL_ok (LibOK.nil _)) Sp.mixed [false, true] (re_y11 t) (ty_eq rfl h) trivial).mono fun v T ⟨hv, hT⟩ => .inl ⟨48, some 1, false, hv, hT⟩
  | false =>
    have e : resS t 2 11 = reA t resS 1 9 ++ reA t resS 1 13 := by unfold resS; rw [h]; rfl
    rw [e]
    have l1 : (reA t resS 1 9).length ≤ 2 := resS_len _ 1 9
    have l2 : (reA t resS 1 13).length ≤ 2 := resS_len _ 1 13
    refine (Fn.xtL (reL_ok (LibOK.cons hC (LibOK.nil _))) Sp.mixed [false, false, false] (re_n11 t resS) (bnd2 (bnd2 (bnd2 (tn_eq rfl h) (by rw [nodC_sole]; rfl)) (by rw [nodC_sole]; rfl)) (reO_eq (by omega) (by omega))) trivial).mono fun v T ⟨hv, hT⟩ => .inl ⟨108, none, true, ?_, ?_⟩
    · rw [hv, List.length_append]
    · rw [hT, reC2_eq]
theorem rs_12 (t : Tr) : ReFn t 0 12 := fun w => by
  cases h : keyN t 12 != 0 with
  | true =>
    rw [show resS t 0 12 = [12] by unfold resS; rw [h]; rfl]
    exact (Fn.xtL (reL_ok (LibOK.nil _)) Sp.mixed [false, true] (re_y12 t) (ty_eq rfl h) trivial).mono fun v T ⟨hv, hT⟩ => .inl ⟨48, some 1, false, hv, hT⟩
  | false =>
    rw [show resS t 0 12 = [] by unfold resS; rw [h]; rfl]
    exact (Fn.xtL (reL_ok (LibOK.nil _)) Sp.mixed [false, false, true] (re_n12 t) (tn_eq rfl h) trivial).mono fun v T ⟨hv, hT⟩ => .inr ⟨rfl, rfl, hv⟩
theorem rs_13 (t : Tr) (hC : ConOK Try.prog fRes (resC 0 resS)) : ReFn t 1 13 := fun w => by
  cases h : keyN t 13 != 0 with
  | true =>
    rw [show resS t 1 13 = [13] by unfold resS; rw [h]; rfl]
    exact (Fn.xtL (reL_ok (LibOK.nil _)) Sp.mixed [false, true] (re_y13 t) (ty_eq rfl h) trivial).mono fun v T ⟨hv, hT⟩ => .inl ⟨48, some 1, false, hv, hT⟩
  | false =>
    have e : resS t 1 13 = reA t resS 0 12 ++ reA t resS 0 14 := by unfold resS; rw [h]; rfl
    rw [e]
    have l1 : (reA t resS 0 12).length ≤ 1 := resS_len _ 0 12
    have l2 : (reA t resS 0 14).length ≤ 1 := resS_len _ 0 14
    refine (Fn.xtL (reL_ok (LibOK.cons hC (LibOK.nil _))) Sp.mixed [false, false, false] (re_n13 t resS) (bnd2 (bnd2 (bnd2 (tn_eq rfl h) (by rw [nodC_sole]; rfl)) (by rw [nodC_sole]; rfl)) (reO_eq (by omega) (by omega))) trivial).mono fun v T ⟨hv, hT⟩ => .inl ⟨108, none, true, ?_, ?_⟩
    · rw [hv, List.length_append]
    · rw [hT, reC2_eq]
theorem rs_14 (t : Tr) : ReFn t 0 14 := fun w => by
  cases h : keyN t 14 != 0 with
  | true =>
    rw [show resS t 0 14 = [14] by unfold resS; rw [h]; rfl]
    exact (Fn.xtL (reL_ok (LibOK.nil _)) Sp.mixed [false, true] (re_y14 t) (ty_eq rfl h) trivial).mono fun v T ⟨hv, hT⟩ => .inl ⟨48, some 1, false, hv, hT⟩
  | false =>
    rw [show resS t 0 14 = [] by unfold resS; rw [h]; rfl]
    exact (Fn.xtL (reL_ok (LibOK.nil _)) Sp.mixed [false, false, true] (re_n14 t) (tn_eq rfl h) trivial).mono fun v T ⟨hv, hT⟩ => .inr ⟨rfl, rfl, hv⟩
theorem rs_all0 (t : Tr) (n : Nat) (hn : n < 15) (hl : lvl n ≤ 0) : ReFn t (lvl n) n := by
  have : n = 0 ∨ n = 1 ∨ n = 2 ∨ n = 3 ∨ n = 4 ∨ n = 5 ∨ n = 6 ∨ n = 7 ∨ n = 8 ∨ n = 9 ∨ n = 10 ∨ n = 11 ∨ n = 12 ∨ n = 13 ∨ n = 14 := by omega
  rcases this with rfl | rfl | rfl | rfl | rfl | rfl | rfl | rfl | rfl | rfl | rfl | rfl | rfl | rfl | rfl
  · exact rs_0 t
  · exact absurd hl (by decide)
  · exact rs_2 t
  · exact absurd hl (by decide)
  · exact rs_4 t
  · exact absurd hl (by decide)
  · exact rs_6 t
  · exact absurd hl (by decide)
  · exact rs_8 t
  · exact absurd hl (by decide)
  · exact rs_10 t
  · exact absurd hl (by decide)
  · exact rs_12 t
  · exact absurd hl (by decide)
  · exact rs_14 t
theorem rs_all1 (h0 : ConOK Try.prog fRes (resC 0 resS)) (t : Tr) (n : Nat) (hn : n < 15) (hl : lvl n ≤ 1) : ReFn t (lvl n) n := by
  have : n = 0 ∨ n = 1 ∨ n = 2 ∨ n = 3 ∨ n = 4 ∨ n = 5 ∨ n = 6 ∨ n = 7 ∨ n = 8 ∨ n = 9 ∨ n = 10 ∨ n = 11 ∨ n = 12 ∨ n = 13 ∨ n = 14 := by omega
  rcases this with rfl | rfl | rfl | rfl | rfl | rfl | rfl | rfl | rfl | rfl | rfl | rfl | rfl | rfl | rfl
  · exact rs_0 t
  · exact rs_1 t h0
  · exact rs_2 t
  · exact absurd hl (by decide)
  · exact rs_4 t
  · exact rs_5 t h0
  · exact rs_6 t
  · exact absurd hl (by decide)
  · exact rs_8 t
  · exact rs_9 t h0
  · exact rs_10 t
  · exact absurd hl (by decide)
  · exact rs_12 t
  · exact rs_13 t h0
  · exact rs_14 t
theorem rs_all2 (h0 : ConOK Try.prog fRes (resC 0 resS)) (h1 : ConOK Try.prog fRes (resC 1 resS)) (t : Tr) (n : Nat) (hn : n < 15) (hl : lvl n ≤ 2) : ReFn t (lvl n) n := by
  have : n = 0 ∨ n = 1 ∨ n = 2 ∨ n = 3 ∨ n = 4 ∨ n = 5 ∨ n = 6 ∨ n = 7 ∨ n = 8 ∨ n = 9 ∨ n = 10 ∨ n = 11 ∨ n = 12 ∨ n = 13 ∨ n = 14 := by omega
  rcases this with rfl | rfl | rfl | rfl | rfl | rfl | rfl | rfl | rfl | rfl | rfl | rfl | rfl | rfl | rfl
  · exact rs_0 t
  · exact rs_1 t h0
  · exact rs_2 t
  · exact rs_3 t h1
  · exact rs_4 t
  · exact rs_5 t h0
  · exact rs_6 t
  · exact absurd hl (by decide)
  · exact rs_8 t
  · exact rs_9 t h0
  · exact rs_10 t
  · exact rs_11 t h1
  · exact rs_12 t
  · exact rs_13 t h0
  · exact rs_14 t
theorem resC_of {D : Nat} (h : ∀ (t : Tr) (n : Nat), n < 15 → lvl n ≤ D → ReFn t (lvl n) n) : ConOK Try.prog fRes (resC D resS) := by
  refine pureRow_ok (fn := Try.f26) (by kernel_rfl) rfl rfl fun args n cs hok hv => ?_
  split at hv <;> try (cases hv; done)
  rename_i c k
  simp only [Option.some.injEq, Prod.mk.injEq] at hv
  obtain ⟨rfl, rfl⟩ := hv
  simp only [Bool.and_eq_true, Nat.blt_eq, Nat.ble_eq] at hok
  obtain ⟨h1, h2, h3⟩ := hok
  have e := Tr.of_cs h1
  generalize Tr.of c 0 = t at e
  subst e
  exact h t k h2 h3
theorem res0_ok : ConOK Try.prog fRes (resC 0 resS) := resC_of rs_all0
theorem res1_ok : ConOK Try.prog fRes (resC 1 resS) := resC_of (rs_all1 res0_ok)
theorem res2_ok : ConOK Try.prog fRes (resC 2 resS) := resC_of (rs_all2 res0_ok res1_ok)
end Go.Proofs.Ytkpdkfeklecehaa.Ld
