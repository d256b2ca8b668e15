/-
  Some members of votes' laws; Check where nothing is done; what all laws of votes ask last.
-/
import Derived.Test.YtabiknpgakhkkaaGreatVtA
set_option maxRecDepth 20000
namespace Go.Proofs.YtabiknpgakhkkaaGreat.Vt
open Go.RowKit Go.Proofs.YtabiknpgakhkkaaGreat.Sx Go.Proofs.YtabiknpgakhkkaaGreat.Pw Go.Proofs.YtabiknpgakhkkaaGreat.Vw
set_option linter.unusedVariables false
set_option linter.unusedSimpArgs false
set_option maxRecDepth 10000

/-! A view of some members. -/
abbrev fSome : Nat := 18
abbrev fSeed : Nat := 20
def seedC (n : Int) : List SC := .u8 (UInt8.ofInt n) :: .u8 5 :: List.replicate 30 (.u8 0)
def keyX (n : Int) : Int := scalS (seedC n)
def keyY (n : Int) : Int := powS 4 (keyX n)
def someV (m a k : Int) : Vi := ⟨0, ⟨fun i => bif decide ((i : Int) < m) then keyY i else 0, fun i => bif decide ((i : Int) < m) then keyY (i + 20) else 0, fun _ => 0⟩, fun i => bif decide ((i : Int) < m) then decide ((i : Int) < a) else false, k, fun _ => 0⟩
noncomputable abbrev smL : List (Nat × Con) := deep Tryz.prog 1000 [fSeed] [(frFrom, rfromC)] 1
theorem smL_ok : LibOK Tryz.prog smL := deep_ok (LibOK.cons rfrom_ok (LibOK.nil _)) Sp.mixed (by kernel_rfl) 1
theorem some_0 (a k : Int) : (xfunL Tryz.prog smL 1000 fSome [.c (.int 0), .c (.int a), .c (.int k)] [] 0 []).map (fun q => (q.1, q.2.1, q.2.2.1)) = some (true, [], .agg (someV 0 a k).cs) := by kernel_rfl
theorem some_1 (a k : Int) : (xfunL Tryz.prog smL 1000 fSome [.c (.int 1), .c (.int a), .c (.int k)] [] 0 []).map (fun q => (q.1, q.2.1, q.2.2.1)) = some (true, [], .agg (someV 1 a k).cs) := by kernel_rfl
theorem some_2 (a k : Int) : (xfunL Tryz.prog smL 1000 fSome [.c (.int 2), .c (.int a), .c (.int k)] [] 0 []).map (fun q => (q.1, q.2.1, q.2.2.1)) = some (true, [], .agg (someV 2 a k).cs) := by kernel_rfl
theorem some_3 (a k : Int) : (xfunL Tryz.prog smL 1000 fSome [.c (.int 3), .c (.int a), .c (.int k)] [] 0 []).map (fun q => (q.1, q.2.1, q.2.2.1)) = some (true, [], .agg (someV 3 a k).cs) := by kernel_rfl
theorem some_4 (a k : Int) : (xfunL Tryz.prog smL 1000 fSome [.c (.int 4), .c (.int a), .c (.int k)] [] 0 []).map (fun q => (q.1, q.2.1, q.2.2.1)) = some (true, [], .agg (someV 4 a k).cs) := by kernel_rfl
theorem some_5 (a k : Int) : (xfunL Tryz.prog smL 1000 fSome [.c (.int 5), .c (.int a), .c (.int k)] [] 0 []).map (fun q => (q.1, q.2.1, q.2.2.1)) = some (true, [], .agg (someV 5 a k).cs) := by kernel_rfl
theorem some_6 (a k : Int) : (xfunL Tryz.prog smL 1000 fSome [.c (.int 6), .c (.int a), .c (.int k)] [] 0 []).map (fun q => (q.1, q.2.1, q.2.2.1)) = some (true, [], .agg (someV 6 a k).cs) := by kernel_rfl
theorem some_7 (a k : Int) : (xfunL Tryz.prog smL 1000 fSome [.c (.int 7), .c (.int a), .c (.int k)] [] 0 []).map (fun q => (q.1, q.2.1, q.2.2.1)) = some (true, [], .agg (someV 7 a k).cs) := by kernel_rfl
theorem some_8 (a k : Int) : (xfunL Tryz.prog smL 1000 fSome [.c (.int 8), .c (.int a), .c (.int k)] [] 0 []).map (fun q => (q.1, q.2.1, q.2.2.1)) = some (true, [], .agg (someV 8 a k).cs) := by kernel_rfl
theorem some_fn (m : Nat) (hm : m ≤ 8) (a k : Int) (w : World) : Sx.Fn Tryz.prog fSome (atW w 0) [.c (.int (.ofNat m)), .c (.int a), .c (.int k)] [] 0 fun x _ => x = .agg (someV m a k).cs := by
  have h : m = 0 ∨ m = 1 ∨ m = 2 ∨ m = 3 ∨ m = 4 ∨ m = 5 ∨ m = 6 ∨ m = 7 ∨ m = 8 := by omega
  rcases h with rfl | rfl | rfl | rfl | rfl | rfl | rfl | rfl | rfl
  · exact Fn.xvL smL_ok Sp.mixed [] (some_0 a k) rfl trivial rfl
  · exact Fn.xvL smL_ok Sp.mixed [] (some_1 a k) rfl trivial rfl
  · exact Fn.xvL smL_ok Sp.mixed [] (some_2 a k) rfl trivial rfl
  · exact Fn.xvL smL_ok Sp.mixed [] (some_3 a k) rfl trivial rfl
  · exact Fn.xvL smL_ok Sp.mixed [] (some_4 a k) rfl trivial rfl
  · exact Fn.xvL smL_ok Sp.mixed [] (some_5 a k) rfl trivial rfl
  · exact Fn.xvL smL_ok Sp.mixed [] (some_6 a k) rfl trivial rfl
  · exact Fn.xvL smL_ok Sp.mixed [] (some_7 a k) rfl trivial rfl
  · exact Fn.xvL smL_ok Sp.mixed [] (some_8 a k) rfl trivial rfl
def memIn (m : Int) : Bool := decide (0 ≤ m) && decide (m ≤ 8)
def someC (S : Int → Int → Int → Vi) : Con := pureConB (fun | [.c (.int m), .c (.int a), .c (.int k)] => memIn m | _ => true) fun | [.c (.int m), .c (.int a), .c (.int k)] => some (.agg (S m a k).cs) | _ => none
theorem some_ok {S : Int → Int → Int → Vi} (hS : S = someV) : ConOK Tryz.prog fSome (someC S) := by
  subst hS
  refine pureConB_ok (fn := Tryz.f18) (by kernel_rfl) rfl rfl fun args v hok h => ?_
  split at h <;> try (cases h; done)
  rename_i m a k
  simp only [Option.some.injEq] at h; subst h
  simp only [memIn, Bool.and_eq_true, decide_eq_true_eq] at hok
  refine ⟨rfl, rfl, fun w => ?_⟩
  have := some_fn m.toNat (by omega) a k w
  rw [show (Int.ofNat m.toNat) = m from Int.toNat_of_nonneg hok.1, show ((m.toNat : Nat) : Int) = m from Int.toNat_of_nonneg hok.1] at this
  exact this

/-! Check where nothing is done. -/
abbrev fChk : Nat := 15
def chk0C : Con := sVal [none, none, some 5, some 3] fun ps rs => match ps, rs with | [.agg cs, .c (.int f)], [r, q] => some (isVi cs && Nat.beq r.n 0, .c (.int (bif Nat.beq q.n 0 then 0 else 8))) | _, _ => none
theorem chk0_run (v : Vi) (f : Int) (o1 o2 : Nat) (c1 c2 : List SC) (t1 t2 : TypeId) : (xfunL Tryz.prog [] 1000 fChk [.agg v.cs, .c (.int f), .c (.slc 0 o1 5 0 none), .c (.slc 1 o2 3 0 none)] [(0, some ⟨c1, t1, true, false⟩), (1, some ⟨c2, t2, true, false⟩)] 2 []).map (fun q => (q.1, q.2.1, q.2.2.1)) =
  some (true, [], .c (.int 0)) := by kernel_rfl
theorem chk1_run (v : Vi) (f : Int) (o1 o2 n : Nat) (c1 c2 : List SC) (t1 t2 : TypeId) : (xfunL Tryz.prog [] 1000 fChk [.agg v.cs, .c (.int f), .c (.slc 0 o1 5 0 none), .c (.slc 1 o2 3 n none)] [(0, some ⟨c1, t1, true, false⟩), (1, some ⟨c2, t2, true, false⟩)] 2 [true, true]).map (fun q => (q.1, q.2.1, q.2.2.1)) =
  some (ty_ true (decide ((n : Int) > 0)), [], .c (.int 8)) := by kernel_rfl
theorem chk0_ok : ConOK Tryz.prog fChk chk0C := by
  refine sVal_ok (fn := Tryz.f15) (by kernel_rfl) rfl rfl fun ps rs v h' hps hrs => ?_
  split at h' <;> try (cases h'; done)
  rename_i cs i r q
  simp only [Option.some.injEq, Prod.mk.injEq, Bool.and_eq_true] at h'
  obtain ⟨⟨hv, hn⟩, rfl⟩ := h'
  replace hn := Nat.eq_of_beq_eq_true hn
  refine ⟨rfl, fun w => ?_⟩
  have e := Vi.of_cs hv
  generalize Vi.of cs = t at e
  subst e
  have h1 := hrs r (by simp)
  have h2 := hrs q (by simp)
  obtain ⟨o1, n1, c1, t1, tail1, own1⟩ := r
  obtain ⟨o2, n2, c2, t2, tail2, own2⟩ := q
  obtain ⟨a1, a2, _⟩ := h1
  obtain ⟨b1, b2, _⟩ := h2
  simp only at a1 a2 b1 b2 hn
  subst a1 a2 b1 b2 hn
  cases n2 with
  | zero => exact Fn.xvL (LibOK.nil _) Sp.mixed [] (chk0_run t i o1 o2 c1 c2 t1 t2) rfl trivial rfl
  | succ k => exact Fn.xvL (LibOK.nil _) Sp.mixed [true, true] (chk1_run t i o1 o2 (k + 1) c1 c2 t1 t2) (ty_eq rfl (decide_eq_true (by omega))) trivial rfl

/-! Known. -/
abbrev fKnownT : Nat := 17
abbrev knL (S : Int → Int → Int → Vi) (P : Vi → Int → List Ope → Sp.H4) : List (Nat × Con) := [(fSome, someC S), (fChk, chk0C), (fPaper, paC P), (frPaper, paC P)]
theorem knL_ok : LibOK Tryz.prog (knL someV paperS) := LibOK.cons (some_ok rfl) (LibOK.cons chk0_ok (LibOK.cons (pa_ok rfl) (LibOK.cons (rpa_ok rfl) (LibOK.nil _))))
def eqH (G H : Sp.H4) : Bool := andN (fun i => gU (Sp.hc G) i == gU (Sp.hc H) i) 0 32
theorem eqH_self (G : Sp.H4) : eqH G G = true := andN_true fun i => by simp
def knP (S : Int → Int → Int → Vi) (P : Vi → Int → List Ope → Sp.H4) : Sp.H4 := P (Vi.of (S 2 1 1).cs) 0 []
theorem kn_run (S : Int → Int → Int → Vi) (P : Vi → Int → List Ope → Sp.H4) : (xfunL Tryz.prog (knL S P) 1000 fKnownT [] [] 0 [true, true, true]).map (fun q => (q.1, q.2.1, q.2.2.1)) = some (true, [], .c (.bool (eqH (knP S P) (knP S P)))) := by kernel_rfl
def knownC : Con := pureCon fun | [] => some (.c (.bool true)) | _ => none
theorem known_ok : ConOK Tryz.prog fKnownT knownC := by
  refine pureCon_ok (fn := Tryz.f17) (by kernel_rfl) rfl rfl fun args v h => ?_
  split at h <;> try (cases h; done)
  simp only [Option.some.injEq] at h; subst h
  exact ⟨rfl, rfl, fun w => Fn.xvL (fuel := 1000) knL_ok Sp.mixed [true, true, true] (kn_run someV paperS) rfl trivial (by rw [eqH_self])⟩

/-! Where nothing is done. -/

def paOk (r : RB) : Bool := (r.b.cells.all SC.sole && true) && (okOps r && Nat.ble r.n 1000000)
theorem paOk_eq {r : RB} (hr : RBok r) (ho : okOps r = true) (hn : r.n ≤ 1000000) : paOk r = true := by
  unfold paOk
  rw [hr.2.2, ho, show Nat.ble r.n 1000000 = true by rw [Nat.ble_eq]; exact hn]; rfl

end Go.Proofs.YtabiknpgakhkkaaGreat.Vt
