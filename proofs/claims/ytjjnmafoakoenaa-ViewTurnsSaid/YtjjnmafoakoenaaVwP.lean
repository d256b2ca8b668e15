/-
  Laws of views at each of few inputs: what no law asks is computed. Keys of small numbers stand in a table.
-/
import Derived.Test.YtjjnmafoakoenaaVwO
namespace Go.Proofs.Ytjjnmafoakoenaa.Vw
open Go.RowKit Go.Proofs.Ytjjnmafoakoenaa.Sx Go.Proofs.Ytjjnmafoakoenaa.Pw
set_option linter.unusedVariables false
set_option linter.unusedSimpArgs false

abbrev fKey : Nat := 19
noncomputable def keyN (n : Int) : Int := powS 4 (scalS (.u8 (UInt8.ofInt n) :: .u8 3 :: List.replicate 30 (.u8 0)))
def keyT : List Nat := [161413355, 85124113, 1081403463, 1779038969, 1978461516, 986228857, 1646267683, 702325786, 1408498155, 492933372, 1705263817, 1489717117, 891318313, 1832627339, 854894390, 871436248, 250645083, 1848519271, 1637494612, 2116199948, 674432462, 170373396, 1984258994, 2003355513, 546571443, 1217078647, 1597331141, 1302087125, 1877038967, 1696149994, 18635670, 725156171, 1138724558, 1609362172, 230895542, 1889615564, 175334492, 1663230654, 1217674390, 59114262, 1031590982, 1920138783, 1781519597, 2048268145, 1336541499, 899446474, 933100345, 1189570477, 1591876570, 1026907389, 7242161, 603978745, 351587638, 993901201, 886428005, 1951868793, 1424868257, 1421425524, 1676623444, 1459497513, 1664212093, 933774078, 7620869, 1161173835, 102318837, 473606183, 734989975, 1758537119, 747136686, 1176684826, 2118545094, 202764179, 1271830386, 73413707, 1338557223, 1373120181, 561571177, 406109413, 915728409, 552453717]
theorem keyT_ok : (List.range 80).map (fun i => (keyN (Int.ofNat i))) = keyT.map Int.ofNat := by kernel_rfl
/-- A key of a small number. -/
def keyC : Con := pureCon fun | [.c (.int (.ofNat k))] => (keyT[k]?).map fun n => .c (.int (.ofNat n)) | _ => none
theorem keyC_ok : ConOK Try.prog fKey keyC := by
  refine pureCon_ok (fn := Try.f19) (by kernel_rfl) rfl rfl fun args v h => ?_
  split at h <;> try (cases h; done)
  rename_i k
  rw [Option.map_eq_some_iff] at h
  obtain ⟨n, hn, rfl⟩ := h
  refine ⟨rfl, rfl, fun w => ?_⟩
  refine Fn.xvL (fuel := 1000) (LibOK.cons rfrom_ok (LibOK.nil _)) Sp.mixed [] (r := .c (.int (keyN (Int.ofNat k)))) (ob := true) (obs := []) (by kernel_rfl) rfl trivial ?_
  have h2 : ((List.range 80).map (fun i => (keyN (Int.ofNat i))))[k]? = (keyT.map Int.ofNat)[k]? := by rw [keyT_ok]
  rw [List.getElem?_map, List.getElem?_map, hn] at h2
  cases hr : (List.range 80)[k]? with
  | none => rw [hr] at h2; cases h2
  | some j =>
    rw [hr] at h2
    obtain ⟨hm, hm2⟩ := List.getElem?_eq_some_iff.1 hr
    simp at hm2
    subst hm2
    simp only [Option.map_some, Option.some.injEq] at h2
    rw [h2]

/-! A view of some members. -/
abbrev fSome : Nat := 18
def someV (m : Nat) (a k : Int) : Vi := ⟨0, ⟨fun i => bif Nat.blt i m then Int.ofNat (keyT.getD i 0) else 0, fun i => bif Nat.blt i m then Int.ofNat (keyT.getD (i + 20) 0) else 0, fun _ => 0⟩, fun i => Nat.blt i m && decide (Int.ofNat i < a), k, fun _ => 0⟩
abbrev sL : List (Nat × Con) := [(fKey, keyC)]
theorem sL_ok : LibOK Try.prog sL := LibOK.cons keyC_ok (LibOK.nil _)
theorem some_0 (a k : Int) : (xfunL Try.prog sL 1000 fSome [.c (.int 0), .c (.int a), .c (.int k)] [] 0 []).map (fun q => (q.1, q.2.1, q.2.2.1)) = some (true, [], .agg (someV 0 a k).cs) := by kernel_rfl
theorem some_1 (a k : Int) : (xfunL Try.prog sL 1000 fSome [.c (.int 1), .c (.int a), .c (.int k)] [] 0 []).map (fun q => (q.1, q.2.1, q.2.2.1)) = some (true, [], .agg (someV 1 a k).cs) := by kernel_rfl
theorem some_2 (a k : Int) : (xfunL Try.prog sL 1000 fSome [.c (.int 2), .c (.int a), .c (.int k)] [] 0 []).map (fun q => (q.1, q.2.1, q.2.2.1)) = some (true, [], .agg (someV 2 a k).cs) := by kernel_rfl
theorem some_3 (a k : Int) : (xfunL Try.prog sL 1000 fSome [.c (.int 3), .c (.int a), .c (.int k)] [] 0 []).map (fun q => (q.1, q.2.1, q.2.2.1)) = some (true, [], .agg (someV 3 a k).cs) := by kernel_rfl
theorem some_4 (a k : Int) : (xfunL Try.prog sL 1000 fSome [.c (.int 4), .c (.int a), .c (.int k)] [] 0 []).map (fun q => (q.1, q.2.1, q.2.2.1)) = some (true, [], .agg (someV 4 a k).cs) := by kernel_rfl
theorem some_5 (a k : Int) : (xfunL Try.prog sL 1000 fSome [.c (.int 5), .c (.int a), .c (.int k)] [] 0 []).map (fun q => (q.1, q.2.1, q.2.2.1)) = some (true, [], .agg (someV 5 a k).cs) := by kernel_rfl
theorem some_6 (a k : Int) : (xfunL Try.prog sL 1000 fSome [.c (.int 6), .c (.int a), .c (.int k)] [] 0 []).map (fun q => (q.1, q.2.1, q.2.2.1)) = some (true, [], .agg (someV 6 a k).cs) := by kernel_rfl
theorem some_7 (a k : Int) : (xfunL Try.prog sL 1000 fSome [.c (.int 7), .c (.int a), .c (.int k)] [] 0 []).map (fun q => (q.1, q.2.1, q.2.2.1)) = some (true, [], .agg (someV 7 a k).cs) := by kernel_rfl
theorem some_8 (a k : Int) : (xfunL Try.prog sL 1000 fSome [.c (.int 8), .c (.int a), .c (.int k)] [] 0 []).map (fun q => (q.1, q.2.1, q.2.2.1)) = some (true, [], .agg (someV 8 a k).cs) := by kernel_rfl
def someC : Con := pureConB (fun | [.c (.int (.ofNat m)), .c (.int a), .c (.int k)] => Nat.ble m 8 | _ => true) fun | [.c (.int (.ofNat m)), .c (.int a), .c (.int k)] => some (.agg (someV m a k).cs) | _ => none
theorem some_fn (m : Nat) (hm : m ≤ 8) (a k : Int) (w : World) : Sx.Fn Try.prog fSome (atW w 0) [.c (.int (.ofNat m)), .c (.int a), .c (.int k)] [] 0 fun x _ => x = .agg (someV m a k).cs := by
  have h : m = 0 ∨ m = 1 ∨ m = 2 ∨ m = 3 ∨ m = 4 ∨ m = 5 ∨ m = 6 ∨ m = 7 ∨ m = 8 := by omega
  rcases h with rfl | rfl | rfl | rfl | rfl | rfl | rfl | rfl | rfl
  · exact Fn.xvL sL_ok Sp.mixed [] (some_0 a k) rfl trivial rfl
  · exact Fn.xvL sL_ok Sp.mixed [] (some_1 a k) rfl trivial rfl
  · exact Fn.xvL sL_ok Sp.mixed [] (some_2 a k) rfl trivial rfl
  · exact Fn.xvL sL_ok Sp.mixed [] (some_3 a k) rfl trivial rfl
  · exact Fn.xvL sL_ok Sp.mixed [] (some_4 a k) rfl trivial rfl
  · exact Fn.xvL sL_ok Sp.mixed [] (some_5 a k) rfl trivial rfl
  · exact Fn.xvL sL_ok Sp.mixed [] (some_6 a k) rfl trivial rfl
  · exact Fn.xvL sL_ok Sp.mixed [] (some_7 a k) rfl trivial rfl
  · exact Fn.xvL sL_ok Sp.mixed [] (some_8 a k) rfl trivial rfl
theorem some_ok : ConOK Try.prog fSome someC := by
  refine pureConB_ok (fn := Try.f18) (by kernel_rfl) rfl rfl fun args v hok h => ?_
  split at h <;> try (cases h; done)
  rename_i m a k
  simp only [Option.some.injEq] at h; subst h
  simp only [Nat.ble_eq] at hok
  exact ⟨rfl, rfl, fun w => some_fn m hok a k w⟩

abbrev oL : List (Nat × Con) := [(fSome, someC), (fKey, keyC), (fApp, appC), (fVIs, vIsC), (fKnown, knownC)]
theorem oL_ok : LibOK Try.prog oL := LibOK.cons some_ok (LibOK.cons keyC_ok (LibOK.cons app_ok (LibOK.cons vIs_ok (LibOK.cons known_ok (LibOK.nil _)))))
theorem lit_fn {f : Nat} {args : List SV} {w : World} (h : (xfunL Try.prog oL 1000 f args [] 0 []).map (fun q => (q.1, q.2.1, q.2.2.1)) = some (true, [], .c (.bool true))) : Sx.Fn Try.prog f (atW w 0) args [] 0 fun x _ => x = .c (.bool true) :=
  Fn.xvL oL_ok Sp.mixed [] h rfl trivial rfl

end Go.Proofs.Ytjjnmafoakoenaa.Vw
