/-
  Who is left out at a leaf: what the law of it goes through.
-/
import Derived.Test.YtkpdkfeklecehaaLdA
import Derived.Test.YtkpdkfeklecehaaSxT
namespace Go.Proofs.Ytkpdkfeklecehaa.Ld
open Go.RowKit Go.Proofs.Ytkpdkfeklecehaa.Sx Go.Proofs.Ytkpdkfeklecehaa.Pw
set_option linter.unusedVariables false

abbrev fBut : Nat := 5
theorem but_at {S : List SC → Int} {K : List SC → Nat} (hS : S = scalS) (hK : K = keyK) (w : World) (m l b : Int) (h : (xfun Try.prog (lL S K) 1000 fBut [.c (.int m), .c (.int l), .c (.int b)] [] 0 []).map (fun q => (q.1, q.2.1, q.2.2.1)) = some (true, [], .c (.bool true))) :
    Sx.Fn Try.prog fBut (atW w 0) [.c (.int m), .c (.int l), .c (.int b)] [] 0 fun r _ => r = .c (.bool true) :=
  Fn.xv (lL_ok hS hK) Sp.mixed h rfl trivial rfl

end Go.Proofs.Ytkpdkfeklecehaa.Ld
