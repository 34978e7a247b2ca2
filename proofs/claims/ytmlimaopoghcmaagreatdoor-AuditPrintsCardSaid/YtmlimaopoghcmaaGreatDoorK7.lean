/-
  Calls inside the example of audits, carried out by the kernel. Conditions: none.
-/
import Derived.Test.YtmlimaopoghcmaaGreatDoorK5
import Derived.KernelRfl
namespace Go.Mg
open Go Go.Sx Go.Proofs
theorem kSt12 : tidied Go.Au.auS (xAn Tryz.prog [st32, st33, st36, st35] [aOpen st12]) 3000 st12 = Go.Au.tSt12 := by kernel_rfl
theorem okSt12 {N : Nat} : COk (Go.Au.AI N) Tryz.prog gls st12 := ok_of Go.Au.AI_tot (cx := (xAn Tryz.prog [st32, st33, st36, st35] [aOpen st12])) (cs_cons okSt32 (cs_cons okSt33 (cs_cons okSt36 (cs_cons okSt35 okLoops)))) kSt12 Go.Au.vSt12
end Go.Mg
