/-
  Calls inside the example of audits, carried out by the kernel. Conditions: none.
-/
import Derived.Test.YtmlimaopoghcmaaGreatDoorK5
import Derived.KernelRfl
namespace Go.Mg
open Go Go.Sx Go.Proofs
theorem kSt18 : tidied Go.Au.auS (xAn Tryz.prog [st32, st33, st34, st35] [aOpen st18]) 3000 st18 = Go.Au.tSt18 := by kernel_rfl
theorem okSt18 {N : Nat} : COk (Go.Au.AI N) Tryz.prog gls st18 := ok_of Go.Au.AI_tot (cx := (xAn Tryz.prog [st32, st33, st34, st35] [aOpen st18])) (cs_cons okSt32 (cs_cons okSt33 (cs_cons okSt34 (cs_cons okSt35 okLoops)))) kSt18 Go.Au.vSt18
end Go.Mg
