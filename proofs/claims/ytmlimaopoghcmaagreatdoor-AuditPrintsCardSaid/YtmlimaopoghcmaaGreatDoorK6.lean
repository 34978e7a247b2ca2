/-
  Calls inside the example of audits, carried out by the kernel. Conditions: none.
-/
import Derived.Test.YtmlimaopoghcmaaGreatDoorK5
import Derived.KernelRfl
namespace Go.Mg
open Go Go.Sx Go.Proofs
theorem kSt10 : tidied Go.Au.auS (xAn Tryz.prog [st32, st33, st34, st35] [aOpen st10]) 3000 st10 = Go.Au.tSt10 := by kernel_rfl
theorem okSt10 {N : Nat} : COk (Go.Au.AI N) Tryz.prog gls st10 := ok_of Go.Au.AI_tot (cx := (xAn Tryz.prog [st32, st33, st34, st35] [aOpen st10])) (cs_cons okSt32 (cs_cons okSt33 (cs_cons okSt34 (cs_cons okSt35 okLoops)))) kSt10 Go.Au.vSt10
theorem kSt11 : tidied Go.Au.auS (xAn Tryz.prog [st10] [aMany]) 3000 st11b = Go.Au.tSt11 := by kernel_rfl
theorem okSt11 {N : Nat} : COk (Go.Au.AI N) Tryz.prog gls st11b := ok_of Go.Au.AI_tot (cx := (xAn Tryz.prog [st10] [aMany])) (cs_cons okSt10 okLoops) kSt11 Go.Au.vSt11
end Go.Mg
