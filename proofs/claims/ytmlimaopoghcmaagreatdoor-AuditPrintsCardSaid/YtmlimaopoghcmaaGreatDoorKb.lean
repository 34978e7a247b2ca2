/-
  Calls inside the example of audits, carried out by the kernel. Conditions: none.
-/
import Derived.Test.YtmlimaopoghcmaaGreatDoorC1
import Derived.Test.YtmlimaopoghcmaaGreatDoorB2
import Derived.KernelRfl
namespace Go.Mg
open Go Go.Sx Go.Proofs
theorem kSt24 : tidied Go.Au.auS (xAn Tryz.prog [] [aPg 27]) 3000 st24 = Go.Au.tSt24 := by kernel_rfl
theorem okSt24 {N : Nat} : COk (Go.Au.AI N) Tryz.prog gls st24 := ok_of Go.Au.AI_tot (cx := (xAn Tryz.prog [] [aPg 27])) okLoops kSt24 Go.Au.vSt24
theorem kSt25 : tidied Go.Au.auS (xAn Tryz.prog [] [aPg 34]) 3000 st25 = Go.Au.tSt25 := by kernel_rfl
theorem okSt25 {N : Nat} : COk (Go.Au.AI N) Tryz.prog gls st25 := ok_of Go.Au.AI_tot (cx := (xAn Tryz.prog [] [aPg 34])) okLoops kSt25 Go.Au.vSt25
theorem kSt26 : tidied Go.Au.auS (xAn Tryz.prog [] [aPg 35]) 3000 st26 = Go.Au.tSt26 := by kernel_rfl
theorem okSt26 {N : Nat} : COk (Go.Au.AI N) Tryz.prog gls st26 := ok_of Go.Au.AI_tot (cx := (xAn Tryz.prog [] [aPg 35])) okLoops kSt26 Go.Au.vSt26
theorem kSt27 : (tidied noFs (xPlus Tryz.prog [st24, st25, st26]) 30000 st27).isOk = true := by kernel_rfl
theorem okSt27 {N : Nat} : COk (Go.Au.AI N) Tryz.prog gls st27 := tidied_ok (tot_none _) (cx := (xPlus Tryz.prog [st24, st25, st26])) (cs_cons okSt24 (cs_cons okSt25 (cs_cons okSt26 okLoops))) kSt27
end Go.Mg
