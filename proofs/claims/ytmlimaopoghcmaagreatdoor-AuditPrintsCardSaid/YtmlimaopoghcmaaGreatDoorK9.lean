/-
  Calls inside the example of audits, carried out by the kernel. Conditions: none.
-/
import Derived.Test.YtmlimaopoghcmaaGreatDoorC1
import Derived.Test.YtmlimaopoghcmaaGreatDoorB2
import Derived.KernelRfl
namespace Go.Mg
open Go Go.Sx Go.Proofs
theorem kSt13 : tidied Go.Au.auS (xAn Tryz.prog [] [aPg 27]) 3000 st13 = Go.Au.tSt13 := by kernel_rfl
theorem okSt13 {N : Nat} : COk (Go.Au.AI N) Tryz.prog gls st13 := ok_of Go.Au.AI_tot (cx := (xAn Tryz.prog [] [aPg 27])) okLoops kSt13 Go.Au.vSt13
theorem kSt14 : tidied Go.Au.auS (xAn Tryz.prog [] [aPg 34]) 3000 st14 = Go.Au.tSt14 := by kernel_rfl
theorem okSt14 {N : Nat} : COk (Go.Au.AI N) Tryz.prog gls st14 := ok_of Go.Au.AI_tot (cx := (xAn Tryz.prog [] [aPg 34])) okLoops kSt14 Go.Au.vSt14
theorem kSt15 : tidied Go.Au.auS (xAn Tryz.prog [] [aPg 35]) 3000 st15 = Go.Au.tSt15 := by kernel_rfl
theorem okSt15 {N : Nat} : COk (Go.Au.AI N) Tryz.prog gls st15 := ok_of Go.Au.AI_tot (cx := (xAn Tryz.prog [] [aPg 35])) okLoops kSt15 Go.Au.vSt15
theorem kSt16 : (tidied noFs (xPlus Tryz.prog [st13, st14, st15]) 30000 st16).isOk = true := by kernel_rfl
theorem okSt16 {N : Nat} : COk (Go.Au.AI N) Tryz.prog gls st16 := tidied_ok (tot_none _) (cx := (xPlus Tryz.prog [st13, st14, st15])) (cs_cons okSt13 (cs_cons okSt14 (cs_cons okSt15 okLoops))) kSt16
end Go.Mg
