/-
  Calls inside the example of audits, carried out by the kernel. Conditions: none.
-/
import Derived.Test.YtmlimaopoghcmaaGreatDoorC1
import Derived.Test.YtmlimaopoghcmaaGreatDoorB2
import Derived.KernelRfl
namespace Go.Mg
open Go Go.Sx Go.Proofs
theorem kSt19 : tidied Go.Au.auS (xAn Tryz.prog [] [aPg 27]) 3000 st19 = Go.Au.tSt19 := by kernel_rfl
theorem okSt19 {N : Nat} : COk (Go.Au.AI N) Tryz.prog gls st19 := ok_of Go.Au.AI_tot (cx := (xAn Tryz.prog [] [aPg 27])) okLoops kSt19 Go.Au.vSt19
theorem kSt20 : tidied Go.Au.auS (xAn Tryz.prog [] [aQ20]) 3000 st20 = Go.Au.tSt20 := by kernel_rfl
theorem okSt20 {N : Nat} : COk (Go.Au.AI N) Tryz.prog gls st20 := ok_of Go.Au.AI_tot (cx := (xAn Tryz.prog [] [aQ20])) okLoops kSt20 Go.Au.vSt20
theorem kSt21 : tidied Go.Au.auS (xAn Tryz.prog [] [aPg 35]) 3000 st21 = Go.Au.tSt21 := by kernel_rfl
theorem okSt21 {N : Nat} : COk (Go.Au.AI N) Tryz.prog gls st21 := ok_of Go.Au.AI_tot (cx := (xAn Tryz.prog [] [aPg 35])) okLoops kSt21 Go.Au.vSt21
theorem kSt22 : (tidied noFs (xPlus Tryz.prog [st19, st20, st21]) 30000 st22).isOk = true := by kernel_rfl
theorem okSt22 {N : Nat} : COk (Go.Au.AI N) Tryz.prog gls st22 := tidied_ok (tot_none _) (cx := (xPlus Tryz.prog [st19, st20, st21])) (cs_cons okSt19 (cs_cons okSt20 (cs_cons okSt21 okLoops))) kSt22
end Go.Mg
