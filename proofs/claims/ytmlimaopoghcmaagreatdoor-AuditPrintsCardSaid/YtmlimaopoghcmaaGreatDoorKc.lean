/-
  Calls inside the example of audits, carried out by the kernel. Conditions: none.
-/
import Derived.Test.YtmlimaopoghcmaaGreatDoorK1
import Derived.Test.YtmlimaopoghcmaaGreatDoorK2
import Derived.Test.YtmlimaopoghcmaaGreatDoorK3
import Derived.Test.YtmlimaopoghcmaaGreatDoorK4
import Derived.Test.YtmlimaopoghcmaaGreatDoorK6
import Derived.Test.YtmlimaopoghcmaaGreatDoorK7
import Derived.Test.YtmlimaopoghcmaaGreatDoorK8
import Derived.Test.YtmlimaopoghcmaaGreatDoorK9
import Derived.Test.YtmlimaopoghcmaaGreatDoorKa
import Derived.Test.YtmlimaopoghcmaaGreatDoorKb
import Derived.KernelRfl
namespace Go.Mg
open Go Go.Sx Go.Proofs
theorem kSt9 : (tidied noFs (xPlus Tryz.prog [st0, st1, st4, st7, st8]) 30000 st9).isOk = true := by kernel_rfl
theorem okSt9 {I : Itp} : COk I Tryz.prog gls st9 := tidied_ok (tot_none _) (cx := (xPlus Tryz.prog [st0, st1, st4, st7, st8])) (cs_cons okSt0 (cs_cons okSt1 (cs_cons okSt4 (cs_cons okSt7 (cs_cons okSt8 okLoops))))) kSt9
theorem kSt17 : (tidied noFs (xPlus Tryz.prog [st12, st16]) 30000 st17).isOk = true := by kernel_rfl
theorem okSt17 {N : Nat} : COk (Go.Au.AI N) Tryz.prog gls st17 := tidied_ok (tot_none _) (cx := (xPlus Tryz.prog [st12, st16])) (cs_cons okSt12 (cs_cons okSt16 okLoops)) kSt17
theorem kSt23 : (tidied noFs (xPlus Tryz.prog [st18, st22]) 30000 st23).isOk = true := by kernel_rfl
theorem okSt23 {N : Nat} : COk (Go.Au.AI N) Tryz.prog gls st23 := tidied_ok (tot_none _) (cx := (xPlus Tryz.prog [st18, st22])) (cs_cons okSt18 (cs_cons okSt22 okLoops)) kSt23
theorem kSt28 : (tidied noFs (xPlus Tryz.prog [st10, st27]) 30000 st28).isOk = true := by kernel_rfl
theorem okSt28 {N : Nat} : COk (Go.Au.AI N) Tryz.prog gls st28 := tidied_ok (tot_none _) (cx := (xPlus Tryz.prog [st10, st27])) (cs_cons okSt10 (cs_cons okSt27 okLoops)) kSt28
end Go.Mg
