/-
  The three loops' contracts hold of the program. Conditions: none.
-/
import Derived.Test.YtiehemggplndcaaGreatDoorProg
import Derived.Test.YtiehemggplndcaaGreatDoorB1
import Derived.KernelRfl
namespace Go.Mg
open Go Go.Sx Go.Proofs
variable {I : Itp}
theorem EM : qc wD (jJ Tryz.prog) 300 Qw = WV := by kernel_rfl
theorem Lu : COk I Tryz.prog gls Qw := qL (qP I) (cx := jJ Tryz.prog) qJ EM I7
theorem qwW : qc wD (jJ Tryz.prog) 300 XW = BR := by kernel_rfl
theorem Ej : COk I Tryz.prog gls XW := qL (qP I) (cx := jJ Tryz.prog) qJ qwW qzV
theorem qwF : qc wD (jJ Tryz.prog) 300 XG = Dz := by kernel_rfl
theorem Em : COk I Tryz.prog gls XG := qL (qP I) (cx := jJ Tryz.prog) qJ qwF qzN
theorem qwK : qc wD (jJ Tryz.prog) 300 XK = SY := by kernel_rfl
theorem Ez : COk I Tryz.prog gls XK := qL (qP I) (cx := jJ Tryz.prog) qJ qwK qzX
theorem qvV : qc wD (jJ Tryz.prog) 300 (yY 3) = WG 48 := by kernel_rfl
theorem qwp : COk I Tryz.prog gls (yY 3) := qL (qP I) (cx := jJ Tryz.prog) qJ qvV (BG 48 (by decide) (by decide))
theorem qvX : qc wD (jJ Tryz.prog) 300 (yY 4) = WG 64 := by kernel_rfl
theorem qwn : COk I Tryz.prog gls (yY 4) := qL (qP I) (cx := jJ Tryz.prog) qJ qvX (BG 64 (by decide) (by decide))
theorem qvY : qc wD (jJ Tryz.prog) 300 (yY 5) = WG 80 := by kernel_rfl
theorem qwm : COk I Tryz.prog gls (yY 5) := qL (qP I) (cx := jJ Tryz.prog) qJ qvY (BG 80 (by decide) (by decide))
theorem qvW : qc wD (jJ Tryz.prog) 300 (yY 6) = WG 96 := by kernel_rfl
theorem qwh : COk I Tryz.prog gls (yY 6) := qL (qP I) (cx := jJ Tryz.prog) qJ qvW (BG 96 (by decide) (by decide))
theorem qvK : qc wD (jJ Tryz.prog) 300 (yY 7) = WG 112 := by kernel_rfl
theorem qwf : COk I Tryz.prog gls (yY 7) := qL (qP I) (cx := jJ Tryz.prog) qJ qvK (BG 112 (by decide) (by decide))
theorem qvJ : qc wD (jJ Tryz.prog) 300 (yY 8) = WG 128 := by kernel_rfl
theorem qwd : COk I Tryz.prog gls (yY 8) := qL (qP I) (cx := jJ Tryz.prog) qJ qvJ (BG 128 (by decide) (by decide))
theorem qvZ : qc wD (jJ Tryz.prog) 300 (yY 9) = WG 144 := by kernel_rfl
theorem qwb : COk I Tryz.prog gls (yY 9) := qL (qP I) (cx := jJ Tryz.prog) qJ qvZ (BG 144 (by decide) (by decide))
theorem EG : qc wD (F9 Tryz.prog) 30000 uF = WJ := by kernel_rfl
theorem Lg : COk I Tryz.prog gls uF := qL (qP I) (cx := F9 Tryz.prog) qJ EG II
theorem jo : ∀ c ∈ uF :: loops, COk I Tryz.prog gls c := by
 refine qw Lg (qw Lu (qw Ej (qw Em (qw Ez ?_))))
 show ∀ c ∈ [yY 3, yY 4, yY 5, yY 6, yY 7, yY 8, yY 9], COk I Tryz.prog gls c
 exact qw qwp (qw qwn (qw qwm (qw qwh (qw qwf (qw qwd (qw qwb qJ))))))
end Go.Mg
