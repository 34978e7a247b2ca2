/-
  The contracts hold of the program: steps that are read and written. Conditions: none.
-/
import Derived.Test.YtiehemggplndcaaGreatDoorD1
import Derived.Test.YtiehemggplndcaaGreatDoorC6
import Derived.Test.YtiehemggplndcaaGreatDoorA4
import Derived.Test.YtiehemggplndcaaGreatDoorB7
import Derived.KernelRfl
namespace Go.Tt
open Go Go.Sx Go.Mg Go.Proofs
variable {N : Nat}
theorem qbj : (qc ttS (qyB Tryz.prog) 1000 qqK).isOk = true := by kernel_rfl
theorem Ll : COk (TI N) Tryz.prog gls qqK := ze qG (cx := qyB Tryz.prog) (qw Ls qJ) qbj
theorem qg8 : qc ttS (qyY Tryz.prog) 1000 (XV 69) = qz2 := by kernel_rfl
theorem qx4 : COk (TI N) Tryz.prog gls (XV 69) := qL qG (cx := qyY Tryz.prog) (qw qkL (qw qwq qJ)) qg8 qgc
theorem qvu : qc ttS (xName Tryz.prog) 1000 (cName 76) = SL := by kernel_rfl
theorem Lr : COk (TI N) Tryz.prog gls (cName 76) := qL qG (cx := xName Tryz.prog) qJ qvu qyA
theorem qg5 : qc ttS (qyJ Tryz.prog) 1000 Ij = qzE := by kernel_rfl
theorem qq9 : COk (TI N) Tryz.prog gls Ij := qL qG (cx := qyJ Tryz.prog) qJ qg5 qgr
theorem qvk : qc ttS (qqP Tryz.prog) 1000 M9 = SX := by kernel_rfl
theorem qkC : COk (TI N) Tryz.prog gls M9 := qL qG (cx := qqP Tryz.prog) (qw qk8 (qw qk7 (qw qq9 qJ))) qvk qyP
theorem qg3 : qc ttS (qyQ Tryz.prog) 1000 qqe = qzO := by kernel_rfl
theorem qx1 : COk (TI N) Tryz.prog gls qqe := qL qG (cx := qyQ Tryz.prog) (qw qq9 (qw qwg qJ)) qg3 qgn
theorem qg7 : qc ttS (qyW Tryz.prog) 1000 qqQ = qz1 := by kernel_rfl
theorem qx3 : COk (TI N) Tryz.prog gls qqQ := qL qG (cx := qyW Tryz.prog) qJ qg7 qgt
theorem qvn : qc ttS (qqS Tryz.prog) 1000 (Iq 68) = SG := by kernel_rfl
theorem Lb : COk (TI N) Tryz.prog gls (Iq 68) := qL qG (cx := qqS Tryz.prog) (qw qx3 (qw qwx (qw qkC (qw qx1 qJ)))) qvn qyS
theorem qg9 : qc ttS (qyX Tryz.prog) 1000 RA = qz3 := by kernel_rfl
theorem Lc : COk (TI N) Tryz.prog gls RA := qL qG (cx := qyX Tryz.prog) qJ qg9 qgl
theorem qg6 : qc ttS (qyK Tryz.prog) 1000 Ik = qz0 := by kernel_rfl
theorem qzq : COk (TI N) Tryz.prog gls Ik := qL qG (cx := qyK Tryz.prog) (qw Lc (qw qx4 qJ)) qg6 qgs
theorem qbx : qc ttS (IG Tryz.prog) 1000 (G9 54 81) = qz9 := by kernel_rfl
theorem qzk : COk (TI N) Tryz.prog gls (G9 54 81) := qL qG (cx := IG Tryz.prog) qJ qbx qgQ
theorem qby : qc ttS (IG Tryz.prog) 1000 (G9 55 82) = qz8 := by kernel_rfl
theorem qzj : COk (TI N) Tryz.prog gls (G9 55 82) := qL qG (cx := IG Tryz.prog) qJ qby qge
theorem qvr : qc ttS (IV Tryz.prog) 1000 Nz = SF := by kernel_rfl
theorem qk5 : COk (TI N) Tryz.prog gls Nz := qL qG (cx := IV Tryz.prog) (qw Lr (qw qzk (qw qzj qJ))) qvr qyC
theorem qgS : qc ttS (xWr Tryz.prog) 1000 qqo = qzC := by kernel_rfl
theorem qxR : COk (TI N) Tryz.prog gls qqo := qL qG (cx := xWr Tryz.prog) (qw Ll (qw DN qJ)) qgS qgd
theorem qva : qc ttS (qqI Tryz.prog) 1000 (aY 9) = SA := by kernel_rfl
theorem qwk : COk (TI N) Tryz.prog gls (aY 9) := qL qG (cx := qqI Tryz.prog) (qw qk5 (qw qxR qJ)) qva qy0
end Go.Tt
