/-
  TracesChecks holds of the program: the walk. Conditions: none.
-/
import Derived.Test.YtiehemggplndcaaGreatDoorD2
import Derived.Test.YtiehemggplndcaaGreatDoorD5
import Derived.Test.YtiehemggplndcaaGreatDoorD6
import Derived.Test.YtiehemggplndcaaGreatDoorD7
import Derived.Test.YtiehemggplndcaaGreatDoorD8
import Derived.Test.YtiehemggplndcaaGreatDoorD9
import Derived.Test.YtiehemggplndcaaGreatDoorD1
import Derived.Test.YtiehemggplndcaaGreatDoorC3
import Derived.Test.YtiehemggplndcaaGreatDoorC4
import Derived.Test.YtiehemggplndcaaGreatDoorB7
import Derived.KernelRfl
namespace Go.Tt
open Go Go.Sx Go.Mg Go.Proofs
variable {N : Nat}
def U5 : Cut := (.node .leaf (.node (.node .leaf (.node .leaf (.node .leaf (.node .leaf (.node .leaf (.node .leaf (.node .leaf .leaf))))))) (.node .leaf (.node .leaf (.node .leaf (.node .leaf (.node .leaf (.node .leaf (.node .leaf .leaf)))))))))
theorem Cz : U5.paths [] = [[true], [false, true, true], [false, true, false, true], [false, true, false, false, true], [false, true, false, false, false, true], [false, true, false, false, false, false, true], [false, true, false, false, false, false, false, true], [false, true, false, false, false, false, false, false, true], [false, true, false, false, false, false, false, false, false], [false, false, true], [false, false, false, true], [false, false, false, false, true], [false, false, false, false, false, true], [false, false, false, false, false, false, true], [false, false, false, false, false, false, false, true], [false, false, false, false, false, false, false, false, true], [false, false, false, false, false, false, false, false, false]] := by kernel_rfl
theorem qxT : COk (TI N) Tryz.prog gls dV := nX (fuel := 1000) qG (cx := mZ Tryz.prog) (qw Lb (qw Lc (qw qzq qJ))) U5 (by rw [Cz]; exact (qH (fun ds hd => by rw [qxK]; exact Tree.qF (mD ds hd)) (qH (fun ds hd => by rw [qxJ]; exact Tree.qF (mD ds hd)) (qH (fun ds hd => by rw [qxZ]; exact Tree.qF (mD ds hd)) (qH (fun ds hd => by rw [qxQ]; exact Tree.qF (mD ds hd)) (qH (fun ds hd => by rw [qxe]; exact Tree.qF (mD ds hd)) (qH (fun ds hd => by rw [qxa]; exact Tree.qF (mD ds hd)) (qH (fun ds hd => by rw [qxo]; exact Tree.qF (mD ds hd)) (qH (fun ds hd => by rw [qxi]; exact Tree.qF (mD ds hd)) (qH (fun ds hd => by rw [qxu]; exact Tree.qF (mD ds hd)) (qH (fun ds hd => by rw [qxl]; exact Tree.qF (mD ds hd)) (qH (fun ds hd => by rw [qks]; exact Tree.qF (mD ds hd)) (qH (fun ds hd => by rw [qkr]; exact Tree.qF (mD ds hd)) (qH (fun ds hd => by rw [qkp]; exact Tree.qF (mD ds hd)) (qH (fun ds hd => by rw [qkn]; exact Tree.qF (mD ds hd)) (qH (fun ds hd => by rw [qkm]; exact Tree.qF (mD ds hd)) (qH (fun ds hd => by rw [qkh]; exact Tree.qF (mD ds hd)) (qH (fun ds hd => by rw [qkf]; exact Tree.qF (mD ds hd)) Dl))))))))))))))))))
def GU : Cut := (.node .leaf (.node .leaf (.node .leaf (.node .leaf (.node (.node .leaf (.node .leaf .leaf)) (.node .leaf .leaf))))))
theorem Da : GU.paths [] = [[true], [false, true], [false, false, true], [false, false, false, true], [false, false, false, false, true, true], [false, false, false, false, true, false, true], [false, false, false, false, true, false, false], [false, false, false, false, false, true], [false, false, false, false, false, false]] := by kernel_rfl
theorem MJ : COk (TI N) Tryz.prog gls yT := nX (fuel := 1000) qG (cx := bX Tryz.prog) (qw MZ (qw Ev qJ)) GU (by rw [Da]; exact (qH (fun ds hd => by rw [Ae]; exact Tree.qF (dP ds hd)) (qH (fun ds hd => by rw [Aa]; exact Tree.qF (dP ds hd)) (qH (fun ds hd => by rw [Ao]; exact Tree.qF (dP ds hd)) (qH (fun ds hd => by rw [Ai]; exact Tree.qF (dP ds hd)) (qH (fun ds hd => by rw [Au]; exact Tree.qF (dP ds hd)) (qH (fun ds hd => by rw [Al]; exact Tree.qF (dP ds hd)) (qH (fun ds hd => by rw [Ac]; exact Tree.qF (dP ds hd)) (qH (fun ds hd => by rw [Ar]; exact Tree.qF (dP ds hd)) (qH (fun ds hd => by rw [Ap]; exact Tree.qF (dP ds hd)) Dl))))))))))
def U6 : Cut := (.node .leaf (.node .leaf (.node .leaf (.node .leaf (.node (.node (.node .leaf .leaf) (.node .leaf .leaf)) (.node (.node .leaf .leaf) .leaf))))))
theorem Cj : U6.paths [] = [[true], [false, true], [false, false, true], [false, false, false, true], [false, false, false, false, true, true, true], [false, false, false, false, true, true, false], [false, false, false, false, true, false, true], [false, false, false, false, true, false, false], [false, false, false, false, false, true, true], [false, false, false, false, false, true, false], [false, false, false, false, false, false]] := by kernel_rfl
theorem qx2 : COk (TI 40) Tryz.prog gls uH := nX (fuel := 1000) qG (cx := aG Tryz.prog) (qw MZ (qw qq6 (qw Lm qJ))) U6 (by rw [Cj]; exact (qH (fun ds hd => by rw [qxM]; exact Tree.qF (Qd ds hd)) (qH (fun ds hd => by rw [qxH]; exact Tree.qF (Qd ds hd)) (qH (fun ds hd => by rw [qxF]; exact Tree.qF (Qd ds hd)) (qH (fun ds hd => by rw [qxD]; exact Tree.qF (Qd ds hd)) (qH (fun ds hd => by rw [qxB]; exact Tree.qF (Qd ds hd)) (qH (fun ds hd => by rw [qxG]; exact Tree.qF (Qd ds hd)) (qH (fun ds hd => by rw [qxV]; exact Tree.qF (Qd ds hd)) (qH (fun ds hd => by rw [qxX]; exact Tree.qF (Qd ds hd)) (qH (fun ds hd => by rw [qxY]; exact Tree.qF (Qd ds hd)) (qH (fun ds hd => by rw [qxW]; exact Tree.qF (Qd ds hd)) (qH (fun ds hd => by rw [qkt]; exact Tree.qF (Qd ds hd)) Dl))))))))))))
theorem qvp : qc ttS (IV Tryz.prog) 1000 Nq = SB := by kernel_rfl
theorem qk4 : COk (TI N) Tryz.prog gls Nq := qL qG (cx := IV Tryz.prog) (qw Lr (qw qzk (qw qzj qJ))) qvp qyT
theorem qgR : qc ttS (xWr Tryz.prog) 1000 qqi = qzT := by kernel_rfl
theorem qxP : COk (TI N) Tryz.prog gls qqi := qL qG (cx := xWr Tryz.prog) (qw Ll (qw DN qJ)) qgR qgb
theorem qbw : qc ttS (qyF Tryz.prog) 1000 qqW = qz7 := by kernel_rfl
theorem qx7 : COk (TI N) Tryz.prog gls qqW := qL qG (cx := qyF Tryz.prog) (qw qk4 qJ) qbw qga
theorem qwH : qc ttS (Sb Tryz.prog) 1000 (xD 14) = Dj := by kernel_rfl
theorem YC : COk (TI N) Tryz.prog gls (xD 14) := qL qG (cx := Sb Tryz.prog) (qw qx7 qJ) qwH qzP
theorem qwG : qc ttS (Sy Tryz.prog) 1000 (pW 11) = BI := by kernel_rfl
theorem Ed : COk (TI N) Tryz.prog gls (pW 11) := qL qG (cx := Sy Tryz.prog) (qw YC (qw Ll (qw DN (qw qxP qJ)))) qwG qzF
theorem qwD : qc ttS (Sg Tryz.prog) 1000 (pX 29) = Dq := by kernel_rfl
theorem Eh : COk (TI N) Tryz.prog gls (pX 29) := qL qG (cx := Sg Tryz.prog) (qw qwy (qw En (qw Ew qJ))) qwD qzM
theorem qwB : qc ttS (Sv Tryz.prog) 1000 (pY 12) = BA := by kernel_rfl
theorem Ef : COk (TI N) Tryz.prog gls (pY 12) := qL qG (cx := Sv Tryz.prog) (qw Eh (qw Lb (qw Lc (qw qzq (qw qxT (qw YC qJ)))))) qwB qzH
theorem qvs : qc ttS (qqT Tryz.prog) 1000 Nj = SH := by kernel_rfl
theorem qk6 : COk (TI N) Tryz.prog gls Nj := qL qG (cx := qqT Tryz.prog) qJ qvs qyL
theorem qbq : qc ttS (qyV Tryz.prog) 1000 qqZ = qz4 := by kernel_rfl
theorem qx5 : COk (TI N) Tryz.prog gls qqZ := qL qG (cx := qyV Tryz.prog) qJ qbq qgu
theorem qgY {I : Itp} : COk I Tryz.prog gls cAw := qwz
theorem qvo : qc ttS (Hg Tryz.prog) 1000 Ny = SI := by kernel_rfl
theorem qwj : COk (TI N) Tryz.prog gls Ny := qL qG (cx := Hg Tryz.prog) qJ qvo qyE
theorem qvQ : qc ttS (Hg Tryz.prog) 1000 Ng = Tq := by kernel_rfl
theorem qwv : COk (TI N) Tryz.prog gls Ng := qL qG (cx := Hg Tryz.prog) qJ qvQ qy2
theorem qbg : qc ttS (qyH Tryz.prog) 1000 qqY = qjq := by kernel_rfl
theorem qx8 : COk (TI N) Tryz.prog gls qqY := qL qG (cx := qyH Tryz.prog) (qw MZ (qw MJ (qw qwj (qw qwv qJ)))) qbg qgZ
theorem EH : qc ttS (Hy Tryz.prog) 1000 (xD 15) = WX := by kernel_rfl
theorem Zk : COk (TI N) Tryz.prog gls (xD 15) := qL qG (cx := Hy Tryz.prog) (qw qx8 qJ) EH I6
theorem qg4 : qc ttS (qyZ Tryz.prog) 1000 Iz = qzA := by kernel_rfl
theorem qq8 : COk (TI 40) Tryz.prog gls Iz := qL qG (cx := qyZ Tryz.prog) (qw MZ (qw Lp qJ)) qg4 qgp
theorem qwV : qc ttS (Sw Tryz.prog) 1000 (aY 17) = BU := by kernel_rfl
theorem Eb : COk (TI 40) Tryz.prog gls (aY 17) := qL qG (cx := Sw Tryz.prog) (qw MJ (qw qq8 qJ)) qwV qzD
theorem qve : qc ttS (qqO Tryz.prog) 1000 Nv = SE := by kernel_rfl
theorem qww : COk (TI 40) Tryz.prog gls Nv := qL qG (cx := qqO Tryz.prog) (qw qq6 (qw Lm qJ)) qve qy1
theorem EB : qc ttS (Hq Tryz.prog) 1000 (pW 16) = WK := by kernel_rfl
theorem Ld : COk (TI 40) Tryz.prog gls (pW 16) := qL qG (cx := Hq Tryz.prog) (qw Zk (qw Lp (qw qq8 qJ))) EB IE
theorem EF : qc ttS (Hw Tryz.prog) 1000 (pX 41) = WY := by kernel_rfl
theorem Lh : COk (TI N) Tryz.prog gls (pX 41) := qL qG (cx := Hw Tryz.prog) qJ EF I5
theorem ED : qc ttS (Hz Tryz.prog) 1000 (pY 18) = WW := by kernel_rfl
theorem Lf : COk (TI 40) Tryz.prog gls (pY 18) := qL qG (cx := Hz Tryz.prog) (qw Lh (qw qww (qw qx2 (qw Zk qJ)))) ED I4
theorem qbk : qc ttS (qyD Tryz.prog) 1000 Ib = qz6 := by kernel_rfl
theorem qzz : COk (TI 40) Tryz.prog gls Ib := qL qG (cx := qyD Tryz.prog) (qw qgY (qw qx5 (qw YC (qw Zk (qw Ed (qw Ld (qw qwk (qw Eb (qw Ef (qw Lf (qw qk6 qJ))))))))))) qbk qgo
#print axioms qzz
end Go.Tt
