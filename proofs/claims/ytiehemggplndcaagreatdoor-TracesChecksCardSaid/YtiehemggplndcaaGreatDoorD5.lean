/-
  The contracts hold of the program: steps that are read and written. Conditions: none.
-/
import Derived.Test.YtiehemggplndcaaGreatDoorD1
import Derived.Test.YtiehemggplndcaaGreatDoorC6
import Derived.Test.YtiehemggplndcaaGreatDoorA4
import Derived.Test.YtiehemggplndcaaGreatDoorB7
import Derived.KernelRfl
namespace Go.Tt
open Go Go.Sx Go.Mg Go.Proofs
variable {N : Nat}
theorem qvl : qc ttS (qqU Tryz.prog) 1000 (gZ 21) = SC := by kernel_rfl
theorem Po (h : COk (TI N) Tryz.prog gls (gZ 20)) : COk (TI N) Tryz.prog gls (gZ 21) := qL qG (cx := qqU Tryz.prog) (qw h qJ) qvl qyO
theorem MK : ∀ N, COk (TI N) Tryz.prog gls (gZ 20)
 | 0 => fun g w xs hso _ _ _ _ hp => by
   obtain ⟨env, φ, nb⟩ := g
   obtain ⟨n, rfl⟩ := GK hso
   obtain ⟨ds, h1, h2⟩ := hp (.pr 20 [v 0]) (by simp [gZ])
   have h1 : [D.i n] = ds := Option.some.inj h1
   subst h1
   have h3 : dep n < 0 := h2
   omega
 | N + 1 => by
   have h := Po (MK N)
   refine COk.pr (p := F4 N) (q := F4 (N + 1)) h (pre := (gZ 20).pre) (post := (gZ 20).post) (fun env hso hp e he => ?_) (fun env hp e he => ?_)
   · obtain ⟨n, rfl⟩ := GK hso
     simp only [gZ, List.mem_cons, List.not_mem_nil, or_false] at he
     rcases he with rfl | rfl
     · exact PE.jv (p := F4 (N + 1)) (fun j l e => by cases e) (hp _ (by simp [gZ]))
     · obtain ⟨ds, h1, h2⟩ := hp (.pr 20 [v 0]) (by simp [gZ])
       have h1 : [D.i n] = ds := Option.some.inj h1
       subst h1
       have h3 : dep n < N + 1 := h2
       exact ⟨[.i n], rfl, show dep n ≤ N by omega⟩
   · simp only [gZ, List.mem_singleton] at he
     subst he
     exact PE.jv (p := F4 N) (fun j l e => by cases e) (hp _ (by simp [gZ]))
theorem Lp : COk (TI 40) Tryz.prog gls FP := by
 refine COk.pr (p := F4 40) (q := F4 40) (MK 40) (pre := FP.pre) (post := FP.post) (fun env hso hp e he => ?_) (fun env hp e he => hp e he)
 obtain ⟨n, rfl⟩ := GK hso
 have hr := hp (.rng .i64 (v 0)) (by simp [FP])
 simp only [gZ, List.mem_cons, List.not_mem_nil, or_false] at he
 rcases he with rfl | rfl
 · exact hr
 · obtain ⟨m, hm, hb⟩ := hr
   obtain rfl : n = m := D.i.inj (Option.some.inj hm)
   have := qyg (n := n) hb
   exact ⟨[.i n], rfl, show dep n < 40 by omega⟩
theorem qwJ : qc ttS (Sj Tryz.prog) 1000 XJ = BP := by kernel_rfl
theorem A9 : COk (TI N) Tryz.prog gls XJ := qL qG (cx := Sj Tryz.prog) qJ qwJ qzY
theorem qvc : qc ttS (qqL Tryz.prog) 1000 (XV 79) = SS := by kernel_rfl
theorem Lm : COk (TI 40) Tryz.prog gls (XV 79) := qL qG (cx := qqL Tryz.prog) (qw A9 (qw Lp qJ)) qvc qyI
theorem qbz : qc ttS (qyG Tryz.prog) 1000 qqJ = qz5 := by kernel_rfl
theorem qx6 : COk (TI N) Tryz.prog gls qqJ := qL qG (cx := qyG Tryz.prog) qJ qbz qgi
theorem qvw : qc ttS (qqR Tryz.prog) 1000 G7 = SV := by kernel_rfl
theorem Lv : COk (TI N) Tryz.prog gls G7 := qL qG (cx := qqR Tryz.prog) qJ qvw qyR
theorem qgC : qc ttS (qya Tryz.prog) 1000 qqa = qzU := by kernel_rfl
theorem qxS : COk (TI N) Tryz.prog gls qqa := qL qG (cx := qya Tryz.prog) (qw Lv qJ) qgC qgh
theorem qwY : qc ttS (Sk Tryz.prog) 1000 XY = BS := by kernel_rfl
theorem Ey : COk (TI N) Tryz.prog gls XY := qL qG (cx := Sk Tryz.prog) (qw Lv qJ) qwY qzG
theorem qvt : qc ttS (qqC Tryz.prog) 1000 Nk = SN := by kernel_rfl
theorem qk9 : COk (TI N) Tryz.prog gls Nk := qL qG (cx := qqC Tryz.prog) (qw qx6 (qw qxS (qw Ey qJ))) qvt qyU
theorem qwX : qc ttS (xName Tryz.prog) 1000 (cName 59) = BL := by kernel_rfl
theorem Ev : COk (TI N) Tryz.prog gls (cName 59) := qL qG (cx := xName Tryz.prog) qJ qwX qzB
theorem qgL : qc ttS (qye Tryz.prog) 1000 FM = qzI := by kernel_rfl
theorem MZ : COk (TI N) Tryz.prog gls FM := qL qG (cx := qye Tryz.prog) qJ qgL qgm
theorem qgT : qc ttS (qyo Tryz.prog) 1000 U8 = qzL := by kernel_rfl
theorem qq6 : COk (TI N) Tryz.prog gls U8 := qL qG (cx := qyo Tryz.prog) (qw qk9 qJ) qgT qgf
end Go.Tt
