/-
  The contracts hold of the program: places, texts, the reference's reading. Conditions: none.
-/
import Derived.Test.YtbcclmpmljpbcaaGreatDoorSfLib
import Derived.Test.YtbcclmpmljpbcaaGreatDoorSfV1
import Derived.Test.YtbcclmpmljpbcaaGreatDoorSxRec
import Derived.KernelRfl
namespace Go.Sf
open Go Go.Sx Go.Mg Go.Proofs
variable {N : Nat}

theorem kFol : tidied fsS (xFol Tryz.prog) 300 (cFol 10) = tFol := by kernel_rfl
theorem okFol : COk (SI N) Tryz.prog gls (cFol 10) := ok_of SI_tot (cx := xFol Tryz.prog) cs_nil kFol vFol
theorem kRFol : tidied fsS (xFol Tryz.prog) 300 (cFol 13) = tRFol := by kernel_rfl
theorem okRFol : COk (SI N) Tryz.prog gls (cFol 13) := ok_of SI_tot (cx := xFol Tryz.prog) cs_nil kRFol vRFol
theorem kDig : (tidied fsS (xDig Tryz.prog) 300 cDig).isOk = true := by kernel_rfl
theorem okDig : COk (SI N) Tryz.prog gls cDig := tidied_ok SI_tot (cx := xDig Tryz.prog) (cs_cons okFormat cs_nil) kDig
theorem kPrt : tidied fsS (xPrt Tryz.prog) 300 (cPrt 9) = tPrt := by kernel_rfl
theorem okPrt : COk (SI N) Tryz.prog gls (cPrt 9) := ok_of SI_tot (cx := xPrt Tryz.prog) (cs_cons okFol (cs_cons okDig (cs_cons okJoin cs_nil))) kPrt vPrt
theorem kInt : tidied fsS (xInt Tryz.prog) 300 (cInt 29) = tInt := by kernel_rfl
theorem okInt : COk (SI N) Tryz.prog gls (cInt 29) := ok_of SI_tot (cx := xInt Tryz.prog) (cs_cons okTrim (cs_cons okPInt cs_nil)) kInt vInt
theorem kPar : tidied fsS (xPar Tryz.prog) 600 (cPar 11) = tPar := by kernel_rfl
theorem okPar : COk (SI N) Tryz.prog gls (cPar 11) := ok_of SI_tot (cx := xPar Tryz.prog) (cs_cons okSplit (cs_cons okInt (cs_cons okPrt cs_nil))) kPar vPar

/-! ### The reference's -/

theorem kRDig : tidied fsS (xRDig Tryz.prog) 300 (cRDig 21) = tRDig := by kernel_rfl
theorem rdig_step (h : COk (SI N) Tryz.prog gls (cRDig 20)) : COk (SI N) Tryz.prog gls (cRDig 21) := ok_of SI_tot (cx := xRDig Tryz.prog) (cs_cons h cs_nil) kRDig vRDig
theorem okRDigN : ∀ N, COk (SI N) Tryz.prog gls (cRDig 20)
  | 0 => fun g w xs hso _ _ _ _ hp => by
    obtain ⟨env, φ, nb⟩ := g
    obtain ⟨n, rfl⟩ := env1 hso
    obtain ⟨ds, h1, h2⟩ := hp (.pr 20 [v 0]) (by simp [cRDig])
    have h1 : [D.i n] = ds := Option.some.inj h1
    subst h1
    have h3 : dep n < 0 := h2
    omega
  | N + 1 => by
    have h := rdig_step (okRDigN N)
    refine COk.pr (p := SIpr N) (q := SIpr (N + 1)) h (pre := (cRDig 20).pre) (post := (cRDig 20).post) (fun env hso hp e he => ?_) (fun env hp e he => ?_)
    · obtain ⟨n, rfl⟩ := env1 hso
      simp only [cRDig, List.mem_cons, List.not_mem_nil, or_false] at he
      rcases he with rfl | rfl
      · exact PE.den_pr (p := SIpr (N + 1)) (fun j l e => by cases e) (hp _ (by simp [cRDig]))
      · obtain ⟨ds, h1, h2⟩ := hp (.pr 20 [v 0]) (by simp [cRDig])
        have h1 : [D.i n] = ds := Option.some.inj h1
        subst h1
        have h3 : dep n < N + 1 := h2
        exact ⟨[.i n], rfl, show dep n ≤ N by omega⟩
    · simp only [cRDig, List.mem_singleton] at he
      subst he
      exact PE.den_pr (p := SIpr N) (fun j l e => by cases e) (hp _ (by simp [cRDig]))
theorem okRDg : COk (SI 40) Tryz.prog gls cRDg := by
  refine COk.pr (p := SIpr 40) (q := SIpr 40) (okRDigN 40) (pre := cRDg.pre) (post := cRDg.post) (fun env hso hp e he => ?_) (fun env hp e he => hp e he)
  obtain ⟨n, rfl⟩ := env1 hso
  have hr := hp (.rng .i64 (v 0)) (by simp [cRDg])
  simp only [cRDig, List.mem_cons, List.not_mem_nil, or_false] at he
  rcases he with rfl | rfl
  · exact hr
  · obtain ⟨m, hm, hb⟩ := hr
    obtain rfl : n = m := D.i.inj (Option.some.inj hm)
    have := dep_le (n := n) hb
    exact ⟨[.i n], rfl, show dep n < 40 by omega⟩
theorem kWhole : tidied fsS (xWhole Tryz.prog) 300 cWhole = tWhole := by kernel_rfl
theorem okWhole : COk (SI N) Tryz.prog gls cWhole := ok_of SI_tot (cx := xWhole Tryz.prog) cs_nil kWhole vWhole
theorem kRInt : tidied fsS (xRInt Tryz.prog) 300 (cInt 36) = tRInt := by kernel_rfl
theorem okRInt : COk (SI 40) Tryz.prog gls (cInt 36) := ok_of SI_tot (cx := xRInt Tryz.prog) (cs_cons okWhole (cs_cons okRDg cs_nil)) kRInt vRInt
theorem kEnd : tidied fsS (xEnd Tryz.prog) 300 cEnd = tEnd := by kernel_rfl
theorem okEnd : COk (SI N) Tryz.prog gls cEnd := ok_of SI_tot (cx := xEnd Tryz.prog) cs_nil kEnd vEnd
theorem kText : tidied fsS (xText Tryz.prog) 300 cText = tText := by kernel_rfl
theorem okText : COk (SI N) Tryz.prog gls cText := ok_of SI_tot (cx := xText Tryz.prog) cs_nil kText vText
theorem kUnq : tidied fsS (xUnq Tryz.prog) 300 cUnq = tUnq := by kernel_rfl
theorem okUnq : COk (SI N) Tryz.prog gls cUnq := ok_of SI_tot (cx := xUnq Tryz.prog) (cs_cons okText cs_nil) kUnq vUnq
theorem kRight : tidied fsS (xRight Tryz.prog) 300 cRight = tRight := by kernel_rfl
theorem okRight : COk (SI N) Tryz.prog gls cRight := ok_of SI_tot (cx := xRight Tryz.prog) (cs_cons okText cs_nil) kRight vRight
theorem kRSpl : tidied fsS (xRSpl Tryz.prog) 300 cRSpl = tRSpl := by kernel_rfl
theorem okRSpl : COk (SI N) Tryz.prog gls cRSpl := ok_of SI_tot (cx := xRSpl Tryz.prog) (cs_cons okEnd (cs_cons okUnq (cs_cons okRight cs_nil))) kRSpl vRSpl
theorem kRPrt : tidied fsS (xRPrt Tryz.prog) 300 (cPrt 14) = tRPrt := by kernel_rfl
theorem okRPrt : COk (SI 40) Tryz.prog gls (cPrt 14) := ok_of SI_tot (cx := xRPrt Tryz.prog) (cs_cons okRFol (cs_cons okRDg cs_nil)) kRPrt vRPrt
theorem kRPar : tidied fsS (xRPar Tryz.prog) 600 (cPar 15) = tRPar := by kernel_rfl
theorem okRPar : COk (SI 40) Tryz.prog gls (cPar 15) := ok_of SI_tot (cx := xRPar Tryz.prog) (cs_cons okRSpl (cs_cons okRInt (cs_cons okRPrt cs_nil))) kRPar vRPar
end Go.Sf
