/-
  AuditPrints holds of the program: the walk. Conditions: none.
-/
import Derived.Test.YtmlimaopoghcmaaGreatDoorD1
import Derived.Test.YtmlimaopoghcmaaGreatDoorA4
import Derived.Test.YtmlimaopoghcmaaGreatDoorC1
import Derived.Test.YtmlimaopoghcmaaGreatDoorKc
namespace Go.Au
open Go Go.Sx Go.Mg Go.Proofs
variable {N : Nat}
theorem kRDig : tidied auS (xRDig Tryz.prog) 3000 (cRDig 21) = tRDig := by kernel_rfl
theorem rdig_step (h : COk (AI N) Tryz.prog gls (cRDig 20)) : COk (AI N) Tryz.prog gls (cRDig 21) := ok_of AI_tot (cx := xRDig Tryz.prog) (cs_cons h cs_nil) kRDig vRDig
theorem okRDigN : ∀ N, COk (AI N) Tryz.prog gls (cRDig 20)
  | 0 => fun g w xs hso _ _ _ _ hp => by
    obtain ⟨env, φ, nb⟩ := g
    obtain ⟨n, rfl⟩ := env1 hso
    obtain ⟨ds, h1, h2⟩ := hp (.pr 20 [v 0]) (by simp [cRDig])
    have h1 : [D.i n] = ds := Option.some.inj h1
    subst h1
    have h3 : dep n < 0 := h2
    omega
  | N + 1 => by
    have h := rdig_step (okRDigN N)
    refine COk.pr (p := AIpr N) (q := AIpr (N + 1)) h (pre := (cRDig 20).pre) (post := (cRDig 20).post) (fun env hso hp e he => ?_) (fun env hp e he => ?_)
    · obtain ⟨n, rfl⟩ := env1 hso
      simp only [cRDig, List.mem_cons, List.not_mem_nil, or_false] at he
      rcases he with rfl | rfl
      · exact PE.den_pr (p := AIpr (N + 1)) (fun j l e => by cases e) (hp _ (by simp [cRDig]))
      · obtain ⟨ds, h1, h2⟩ := hp (.pr 20 [v 0]) (by simp [cRDig])
        have h1 : [D.i n] = ds := Option.some.inj h1
        subst h1
        have h3 : dep n < N + 1 := h2
        exact ⟨[.i n], rfl, show dep n ≤ N by omega⟩
    · simp only [cRDig, List.mem_cons, List.not_mem_nil, or_false] at he
      rcases he with rfl | rfl
      · exact PE.den_pr (p := AIpr N) (fun j l e => by cases e) (hp _ (by simp [cRDig]))
      · exact PE.den_pr (p := AIpr N) (fun j l e => by cases e) (hp _ (by simp [cRDig]))
theorem okRDg : COk (AI 40) Tryz.prog gls cRDg := by
  refine COk.pr (p := AIpr 40) (q := AIpr 40) (okRDigN 40) (pre := cRDg.pre) (post := cRDg.post) (fun env hso hp e he => ?_) (fun env hp e he => hp e he)
  obtain ⟨n, rfl⟩ := env1 hso
  have hr := hp (.rng .i64 (v 0)) (by simp [cRDg])
  simp only [cRDig, List.mem_cons, List.not_mem_nil, or_false] at he
  rcases he with rfl | rfl
  · exact hr
  · obtain ⟨m, hm, hb⟩ := hr
    obtain rfl : n = m := D.i.inj (Option.some.inj hm)
    have := dep_le (n := n) hb
    exact ⟨[.i n], rfl, show dep n < 40 by omega⟩
theorem kPrint : tidied auS (xPrint Tryz.prog) 3000 (cPrint 5) = tPrint := by kernel_rfl
theorem okPrint : COk (AI N) Tryz.prog gls (cPrint 5) := ok_of AI_tot (cx := xPrint Tryz.prog) (cs_cons okWS (cs_cons (okWB rfl) (cs_cons (okWB rfl) (cs_cons okBS (cs_cons okFormat cs_nil))))) kPrint vPrint
theorem kRPrint : tidied auS (xRPrint Tryz.prog) 3000 (cPrint 6) = tRPrint := by kernel_rfl
theorem okRPrint : COk (AI 40) Tryz.prog gls (cPrint 6) := ok_of AI_tot (cx := xRPrint Tryz.prog) (cs_cons okRDg cs_nil) kRPrint vRPrint
theorem kAwake : tidied auS (xAw Tryz.prog) 3000 cAwake = tAwake := by kernel_rfl
theorem okAwake : COk (AI N) Tryz.prog gls cAwake := ok_of AI_tot (cx := xAw Tryz.prog) (cs_cons okSt9 (cs_cons okSt11 (cs_cons okSt17 (cs_cons okSt23 (cs_cons okSt28 (cs_cons okPrint okLoops)))))) kAwake vAwake
theorem kLaw : tidied auS (xLaw Tryz.prog) 3000 cLaw = tLaw := by kernel_rfl
theorem okLaw : COk (AI 40) Tryz.prog gls cLaw := ok_of AI_tot (cx := xLaw Tryz.prog) (cs_cons okAwake (cs_cons okPrint (cs_cons okRPrint cs_nil))) kLaw vLaw
#print axioms okLaw
end Go.Au
