/-
  The contracts hold of the program: steps that are read and written. Conditions: none.
-/
import Derived.Test.YtiehemggplndcaaGreatDoorD1
import Derived.Test.YtiehemggplndcaaGreatDoorC4
import Derived.Test.YtiehemggplndcaaGreatDoorA4
import Derived.Test.YtiehemggplndcaaGreatDoorB7
import Derived.KernelRfl
namespace Go.Tt
open Go Go.Sx Go.Mg Go.Proofs
variable {N : Nat}
theorem kRDig : tidied ttS (xRDig Tryz.prog) 1000 (cRDig 21) = tRDig := by kernel_rfl
theorem rdig_step (h : COk (TI N) Tryz.prog gls (cRDig 20)) : COk (TI N) Tryz.prog gls (cRDig 21) := ok_of TI_tot (cx := xRDig Tryz.prog) (cs_cons h cs_nil) kRDig vRDig
theorem okRDigN : ∀ N, COk (TI N) Tryz.prog gls (cRDig 20)
  | 0 => fun g w xs hso _ _ _ _ hp => by
    obtain ⟨env, φ, nb⟩ := g
    obtain ⟨n, rfl⟩ := env1 hso
    obtain ⟨ds, h1, h2⟩ := hp (.pr 20 [v 0]) (by simp [cRDig])
    have h1 : [D.i n] = ds := Option.some.inj h1
    subst h1
    have h3 : dep n < 0 := h2
    omega
  | N + 1 => by
    have h := rdig_step (okRDigN N)
    refine COk.pr (p := TIpr N) (q := TIpr (N + 1)) h (pre := (cRDig 20).pre) (post := (cRDig 20).post) (fun env hso hp e he => ?_) (fun env hp e he => ?_)
    · obtain ⟨n, rfl⟩ := env1 hso
      simp only [cRDig, List.mem_cons, List.not_mem_nil, or_false] at he
      rcases he with rfl | rfl
      · exact PE.den_pr (p := TIpr (N + 1)) (fun j l e => by cases e) (hp _ (by simp [cRDig]))
      · obtain ⟨ds, h1, h2⟩ := hp (.pr 20 [v 0]) (by simp [cRDig])
        have h1 : [D.i n] = ds := Option.some.inj h1
        subst h1
        have h3 : dep n < N + 1 := h2
        exact ⟨[.i n], rfl, show dep n ≤ N by omega⟩
    · simp only [cRDig, List.mem_singleton] at he
      subst he
      exact PE.den_pr (p := TIpr N) (fun j l e => by cases e) (hp _ (by simp [cRDig]))
theorem okRDg : COk (TI 40) Tryz.prog gls cRDg := by
  refine COk.pr (p := TIpr 40) (q := TIpr 40) (okRDigN 40) (pre := cRDg.pre) (post := cRDg.post) (fun env hso hp e he => ?_) (fun env hp e he => hp e he)
  obtain ⟨n, rfl⟩ := env1 hso
  have hr := hp (.rng .i64 (v 0)) (by simp [cRDg])
  simp only [cRDig, List.mem_cons, List.not_mem_nil, or_false] at he
  rcases he with rfl | rfl
  · exact hr
  · obtain ⟨m, hm, hb⟩ := hr
    obtain rfl : n = m := D.i.inj (Option.some.inj hm)
    have := dep_le (n := n) hb
    exact ⟨[.i n], rfl, show dep n < 40 by omega⟩
theorem kWhole : tidied ttS (xWhole Tryz.prog) 1000 cWhole = tWhole := by kernel_rfl
theorem okWhole : COk (TI N) Tryz.prog gls cWhole := ok_of TI_tot (cx := xWhole Tryz.prog) cs_nil kWhole vWhole
theorem kRInt : tidied ttS (xRInt Tryz.prog) 1000 (cInt 79) = tRInt := by kernel_rfl
theorem okRInt : COk (TI 40) Tryz.prog gls (cInt 79) := ok_of TI_tot (cx := xRInt Tryz.prog) (cs_cons okWhole (cs_cons okRDg cs_nil)) kRInt vRInt
theorem kEnd : tidied ttS (xEnd Tryz.prog) 1000 cEnd = tEnd := by kernel_rfl
theorem okEnd : COk (TI N) Tryz.prog gls cEnd := ok_of TI_tot (cx := xEnd Tryz.prog) cs_nil kEnd vEnd
theorem kText : tidied ttS (xText Tryz.prog) 1000 cText = tText := by kernel_rfl
theorem okText : COk (TI N) Tryz.prog gls cText := ok_of TI_tot (cx := xText Tryz.prog) cs_nil kText vText
theorem kUnq : tidied ttS (xUnq Tryz.prog) 1000 cUnq = tUnq := by kernel_rfl
theorem okUnq : COk (TI N) Tryz.prog gls cUnq := ok_of TI_tot (cx := xUnq Tryz.prog) (cs_cons okText cs_nil) kUnq vUnq
theorem kRight : tidied ttS (xRight Tryz.prog) 1000 cRight = tRight := by kernel_rfl
theorem okRight : COk (TI N) Tryz.prog gls cRight := ok_of TI_tot (cx := xRight Tryz.prog) (cs_cons okText cs_nil) kRight vRight
theorem kRSpl : tidied ttS (xRSpl Tryz.prog) 1000 cRSpl = tRSpl := by kernel_rfl
theorem okRSpl : COk (TI N) Tryz.prog gls cRSpl := ok_of TI_tot (cx := xRSpl Tryz.prog) (cs_cons okEnd (cs_cons okUnq (cs_cons okRight cs_nil))) kRSpl vRSpl
theorem kRName : tidied ttS (xName Tryz.prog) 1000 (cName 59) = tRName := by kernel_rfl
theorem okRName : COk (TI N) Tryz.prog gls (cName 59) := ok_of TI_tot (cx := xName Tryz.prog) cs_nil kRName vRName
theorem kTab : tidied ttS (xTab Tryz.prog) 1000 cTab = tTab := by kernel_rfl
theorem okTab : COk (TI N) Tryz.prog gls cTab := ok_of TI_tot (cx := xTab Tryz.prog) cs_nil kTab vTab
theorem kWds : tidied ttS (xWds Tryz.prog) 1000 cWds = tWds := by kernel_rfl
theorem okWds : COk (TI N) Tryz.prog gls cWds := ok_of TI_tot (cx := xWds Tryz.prog) (cs_cons okRSpl cs_nil) kWds vWds
end Go.Tt
