/-
  The contracts of Load hold of the program. Conditions: none.
-/
import Derived.Test.YtafipmoglaepcaaAcOk4
import Derived.Test.YtafipmoglaepcaaAcV10
namespace Go.Proofs.Ytafipmoglaepcaa.Ac
open Go Go.Sx

theorem kBig : tidied fs (xBig Try.prog) 100 cBig = tBig := by kernel_rfl
theorem kWalkL : tidied fs (xWalkL Try.prog) 100 (cWalkL 21) = tWalkL := by kernel_rfl
theorem kClosed : tidied fs (xClosed Try.prog) 100 cClosed = tClosed := by kernel_rfl
theorem kLdOk : tidied fs (xLd Try.prog) 100 cLdOk = tLdOk := by kernel_rfl
theorem kLdBad : tidied fs (xLd Try.prog) 100 cLdBad = tLdBad := by kernel_rfl
theorem kRLdOk : tidied fs (xRLd Try.prog) 100 rLdOk = tRLdOk := by kernel_rfl
theorem kRLdBad : tidied fs (xRLd Try.prog) 100 rLdBad = tRLdBad := by kernel_rfl
theorem kLLoadsOk : tidied fs (xLoadsOk Try.prog) 100 cLoadsOk = tLLoadsOk := by kernel_rfl
theorem kLLoadsBad : tidied fs (xLoadsBad Try.prog) 100 cLoadsBad = tLLoadsBad := by kernel_rfl
theorem kSameR : tidied fs (xTwo Try.prog) 100 cSameR = tSame := by kernel_rfl

variable {N : Nat}
theorem okBig : COk (J N) Try.prog cBig := mk (cx := xBig Try.prog) all_nil kBig vBig
theorem okClosed : COk (J N) Try.prog cClosed := mk (cx := xClosed Try.prog) all_nil kClosed vClosed
theorem WalkL_step (h : COk (J N) Try.prog (cWalkL 20)) : COk (J N) Try.prog (cWalkL 21) := mk (cx := xWalkL Try.prog) (all_cons h (all_cons okOpen all_nil)) kWalkL vWalkL
theorem okWalkL : ∀ N, COk (J N) Try.prog (cWalkL 20)
  | 0 => fun g w xs hso _ _ _ hp => by
    obtain ⟨ds, h1, h2⟩ := hp (.pr 20 [fn3 38 (gdE (v 0)) (v 1) (v 2)]) (by simp [cWalkL])
    exfalso
    simp only [dens] at h1
    split at h1
    · rename_i d ds' _ h3
      cases h1
      cases h3
      cases d with
      | i m =>
        have h4 : 0 ≤ m ∧ m < ((0 : Nat) : Int) := h2
        omega
      | t T => exact h2
    · cases h1
  | N + 1 => by
    have h := WalkL_step (okWalkL N)
    refine COk.pr (p := Jpr N) (q := Jpr (N + 1)) h (fun env _ hp e he => ?_) (fun env hp e he => ?_)
    · simp only [cWalkL, List.mem_cons, List.not_mem_nil, or_false] at he
      have keep : ∀ {e : PE}, e ∈ (cWalkL 20).pre → (∀ j l, e = .pr j l → ∀ ds, Jpr (N + 1) j ds → Jpr N j ds) → e.den (J N) env := fun hm hj => PE.den_pr (p := Jpr (N + 1)) hj (hp _ hm)
      rcases he with rfl | rfl | rfl | rfl | rfl
      · exact keep (by simp [cWalkL]) fun j l e ds h => by
          cases e
          match ds, h with
          | [.t _, .i _], h => exact h
          | [], h => exact h.elim
          | [.t _], h => exact h.elim
          | .i _ :: _, h => exact h.elim
          | .t _ :: .t _ :: _, h => exact h.elim
          | .t _ :: .i _ :: _ :: _, h => exact h.elim
      · exact keep (by simp [cWalkL]) fun j l e ds h => by cases e
      · exact keep (by simp [cWalkL]) fun j l e ds h => by cases e
      · exact keep (by simp [cWalkL]) fun j l e ds h => by cases e
      · obtain ⟨ds, h1, h2⟩ := hp (.pr 20 [fn3 38 (gdE (v 0)) (v 1) (v 2)]) (by simp [cWalkL])
        refine ⟨ds, by rw [← dens_pr (p := Jpr (N + 1))]; exact h1, ?_⟩
        match ds, h2 with
        | [.i m], h2 =>
          have h4 : 0 ≤ m ∧ m < ((N + 1 : Nat) : Int) := h2
          show 0 ≤ m ∧ m < (N : Int) + 1
          omega
        | [], h2 => exact h2.elim
        | .t _ :: _, h2 => exact h2.elim
        | .i _ :: _ :: _, h2 => exact h2.elim
    · simp only [cWalkL, List.mem_cons, List.not_mem_nil, or_false] at he
      rcases he with rfl | rfl
      · exact PE.den_pr (p := Jpr N) (fun j l e => by cases e) (hp _ (by simp [cWalkL]))
      · exact PE.den_pr (p := Jpr N) (fun j l e => by cases e) (hp _ (by simp [cWalkL]))
theorem ldCs_ok : ∀ c ∈ [cClosed, cOpen, cWalkL 20, cBig], COk (J N) Try.prog c := all_cons okClosed (all_cons okOpen (all_cons (okWalkL N) (all_cons okBig all_nil)))
theorem okLdOk (hN : 65 ≤ N) : COk (J N) Try.prog cLdOk := mk (cx := xLd Try.prog) ldCs_ok kLdOk (vLdOk hN)
theorem okLdBad (hN : 65 ≤ N) : COk (J N) Try.prog cLdBad := mk (cx := xLd Try.prog) ldCs_ok kLdBad (vLdBad hN)
theorem rldCs_ok : ∀ c ∈ [rOpen, rPath, rAll], COk (J N) Try.prog c := all_cons okROpen (all_cons okRPath (all_cons okRAll all_nil))
theorem okRLdOk : COk (J N) Try.prog rLdOk := mk (cx := xRLd Try.prog) rldCs_ok kRLdOk vRLdOk
theorem okRLdBad : COk (J N) Try.prog rLdBad := mk (cx := xRLd Try.prog) rldCs_ok kRLdBad vRLdBad
theorem okSameR : COk (J N) Try.prog cSameR := mk (cx := xTwo Try.prog) all_nil kSameR vSame
theorem okLLoadsOk : COk (J 65) Try.prog cLoadsOk := mk (cx := xLoadsOk Try.prog) (all_cons (okAwake _) (all_cons (okLdOk (Nat.le_refl _)) (all_cons okRLdOk (all_cons (okDoes (Nat.le_refl _)) (all_cons okRDoes (all_cons okSave (all_cons okRSave (all_cons okSameR (all_cons okSame all_nil))))))))) kLLoadsOk vLLoadsOk
theorem okLLoadsBad : COk (J 65) Try.prog cLoadsBad := mk (cx := xLoadsBad Try.prog) (all_cons (okAwake _) (all_cons (okLdBad (Nat.le_refl _)) (all_cons okRLdBad all_nil))) kLLoadsBad vLLoadsBad
end Go.Proofs.Ytafipmoglaepcaa.Ac
