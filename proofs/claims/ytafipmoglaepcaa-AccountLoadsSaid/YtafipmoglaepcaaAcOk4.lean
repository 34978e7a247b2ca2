/-
  The contracts of the reference hold of the program. Conditions: none.
-/
import Derived.Test.YtafipmoglaepcaaAcOk2
import Derived.Test.YtafipmoglaepcaaAcV7
import Derived.Test.YtafipmoglaepcaaAcV9
namespace Go.Proofs.Ytafipmoglaepcaa.Ac
open Go Go.Sx
variable {N : Nat}

theorem kROpen : tidied fs (xR0 Try.prog) 100 rOpen = tROpen := by kernel_rfl
theorem okROpen : COk (J N) Try.prog rOpen := mk (cx := xR0 Try.prog) all_nil kROpen vROpen
theorem kRPath : tidied fs (xR1 Try.prog) 100 rPath = tRPath := by kernel_rfl
theorem okRPath : COk (J N) Try.prog rPath := mk (cx := xR1 Try.prog) (all_cons okROpen all_nil) kRPath vRPath
theorem kROn : tidied fs (xR0 Try.prog) 100 rOn = tROn := by kernel_rfl
theorem okROn : COk (J N) Try.prog rOn := mk (cx := xR0 Try.prog) all_nil kROn vROn
theorem kRAll : tidied fs (xR2 Try.prog) 100 rAll = tRAll := by kernel_rfl
theorem okRAll : COk (J N) Try.prog rAll := mk (cx := xR2 Try.prog) (all_cons okROpen (all_cons okRPath (all_cons okROn all_nil))) kRAll vRAll
theorem kRPeaks : tidied fs (xR3 Try.prog) 100 rPeaks = tRPeaks := by kernel_rfl
theorem okRPeaks : COk (J N) Try.prog rPeaks := mk (cx := xR3 Try.prog) (all_cons okROpen (all_cons okRAll all_nil)) kRPeaks vRPeaks
theorem kRTight : tidied fs (xRCs Try.prog) 100 rTight = tRTight := by kernel_rfl
theorem rCs_ok : ∀ c ∈ rCs, COk (J N) Try.prog c := all_cons okROpen (all_cons okRPath (all_cons okROn (all_cons okRAll (all_cons okRPeaks all_nil))))
theorem okRTight : COk (J N) Try.prog rTight := mk (cx := xRCs Try.prog) rCs_ok kRTight vRTight
/-- What the head's tree may call. -/
def xRHead (P : Program) : Cx := { P, cs := [rOpen, rPath, rOn, rAll, rPeaks, rTight], anns := rAnns }
theorem kRHead : tidied fs (xRHead Try.prog) 100 rHead = tRHead := by kernel_rfl
theorem okRHead : COk (J N) Try.prog rHead := mk (cx := xRHead Try.prog) (all_cons okROpen (all_cons okRPath (all_cons okROn (all_cons okRAll (all_cons okRPeaks (all_cons okRTight all_nil)))))) kRHead vRHead
theorem kRUsed : tidied fs (xRCs2 Try.prog) 100 rUsed = tRUsed := by kernel_rfl
theorem rCs2_ok : ∀ c ∈ rCs2, COk (J N) Try.prog c := all_cons okROpen (all_cons okRPath (all_cons okROn (all_cons okRAll (all_cons okRPeaks (all_cons okRTight (all_cons okRHead all_nil))))))
theorem okRUsed : COk (J N) Try.prog rUsed := mk (cx := xRCs2 Try.prog) rCs2_ok kRUsed vRUsed
theorem kRPeak : tidied fs (xRCs2 Try.prog) 100 rPeak = tRPeak := by kernel_rfl
theorem okRPeak : COk (J N) Try.prog rPeak := mk (cx := xRCs2 Try.prog) rCs2_ok kRPeak vRPeak
theorem kRCharge : tidied fs (xRCs2 Try.prog) 100 rCharge = tRCharge := by kernel_rfl
theorem okRCharge : COk (J N) Try.prog rCharge := mk (cx := xRCs2 Try.prog) rCs2_ok kRCharge vRCharge
theorem kRGive : tidied fs (xRCs2 Try.prog) 100 rGive = tRGive := by kernel_rfl
theorem okRGive : COk (J N) Try.prog rGive := mk (cx := xRCs2 Try.prog) rCs2_ok kRGive vRGive
theorem kRLimit : tidied fs (xRCs2 Try.prog) 100 rLimit = tRLimit := by kernel_rfl
theorem okRLimit : COk (J N) Try.prog rLimit := mk (cx := xRCs2 Try.prog) rCs2_ok kRLimit vRLimit
theorem kRMove : tidied fs (xRCs2 Try.prog) 200 rMove = tRMove := by kernel_rfl
theorem okRMove : COk (J N) Try.prog rMove := mk (cx := xRCs2 Try.prog) rCs2_ok kRMove vRMove
theorem kRChild : tidied fs (xRCs2 Try.prog) 200 rChild = tRChild := by kernel_rfl
theorem okRChild : COk (J N) Try.prog rChild := mk (cx := xRCs2 Try.prog) rCs2_ok kRChild vRChild
theorem kRClose : tidied fs (xRCs2 Try.prog) 200 rClose = tRClose := by kernel_rfl
theorem okRClose : COk (J N) Try.prog rClose := mk (cx := xRCs2 Try.prog) rCs2_ok kRClose vRClose
theorem kROver : tidied fs (xRCs2 Try.prog) 100 rOver = tROver := by kernel_rfl
theorem okROver : COk (J N) Try.prog rOver := mk (cx := xRCs2 Try.prog) rCs2_ok kROver vROver
theorem kRSave : tidied fs (xRCs2 Try.prog) 100 rSave = tRSave := by kernel_rfl
theorem okRSave : COk (J N) Try.prog rSave := mk (cx := xRCs2 Try.prog) rCs2_ok kRSave vRSave
theorem kRNew : tidied fs (xRCs2 Try.prog) 100 rNew = tRNew := by kernel_rfl
theorem okRNew : COk (J N) Try.prog rNew := mk (cx := xRCs2 Try.prog) rCs2_ok kRNew vRNew
end Go.Proofs.Ytafipmoglaepcaa.Ac

namespace Go.Proofs.Ytafipmoglaepcaa.Ac
open Go Go.Sx
variable {N : Nat}

theorem kRBelow : tidied fs (xRBelow Try.prog) 200 (rBelow 21) = tRBelow := by kernel_rfl
theorem RBelow_step (h : COk (J N) Try.prog (rBelow 20)) : COk (J N) Try.prog (rBelow 21) := mk (cx := xRBelow Try.prog) (all_cons okROpen (all_cons h all_nil)) kRBelow vRBelow
theorem okRBelow : ∀ N, COk (J N) Try.prog (rBelow 20)
  | 0 => fun g w xs hso _ _ _ hp => by
    obtain ⟨ds, h1, h2⟩ := hp (.pr 20 [fn3 38 (v 0) (v 1) (v 2)]) (by simp [rBelow])
    exfalso
    simp only [dens] at h1
    split at h1
    · rename_i d ds' _ h3
      cases h1
      cases h3
      cases d with
      | i m =>
        have h4 : 0 ≤ m ∧ m < ((0 : Nat) : Int) := h2
        omega
      | t T => exact h2
    · cases h1
  | N + 1 => by
    have h := RBelow_step (okRBelow N)
    refine COk.pr (p := Jpr N) (q := Jpr (N + 1)) h (fun env _ hp e he => ?_) (fun env hp e he => ?_)
    · simp only [rBelow, List.mem_cons, List.not_mem_nil, or_false] at he
      have keep : ∀ {e : PE}, e ∈ (rBelow 20).pre → (∀ j l, e = .pr j l → ∀ ds, Jpr (N + 1) j ds → Jpr N j ds) → e.den (J N) env := fun hm hj => PE.den_pr (p := Jpr (N + 1)) hj (hp _ hm)
      rcases he with rfl | rfl
      · exact keep (by simp [rBelow]) fun j l e ds h => by
          cases e
          match ds, h with
          | [.t _, .i _], h => exact h
          | [], h => exact h.elim
          | [.t _], h => exact h.elim
          | .i _ :: _, h => exact h.elim
          | .t _ :: .t _ :: _, h => exact h.elim
          | .t _ :: .i _ :: _ :: _, h => exact h.elim
      · obtain ⟨ds, h1, h2⟩ := hp (.pr 20 [fn3 38 (v 0) (v 1) (v 2)]) (by simp [rBelow])
        refine ⟨ds, by rw [← dens_pr (p := Jpr (N + 1))]; exact h1, ?_⟩
        match ds, h2 with
        | [.i m], h2 =>
          have h4 : 0 ≤ m ∧ m < ((N + 1 : Nat) : Int) := h2
          show 0 ≤ m ∧ m < (N : Int) + 1
          omega
        | [], h2 => exact h2.elim
        | .t _ :: _, h2 => exact h2.elim
        | .i _ :: _ :: _, h2 => exact h2.elim
    · simp only [rBelow, List.mem_cons, List.not_mem_nil, or_false] at he
      rcases he with rfl | rfl
      · exact PE.den_pr (p := Jpr N) (fun j l e => by cases e) (hp _ (by simp [rBelow]))
      · exact PE.den_pr (p := Jpr N) (fun j l e => by cases e) (hp _ (by simp [rBelow]))
theorem kWalkC : tidied fs (xWalkC Try.prog) 200 (cWalkC 21) = tWalkC := by kernel_rfl
theorem WalkC_step (h : COk (J N) Try.prog (cWalkC 20)) : COk (J N) Try.prog (cWalkC 21) := mk (cx := xWalkC Try.prog) (all_cons okOpen (all_cons h all_nil)) kWalkC vWalkC
theorem okWalkC : ∀ N, COk (J N) Try.prog (cWalkC 20)
  | 0 => fun g w xs hso _ _ _ hp => by
    obtain ⟨ds, h1, h2⟩ := hp (.pr 20 [fn3 38 (v 0) (v 1) (v 2)]) (by simp [cWalkC])
    exfalso
    simp only [dens] at h1
    split at h1
    · rename_i d ds' _ h3
      cases h1
      cases h3
      cases d with
      | i m =>
        have h4 : 0 ≤ m ∧ m < ((0 : Nat) : Int) := h2
        omega
      | t T => exact h2
    · cases h1
  | N + 1 => by
    have h := WalkC_step (okWalkC N)
    refine COk.pr (p := Jpr N) (q := Jpr (N + 1)) h (fun env _ hp e he => ?_) (fun env hp e he => ?_)
    · simp only [cWalkC, List.mem_cons, List.not_mem_nil, or_false] at he
      have keep : ∀ {e : PE}, e ∈ (cWalkC 20).pre → (∀ j l, e = .pr j l → ∀ ds, Jpr (N + 1) j ds → Jpr N j ds) → e.den (J N) env := fun hm hj => PE.den_pr (p := Jpr (N + 1)) hj (hp _ hm)
      rcases he with rfl | rfl | rfl | rfl | rfl
      · exact keep (by simp [cWalkC]) fun j l e ds h => by
          cases e
          match ds, h with
          | [.t _, .i _], h => exact h
          | [], h => exact h.elim
          | [.t _], h => exact h.elim
          | .i _ :: _, h => exact h.elim
          | .t _ :: .t _ :: _, h => exact h.elim
          | .t _ :: .i _ :: _ :: _, h => exact h.elim
      · exact keep (by simp [cWalkC]) fun j l e ds h => by cases e
      · exact keep (by simp [cWalkC]) fun j l e ds h => by
          cases e
          match ds, h with
          | [.t _, .i _], h => exact h
          | [], h => exact h.elim
          | [.t _], h => exact h.elim
          | .i _ :: _, h => exact h.elim
          | .t _ :: .t _ :: _, h => exact h.elim
          | .t _ :: .i _ :: _ :: _, h => exact h.elim
      · exact keep (by simp [cWalkC]) fun j l e ds h => by cases e
      · obtain ⟨ds, h1, h2⟩ := hp (.pr 20 [fn3 38 (v 0) (v 1) (v 2)]) (by simp [cWalkC])
        refine ⟨ds, by rw [← dens_pr (p := Jpr (N + 1))]; exact h1, ?_⟩
        match ds, h2 with
        | [.i m], h2 =>
          have h4 : 0 ≤ m ∧ m < ((N + 1 : Nat) : Int) := h2
          show 0 ≤ m ∧ m < (N : Int) + 1
          omega
        | [], h2 => exact h2.elim
        | .t _ :: _, h2 => exact h2.elim
        | .i _ :: _ :: _, h2 => exact h2.elim
    · simp only [cWalkC, List.mem_cons, List.not_mem_nil, or_false] at he
      rcases he with rfl | rfl
      · exact PE.den_pr (p := Jpr N) (fun j l e => by cases e) (hp _ (by simp [cWalkC]))
      · exact PE.den_pr (p := Jpr N) (fun j l e => by cases e) (hp _ (by simp [cWalkC]))
theorem kWalkN : tidied fs (xWalkN Try.prog) 200 cWalkN = tWalkN := by kernel_rfl
theorem okWalkN (hN : 65 ≤ N) : COk (J N) Try.prog cWalkN := mk (cx := xWalkN Try.prog) (all_cons okOpen (all_cons (okWalkC N) all_nil)) kWalkN (vWalkN hN)
theorem kCollectB : tidied fs (xCollectB Try.prog) 200 cCollectB = tCollectB := by kernel_rfl
theorem okCollectB (hN : 65 ≤ N) : COk (J N) Try.prog cCollectB := mk (cx := xCollectB Try.prog) (all_cons okOpen (all_cons (okWalkN hN) all_nil)) kCollectB vCollectB
theorem kListB : tidied fs (xListB Try.prog) 200 cListB = tListB := by kernel_rfl
theorem okListB (hN : 65 ≤ N) : COk (J N) Try.prog cListB := mk (cx := xListB Try.prog) (all_cons (okCollectB hN) (all_cons okOpen all_nil)) kListB vListB
theorem kInts : tidied fs (xInts Try.prog) 100 cInts = tInts := by kernel_rfl
theorem okInts : COk (J N) Try.prog cInts := mk (cx := xInts Try.prog) all_nil kInts vInts
theorem kWalks : tidied fs (xWalks Try.prog) 200 cWalks = tWalks := by kernel_rfl
theorem okWalks (hN : 65 ≤ N) : COk (J N) Try.prog cWalks := mk (cx := xWalks Try.prog) (all_cons okList (all_cons (okListB hN) (all_cons okInts (all_cons okOpen all_nil)))) kWalks vWalks
theorem kRDoes : tidied fs (xRDoes Try.prog) 200 rDoes = tRDoes := by kernel_rfl
theorem okRDoes : COk (J N) Try.prog rDoes := mk (cx := xRDoes Try.prog) (all_cons okRChild (all_cons okRClose (all_cons okRGive (all_cons okRLimit (all_cons okRMove (all_cons okRCharge all_nil)))))) kRDoes vRDoes
theorem kAlike : tidied fs (xAlike Try.prog) 200 cAlike = tAlike := by kernel_rfl
theorem okAlike (hN : 65 ≤ N) : COk (J N) Try.prog cAlike := mk (cx := xAlike Try.prog) (all_cons okUsed (all_cons okHead (all_cons okPeak (all_cons okTight (all_cons okRUsed (all_cons okRHead (all_cons okRPeak (all_cons okRTight (all_cons okRPath (all_cons (okRBelow N) (all_cons (okWalks hN) all_nil))))))))))) kAlike (vAlike hN)
theorem kLPlays : tidied fs (xPlays Try.prog) 200 cPlays = tLPlays := by kernel_rfl
theorem okLPlays : COk (J 65) Try.prog cPlays := mk (cx := xPlays Try.prog) (all_cons (okAwake _) (all_cons (okDoes (Nat.le_refl _)) (all_cons okRDoes (all_cons okOver (all_cons okROver (all_cons okInts (all_cons (okAlike (Nat.le_refl _)) (all_cons okSave (all_cons okRSave (all_cons okSame all_nil)))))))))) kLPlays vLPlays
end Go.Proofs.Ytafipmoglaepcaa.Ac
