/-
  The contracts hold of the program. Conditions: none.
-/
import Derived.Test.YtafipmoglaepcaaProg
import Derived.Test.YtafipmoglaepcaaAcV3
import Derived.Test.YtafipmoglaepcaaSxTidy
import Derived.KernelRfl
namespace Go.Proofs.Ytafipmoglaepcaa.Ac
open Go Go.Sx
variable {N : Nat}

theorem all_nil {I : Itp} {P : Program} : ∀ c ∈ ([] : List Contract), COk I P c := fun _ h => by cases h
theorem all_cons {I : Itp} {P : Program} {c : Contract} {l : List Contract} (h : COk I P c) (hl : ∀ c ∈ l, COk I P c) : ∀ d ∈ c :: l, COk I P d := fun d hd => by
  rcases List.mem_cons.1 hd with rfl | hd
  · exact h
  · exact hl d hd
theorem mk {cx : Cx} {c : Contract} {t : Tree} {fuel : Nat} (hC : ∀ c ∈ cx.cs, COk (J N) cx.P c) (k : tidied fs cx fuel c = t) (v : ∀ ds, Sorts c.sorts ds → t.vc (J N) ds) : COk (J N) cx.P c :=
  tidied_sound (J_tot N) hC (fun ds h => by rw [k]; exact v ds h)

theorem kOpen : tidied fs (xOpen Try.prog) 100 cOpen = tOpen := by kernel_rfl
theorem okOpen : COk (J N) Try.prog cOpen := mk (cx := xOpen Try.prog) all_nil kOpen vOpen
theorem kAdd : tidied fs (xAdd Try.prog) 100 cAdd = tAdd := by kernel_rfl
theorem okAdd : COk (J N) Try.prog cAdd := mk (cx := xAdd Try.prog) (all_cons okOpen all_nil) kAdd vAdd
theorem kTight : tidied fs (xTight Try.prog) 100 cTight = tTight := by kernel_rfl
theorem okTight : COk (J N) Try.prog cTight := mk (cx := xTight Try.prog) (all_cons okOpen all_nil) kTight vTight
theorem kHead : tidied fs (xHead Try.prog) 100 cHead = tHead := by kernel_rfl
theorem okHead : COk (J N) Try.prog cHead := mk (cx := xHead Try.prog) (all_cons okTight (all_cons okOpen all_nil)) kHead vHead
theorem kUsed : tidied fs (xOpens Try.prog) 100 cUsed = tUsed := by kernel_rfl
theorem okUsed : COk (J N) Try.prog cUsed := mk (cx := xOpens Try.prog) (all_cons okOpen all_nil) kUsed vUsed
theorem kPeak : tidied fs (xOpens Try.prog) 100 cPeak = tPeak := by kernel_rfl
theorem okPeak : COk (J N) Try.prog cPeak := mk (cx := xOpens Try.prog) (all_cons okOpen all_nil) kPeak vPeak
theorem kCharge : tidied fs (xCharge Try.prog) 100 cCharge = tCharge := by kernel_rfl
theorem okCharge : COk (J N) Try.prog cCharge := mk (cx := xCharge Try.prog) (all_cons okHead (all_cons okAdd (all_cons okOpen all_nil))) kCharge vCharge
theorem kGive : tidied fs (xCharge Try.prog) 100 cGive = tGive := by kernel_rfl
theorem okGive : COk (J N) Try.prog cGive := mk (cx := xCharge Try.prog) (all_cons okHead (all_cons okAdd (all_cons okOpen all_nil))) kGive vGive
theorem kLimit : tidied fs (xOpens Try.prog) 100 cLimit = tLimit := by kernel_rfl
theorem okLimit : COk (J N) Try.prog cLimit := mk (cx := xOpens Try.prog) (all_cons okOpen all_nil) kLimit vLimit
theorem kIndex : tidied fs (xIndex Try.prog) 100 cIndex = tIndex := by kernel_rfl
theorem okIndex : COk (J N) Try.prog cIndex := mk (cx := xIndex Try.prog) all_nil kIndex vIndex
theorem kChild : tidied fs (xChild Try.prog) 100 cChild = tChild := by kernel_rfl
theorem okChild : COk (J N) Try.prog cChild := mk (cx := xChild Try.prog) (all_cons okIndex (all_cons okOpen all_nil)) kChild vChild
theorem kSave : tidied fs (xSave Try.prog) 100 cSave = tSave := by kernel_rfl
theorem okSave : COk (J N) Try.prog cSave := mk (cx := xSave Try.prog) (all_cons okOpen all_nil) kSave vSave
theorem kOver : tidied fs (xOver Try.prog) 100 cOver = tOver := by kernel_rfl
theorem okOver : COk (J N) Try.prog cOver := mk (cx := xOver Try.prog) (all_cons okOpen all_nil) kOver vOver
theorem kCollect : tidied fs (xCollect Try.prog) 100 cCollect = tCollect := by kernel_rfl
theorem okCollect : COk (J N) Try.prog cCollect := mk (cx := xCollect Try.prog) (all_cons okOpen all_nil) kCollect vCollect
theorem kContains : tidied fs (xContains Try.prog) 100 cContains = tContains := by kernel_rfl
theorem okContains : COk (J N) Try.prog cContains := mk (cx := xContains Try.prog) all_nil kContains vContains
theorem kMove : tidied fs (xMove Try.prog) 200 cMove = tMove := by kernel_rfl
theorem okMove : COk (J N) Try.prog cMove := mk (cx := xMove Try.prog) (all_cons okCollect (all_cons okContains (all_cons okAdd (all_cons okOpen all_nil)))) kMove vMove
theorem kNew : tidied fs (xOpens Try.prog) 100 cNew = tNew := by kernel_rfl
theorem okNew : COk (J N) Try.prog cNew := mk (cx := xOpens Try.prog) (all_cons okOpen all_nil) kNew vNew


/-! ### The walk below a node calls itself -/

theorem kWalk : tidied fs (xWalk Try.prog) 100 (cWalk 21) = tWalk := by kernel_rfl
theorem walk_step (h : COk (J N) Try.prog (cWalk 20)) : COk (J N) Try.prog (cWalk 21) := mk (cx := xWalk Try.prog) (all_cons h (all_cons okOpen all_nil)) kWalk vWalk
theorem okWalk : ∀ N, COk (J N) Try.prog (cWalk 20)
  | 0 => fun g w xs hso _ _ _ hp => by
    obtain ⟨ds, h1, h2⟩ := hp (.pr 20 [fn3 38 (v 0) (v 1) (v 2)]) (by simp [cWalk])
    exfalso
    simp only [dens] at h1
    split at h1
    · rename_i d ds' _ h3
      cases h1
      cases h3
      cases d with
      | i m =>
        have h4 : 0 ≤ m ∧ m < ((0 : Nat) : Int) := h2
        omega
      | t T => exact h2
    · cases h1
  | N + 1 => by
    have h := walk_step (okWalk N)
    refine COk.pr (p := Jpr N) (q := Jpr (N + 1)) h (fun env _ hp e he => ?_) (fun env hp e he => ?_)
    · simp only [cWalk, List.mem_cons, List.not_mem_nil, or_false] at he
      have keep : ∀ {e : PE}, e ∈ (cWalk 20).pre → (∀ j l, e = .pr j l → ∀ ds, Jpr (N + 1) j ds → Jpr N j ds) → e.den (J N) env := fun hm hj => PE.den_pr (p := Jpr (N + 1)) hj (hp _ hm)
      rcases he with rfl | rfl | rfl | rfl | rfl
      · exact keep (by simp [cWalk]) fun j l e ds h => by
          cases e
          match ds, h with
          | [.t _, .i _], h => exact h
          | [], h => exact h.elim
          | [.t _], h => exact h.elim
          | .i _ :: _, h => exact h.elim
          | .t _ :: .t _ :: _, h => exact h.elim
          | .t _ :: .i _ :: _ :: _, h => exact h.elim
      · exact keep (by simp [cWalk]) fun j l e ds h => by cases e
      · exact keep (by simp [cWalk]) fun j l e ds h => by cases e
      · exact keep (by simp [cWalk]) fun j l e ds h => by cases e
      · obtain ⟨ds, h1, h2⟩ := hp (.pr 20 [fn3 38 (v 0) (v 1) (v 2)]) (by simp)
        refine ⟨ds, by rw [← dens_pr (p := Jpr (N + 1))]; exact h1, ?_⟩
        match ds, h2 with
        | [.i m], h2 =>
          have h4 : 0 ≤ m ∧ m < ((N + 1 : Nat) : Int) := h2
          show 0 ≤ m ∧ m < (N : Int) + 1
          omega
        | [], h2 => exact h2.elim
        | .t _ :: _, h2 => exact h2.elim
        | .i _ :: _ :: _, h2 => exact h2.elim
    · simp only [List.mem_cons, List.not_mem_nil, or_false] at he
      subst he
      exact PE.den_pr (p := Jpr N) (fun j l e => by cases e) (hp _ (by simp [cWalk]))

theorem kClose : tidied fs (xClose Try.prog) 200 cClose = tClose := by kernel_rfl
theorem okClose (hN : 65 ≤ N) : COk (J N) Try.prog cClose := mk (cx := xClose Try.prog) (all_cons (okWalk N) (all_cons okOpen all_nil)) kClose (vClose hN)
theorem kDoes : tidied fs (xDoes Try.prog) 100 cDoes = tDoes := by kernel_rfl
theorem okDoes (hN : 65 ≤ N) : COk (J N) Try.prog cDoes := mk (cx := xDoes Try.prog) (all_cons okChild (all_cons (okClose hN) (all_cons okGive (all_cons okLimit (all_cons okMove (all_cons okCharge all_nil)))))) kDoes vDoes
theorem kPlayed : tidied fs (xPlayed Try.prog) 100 cPlayed = tPlayed := by kernel_rfl
theorem okPlayed (hN : 65 ≤ N) : COk (J N) Try.prog cPlayed := mk (cx := xPlayed Try.prog) (all_cons okNew (all_cons (okDoes hN) all_nil)) kPlayed vPlayed
end Go.Proofs.Ytafipmoglaepcaa.Ac
