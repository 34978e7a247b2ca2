/-
  A region that draws its order: the walk. Conditions: none.
-/
import Derived.Test.YtafipmoglaepcaaSxDraw
namespace Go.Sx
open Go

variable {A : Amb} {I : Itp} {P : Program} {g : G} {X : Nat → Prop} {ts : Tmps} {a : Act} {M : Mem} {w : World} {ops : Array Oper}

theorem operE_wp {cx : Cx} {e : Eng} (hE : EngSound I cx e) {s : St} {o : Oper} {k : St → Tree} {r : Option Nat} {n : Nat} {Q : Exit → Act → World → Prop} (hs : SRel A I cx.P X g s a w)
    (hx : ∀ t, .tmp t ∈ o.op.operands.toList → ¬ X t) (h : (operE cx e s o k).vc I g.env) : o.wpIn (FW r) n cx.P a w (NPost A I cx.P X g k) Q := by
  unfold operE at h
  split at h
  · rename_i v s1 ps hq
    split at h
    · rename_i s' hset; exact loud_wp hs hx hq hset h
    · exact h.elim
  · split at h
    · rename_i f l hq; exact call_wp hE hs hx hq h
    · exact h.elim

theorem mem_readsT : ∀ {l : List Operand} {t : Nat}, .tmp t ∈ l → t ∈ readsT l
  | x :: l, t, h => by
    rcases List.mem_cons.1 h with h | h
    · subst h; simp [readsT]
    · have := mem_readsT h
      cases x <;> simp [readsT, this]
  | [], _, h => by simp at h

theorem drawGo_wp {cx : Cx} {e : Eng} (hE : EngSound I cx e) (hD : DrawOk ops) {k : St → Tree} {r : Option Nat} {n : Nat} {Q : Exit → Act → World → Prop} {g0 : G}
    (hQ : ∀ g s a w, g0.Le g → SRel A I cx.P (fun _ => False) g s a w → (k s).vc I g.env → Q .normal a w) :
    ∀ (m fuel : Nat) (g : G) (d : Dr) (listed : Array Bool) (a : Act) (w : World) (cov : List Nat), g0.Le g → (drawGo cx e ops fuel d k).vc I g.env → DInv A I cx.P ops g d listed a w →
      cov.length ≤ m → (∀ i, i < ops.size → listed.getD i false = false → i ∈ cov) → wpAnyIn (FW r) n cx.P .any ops Q m listed a w := by
  -- all have been listed
  have fin : ∀ (fuel : Nat) (g : G) (d : Dr) (listed : Array Bool) (a : Act) (w : World), g0.Le g → (drawGo cx e ops fuel d k).vc I g.env → DInv A I cx.P ops g d listed a w →
      Region.ready .any ops listed = [] → Q .normal a w := by
    intro fuel g d listed a w hg h hI hr
    have hall : ∀ i, i < ops.size → listed.getD i false = true := by
      intro i
      induction i using Nat.strongRecOn with
      | _ i ih =>
        intro hi
        cases hl : listed.getD i false with
        | true => rfl
        | false =>
          exfalso
          have : i ∈ Region.ready .any ops listed := by
            rw [mem_ready]
            refine ⟨?_, ops[i], by simp [hi], fun ed he hb => ih ed.on (hD.edge i ops[i] (by simp [hi]) ed (by simpa using he) hb) (Nat.lt_trans (hD.edge i ops[i] (by simp [hi]) ed (by simpa using he) hb) hi)⟩
            rw [Array.getD_eq_getD_getElem?] at hl ⊢
            have : i < listed.size := by rw [hI.size]; exact hi
            simp only [Array.getElem?_eq_getElem this, Option.getD_some] at hl ⊢
            exact hl
          rw [hr] at this
          cases this
    cases fuel with
    | zero => exact h.elim
    | succ f =>
      unfold drawGo at h
      have hnil : (List.range ops.size).filter (fun i => !d.done.contains i) = [] := by
        rw [List.filter_eq_nil_iff]
        intro i hi
        simp [hI.sub i (hall i (List.mem_range.1 hi))]
      rw [hnil] at h
      exact hQ g d.s a w hg (hI.sr.weaken fun t ⟨i, o, _, h1, h2, _⟩ => by rw [hall i (lt_of_getElem? h2)] at h1; cases h1) h
  intro m
  induction m with
  | zero =>
    intro fuel g d listed a w cov hg h hI hlen hcov
    have hr : Region.ready .any ops listed = [] := by
      rw [List.eq_nil_iff_forall_not_mem]
      intro i hi
      obtain ⟨h1, o, h2, _⟩ := mem_ready.1 hi
      have hi := lt_of_getElem? h2
      have : listed.getD i false = false := by
        rw [Array.getD_eq_getD_getElem?] at h1 ⊢
        have : i < listed.size := by rw [hI.size]; exact hi
        simp only [Array.getElem?_eq_getElem this, Option.getD_some] at h1 ⊢
        exact h1
      have := hcov i hi this
      have hc : cov = [] := List.length_eq_zero_iff.1 (by omega)
      rw [hc] at this; cases this
    exact ⟨hr, fin fuel g d listed a w hg h hI hr⟩
  | succ m ih =>
    intro fuel g d listed a w cov hg h hI hlen hcov
    refine ⟨fin fuel g d listed a w hg h hI, fun j hj => ?_⟩
    obtain ⟨hjl, o, hjo, hja⟩ := mem_ready.1 hj
    have hjs := lt_of_getElem? hjo
    have hjsz : j < listed.size := by rw [hI.size]; exact hjs
    have hjl' : listed.getD j false = false := by
      rw [Array.getD_eq_getD_getElem?] at hjl ⊢
      simp only [Array.getElem?_eq_getElem hjsz, Option.getD_some] at hjl ⊢
      exact hjl
    have hja' : ∀ ed ∈ o.after.toList, Region.binds .any ed = true → listed.getD ed.on false = true := fun ed he hb => hja ed (by simpa using he) hb
    have hcov' : ∀ i, i < ops.size → (listed.setIfInBounds j true).getD i false = false → i ∈ cov.filter (· ≠ j) := by
      intro i hi hl
      rw [getD_set hjsz] at hl
      split at hl
      · cases hl
      · rename_i hij
        simp [hcov i hi hl, hij]
    have hlen' : (cov.filter (· ≠ j)).length ≤ m := by
      have hm := hcov j hjs hjl'
      have : (cov.filter (· ≠ j)).length < cov.length := by
        have h1 := List.length_filter_lt_length_iff_exists (p := (· ≠ j)) (l := cov)
        exact h1.2 ⟨j, hm, by simp⟩
      omega
    unfold wpOpIn
    rw [hjo]
    simp only
    -- the executor goes on till the operation is its own next, or is behind it
    clear hlen hcov
    induction fuel generalizing d with
    | zero => exact h.elim
    | succ f ihf =>
      by_cases hjd : j ∈ d.done
      · -- it lagged
        obtain ⟨h1, h2⟩ := hI.lag j o hjd hjl' hjo
        obtain ⟨h3, h4⟩ := h2 a (hI.reads' hD hjo hja')
        split
        · rename_i hw
          obtain ⟨x, h5, h6⟩ := h3 hw (FW r).round
          refine ⟨fun _ _ => trivial, ?_⟩
          rw [h5]
          exact ih (f + 1) g d _ _ w _ hg h (hI.catch_up hD hjo hjd hja' h1 h6) hlen' hcov'
        · rename_i hw
          have hw : Region.wanted o (yielded ops a.tmps) = false := by simpa using hw
          exact ⟨fun _ _ => trivial, ih (f + 1) g d _ _ w _ hg h (hI.catch_up hD hjo hjd hja' h1 (h4 hw)) hlen' hcov'⟩
      · have hjrem : j ∈ (List.range ops.size).filter (fun i => !d.done.contains i) := by
          simp [hjs, hjd]
        unfold drawGo at h
        split at h
        · rename_i hnil; rw [hnil] at hjrem; cases hjrem
        rename_i l hl0
        split at h
        · -- a quiet operation ahead
          rename_i i oi x hfq
          obtain ⟨h1, h2, h3, h4⟩ := firstQ_spec hfq
          have hid : i ∉ d.done := by
            have := (List.mem_filter.1 h1).2
            simpa [List.contains_iff_mem] using this
          cases x with
          | skip =>
            simp only at h
            split at h
            · rename_i s' hset
              obtain ⟨_, e2, _, _, _, e6, e7⟩ := setT_spec hset
              exact ihf _ h (hI.ahead hD h2 hid h3 hset h4 fun t ht => ⟨by rw [e2]; exact e6 t ht, by rw [e7 t, if_pos ht]⟩)
            · exact h.elim
          | val v ps =>
            simp only at h
            split at h
            · rename_i s' hset
              obtain ⟨_, e2, _, _, _, e6, e7⟩ := setT_spec hset
              obtain ⟨hp, hk⟩ := mkAsserts_vc h
              exact ihf _ hk (hI.ahead hD h2 hid h3 hset h4 ⟨hp, fun t ht => ⟨by rw [e2]; exact e6 t ht, v, by rw [e7 t, if_pos ht], fun _ hx => hx⟩⟩)
            · exact h.elim
          | dec c =>
            simp only at h
            obtain ⟨hp, hk⟩ := mkAsserts_vc h
            obtain ⟨nn, hnn⟩ := hp (.sort false c) (by simp)
            obtain ⟨hk1, hk2⟩ := hk
            have hdec : ∀ b : Bool, b = decide (nn ≠ 0) → DInv A I cx.P ops g { d with dec := (c, b) :: d.dec } listed a w := fun b hb =>
              ⟨hI.sr, hI.size, hI.sub, hI.qs, hI.lag, fun c' b' hc' => by
                simp only [getE] at hc'
                split at hc'
                · rename_i ec
                  simp at hc'; subst hc'; subst ec
                  exact ⟨nn, hnn, hb⟩
                · exact hI.dec c' b' hc', hI.dcl, hI.lcl⟩
            by_cases hz : nn = 0
            · subst hz
              exact ihf _ (hk2 hnn) (hdec false (by simp))
            · exact ihf _ (hk1 nn hnn hz) (hdec true (by simp [hz]))
        · -- an operation that does more
          have hjr : readyA o d.done = true := readyA_spec.2 fun ed he hb => hI.sub _ (hja' ed he hb)
          split at h
          · exact h.elim
          rename_i rl hrl
          have hb := bothL_vc h j (readyL_spec hjrem hjo hjr)
          rw [hjo] at hb
          simp only at hb
          split at hb
          rotate_left
          · exact hb.elim
          rename_i hwant
          have hrd := hI.reads' hD hjo hja'
          have hwt : Region.wanted o (yielded ops a.tmps) = true := by
            unfold isWant at hwant
            split at hwant
            · rename_i hw; exact (wantedD_sound hI.dec hrd).1 hw
            · cases hwant
          rw [if_pos hwt]
          refine Oper.wpIn_mono (fun a' w' hn => ?_) (operE_wp hE hI.sr (fun t ht => hI.reads hD hjo hja' t (List.mem_append_right _ (mem_readsT ht))) hb)
          obtain ⟨g', s', hle, hs', hk⟩ := hn
          dsimp only at hk
          split at hk
          rotate_left
          · exact hk.elim
          rename_i ps hrc
          obtain ⟨hp, hk⟩ := mkAsserts_vc hk
          have hdec' := hI.dec.le hle
          have hsp := recheck_spec hrc hp hs'.nv hs'.nb hs'.m.wf
          refine ih f g' { d with s := s', done := j :: d.done } _ a' w' _ (hg.trans hle) hk ⟨hs'.weaken ?_, by simpa using hI.size, ?_, ?_, ?_, hdec', ?_, hI.listed_cl hjo hja'⟩ hlen' hcov'
          · rintro t ⟨i, oi, h1, h2, h3, h4⟩
            have hij : i ≠ j := fun e => hjd (e ▸ h1)
            exact ⟨i, oi, List.mem_cons_of_mem _ h1, by rw [getD_set hjsz, if_neg hij]; exact h2, h3, h4⟩
          · intro i hi
            rw [getD_set hjsz] at hi
            split at hi
            · rename_i e; subst e; simp
            · exact List.mem_cons_of_mem _ (hI.sub i hi)
          · intro i hi hl
            rw [getD_set hjsz] at hl
            split at hl
            · cases hl
            · rename_i hij
              rcases List.mem_cons.1 hi with e | hi
              · exact absurd e hij
              · exact hI.qs i hi hl
          · intro i oi hi hl hoi
            rw [getD_set hjsz] at hl
            split at hl
            · cases hl
            rename_i hij
            rcases List.mem_cons.1 hi with e | hi
            · exact absurd e hij
            have hnb : (before ops j).testBit i = false := by
              cases hb : (before ops j).testBit i with
              | false => rfl
              | true =>
                exfalso
                obtain ⟨o', ho', ed, h5, h6, h7⟩ := before_bit hb
                rw [hjo] at ho'; cases ho'
                have h8 := hja' ed h5 h6
                rcases h7 with rfl | h7
                · rw [h8] at hl; cases hl
                · have := hI.lcl _ h8 _ h7
                  simp only at this
                  rw [this] at hl; cases hl
            obtain ⟨out, h9, h10⟩ := hsp i (hI.qs i hi hl) hnb oi hoi
            exact LagOk.of_out (d := { d with s := s' }) hs'.m hdec' h9 (fun _ _ => rfl) h10
          · intro i hi q hq
            have := (hI.dcl.add hjo (readyA_spec.1 hjr)) i (List.mem_cons.1 hi) q hq
            exact List.mem_cons.2 this
end Go.Sx
