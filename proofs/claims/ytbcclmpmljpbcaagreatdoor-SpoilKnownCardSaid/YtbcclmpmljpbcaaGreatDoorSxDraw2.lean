/-
  A region that draws its order: the walk. Conditions: none.
-/
import Derived.Test.YtbcclmpmljpbcaaGreatDoorSxDraw
namespace Go.Sx
open Go

variable {A : Amb} {I : Itp} {P : Program} {g : G} {X : Nat → Prop} {ts : Tmps} {a : Act} {M : Mem} {w : World} {ops : Array Oper}

theorem operE_wp {cx : Cx} {e : Eng} (hE : EngSound I cx e) {s : St} {o : Oper} {k : St → Tree} {r : Option Nat} {n : Nat} {Q : Exit → Act → World → Prop} (hG : GOk cx.kn.globs A) (hs : SRel A I cx.P X g s a w)
    (hx : ∀ t, .tmp t ∈ o.op.operands.toList → ¬ X t) (h : (operE cx e s o k).vc I g.env) : o.wpIn (FW r) n cx.P a w (NPost A I cx.P X g k) Q := by
  unfold operE at h
  rw [loudF_eq] at h
  split at h
  · rename_i v s1 ps hq
    split at h
    · rename_i s' hset; exact loud_wp hs hx hq hset h
    · exact h.elim
  · split at h
    · rename_i f l hq; exact call_wp hE hG hs hx hq h
    · split at h
      · rename_i v ps hq
        split at h
        · rename_i s' hset; exact quiet_wp hG hs hx hq hset h
        · exact h.elim
      · exact h.elim

theorem mem_readsT : ∀ {l : List Operand} {t : Nat}, .tmp t ∈ l → t ∈ readsT l
  | x :: l, t, h => by
    rcases List.mem_cons.1 h with h | h
    · subst h; simp [readsT]
    · have := mem_readsT h
      cases x <;> simp [readsT, this]
  | [], _, h => by simp at h

theorem Oper.wpIn_frame {F : Fence} {o : Oper} {n : Nat} {K : Act → World → Prop} {Q : Exit → Act → World → Prop} (hh : o.wpIn F n P a w K Q) :
    o.wpIn F n P a w (fun a' w' => K a' w' ∧ ∃ x, a'.tmps = (a.put o.dst x).tmps) Q := by
  unfold Oper.wpIn at *
  refine ⟨hh.1, ?_⟩
  have hh := hh.2
  generalize (o.semAt F.round a.eval).run P w = r at *
  cases r with
  | ok x w' =>
    cases x <;> simp only [Oper.uponIn] at hh ⊢ <;>
      first
        | exact ⟨hh, _, rfl⟩
        | exact ⟨hh, undef, by cases o.dst <;> rfl⟩
        | exact ⟨hh.1, CallsIn.mono hh.2 (fun e w'' he => by cases e <;> first | exact ⟨he, _, rfl⟩ | exact he)⟩
        | exact ⟨hh.1, RowsIn.mono hh.2 (fun _ _ he => ⟨he, _, rfl⟩)⟩
        | exact ⟨hh.1, RoundIn.mono hh.2 (fun e w'' he => by cases e <;> first | exact ⟨he, _, rfl⟩ | exact he)⟩
  | halt x w' => cases x <;> simp only [Oper.uponIn] at hh ⊢ <;> exact hh

theorem frameT_spec {old new ts : Tmps} {dst : Option Tmp} (h : frameT old dst new = some ts) :
    ∀ t, (dst = some t → get ts t = get new t) ∧ (dst ≠ some t → get ts t = get old t) := by
  unfold frameT at h
  intro t
  cases dst with
  | none => simp at h; subst h; simp
  | some d =>
    simp only at h
    split at h
    · rename_i v hv
      simp at h; subst h
      refine ⟨fun e => by cases e; rw [get_putT, if_pos rfl, hv], fun e => by rw [get_putT, if_neg (fun e' => e (by rw [e']))]⟩
    · cases h

theorem forceNs {α : Type} {m : Ns} {i : Nat} {f : Nat → α} : forceN (m.add i) f = f (m.add i) := forceN_eq
theorem drawGo_wp {cx : Cx} {e : Eng} (hE : EngSound I cx e) (hG : GOk cx.kn.globs A) (hD : DrawOk ops) {k : St → Tree} {r : Option Nat} {n : Nat} {Q : Exit → Act → World → Prop} {g0 : G}
    (hQ : ∀ g s a w, g0.Le g → SRel A I cx.P (fun _ => False) g s a w → (k s).vc I g.env → Q .normal a w) :
    ∀ (m fuel : Nat) (g : G) (d : Dr) (listed : Array Bool) (a : Act) (w : World) (cov : List Nat), g0.Le g → (drawGo cx e ops fuel d k).vc I g.env → DInv A I cx.P ops g d listed a w → (∀ i b x, (i, b, x) ∈ d.fl → g0.nb ≤ b) →
      cov.length ≤ m → (∀ i, i < ops.size → listed.getD i false = false → i ∈ cov) → wpAnyIn (FW r) n cx.P .any ops Q m listed a w := by
  -- all have been listed
  have fin : ∀ (fuel : Nat) (g : G) (d : Dr) (listed : Array Bool) (a : Act) (w : World), g0.Le g → (drawGo cx e ops fuel d k).vc I g.env → DInv A I cx.P ops g d listed a w →
      Region.ready .any ops listed = [] → Q .normal a w := by
    intro fuel g d listed a w hg h hI hr
    have hall : ∀ i, i < ops.size → listed.getD i false = true := by
      intro i
      induction i using Nat.strongRecOn with
      | _ i ih =>
        intro hi
        cases hl : listed.getD i false with
        | true => rfl
        | false =>
          exfalso
          have : i ∈ Region.ready .any ops listed := by
            rw [mem_ready]
            refine ⟨?_, ops[i], by simp [hi], fun ed he hb => ih ed.on (hD.edge i ops[i] (by simp [hi]) ed (by simpa using he) hb) (Nat.lt_trans (hD.edge i ops[i] (by simp [hi]) ed (by simpa using he) hb) hi)⟩
            rw [Array.getD_eq_getD_getElem?] at hl ⊢
            have : i < listed.size := by rw [hI.size]; exact hi
            simp only [Array.getElem?_eq_getElem this, Option.getD_some] at hl ⊢
            exact hl
          rw [hr] at this
          cases this
    cases fuel with
    | zero => exact h.elim
    | succ f =>
      unfold drawGo at h
      have hnil : restL d.done (List.range ops.size) = [] := by
        rw [restL_eq, List.filter_eq_nil_iff]
        intro i hi
        simp [Ns.mem_iff.1 (hI.sub i (hall i (List.mem_range.1 hi)))]
      rw [hnil] at h
      have hsel : flAll d.fl = flSel (fun i => listed.getD i false) d.fl := flAll_sel fun i b x hm => hall i (hI.fdone i b x hm).2.1
      dsimp only at h
      rw [hsel] at h
      exact hQ g _ a w hg (hI.sr.weaken fun t ⟨i, o, _, h1, h2, _⟩ => by rw [hall i (lt_of_getElem? h2)] at h1; cases h1) h
  intro m
  induction m with
  | zero =>
    intro fuel g d listed a w cov hg h hI hfl0 hlen hcov
    have hr : Region.ready .any ops listed = [] := by
      rw [List.eq_nil_iff_forall_not_mem]
      intro i hi
      obtain ⟨h1, o, h2, _⟩ := mem_ready.1 hi
      have hi := lt_of_getElem? h2
      have : listed.getD i false = false := by
        rw [Array.getD_eq_getD_getElem?] at h1 ⊢
        have : i < listed.size := by rw [hI.size]; exact hi
        simp only [Array.getElem?_eq_getElem this, Option.getD_some] at h1 ⊢
        exact h1
      have := hcov i hi this
      have hc : cov = [] := List.length_eq_zero_iff.1 (by omega)
      rw [hc] at this; cases this
    exact ⟨hr, fin fuel g d listed a w hg h hI hr⟩
  | succ m ih =>
    intro fuel g d listed a w cov hg h hI hfl0 hlen hcov
    refine ⟨fin fuel g d listed a w hg h hI, fun j hj => ?_⟩
    obtain ⟨hjl, o, hjo, hja⟩ := mem_ready.1 hj
    have hjs := lt_of_getElem? hjo
    have hjsz : j < listed.size := by rw [hI.size]; exact hjs
    have hjl' : listed.getD j false = false := by
      rw [Array.getD_eq_getD_getElem?] at hjl ⊢
      simp only [Array.getElem?_eq_getElem hjsz, Option.getD_some] at hjl ⊢
      exact hjl
    have hja' : ∀ ed ∈ o.after.toList, Region.binds .any ed = true → listed.getD ed.on false = true := fun ed he hb => hja ed (by simpa using he) hb
    have hcov' : ∀ i, i < ops.size → (listed.setIfInBounds j true).getD i false = false → i ∈ cov.filter (· ≠ j) := by
      intro i hi hl
      rw [getD_set hjsz] at hl
      split at hl
      · cases hl
      · rename_i hij
        simp [hcov i hi hl, hij]
    have hlen' : (cov.filter (· ≠ j)).length ≤ m := by
      have hm := hcov j hjs hjl'
      have : (cov.filter (· ≠ j)).length < cov.length := by
        have h1 := List.length_filter_lt_length_iff_exists (p := (· ≠ j)) (l := cov)
        exact h1.2 ⟨j, hm, by simp⟩
      omega
    unfold wpOpIn
    rw [hjo]
    simp only
    -- the executor goes on till the operation is its own next, or is behind it
    clear hlen hcov
    induction fuel generalizing d g with
    | zero => exact h.elim
    | succ f ihf =>
      by_cases hjd : j ∈ d.done
      · by_cases hjfl : ∃ b x, (j, b, x) ∈ d.fl
        · -- it floated
          obtain ⟨b, x, hm⟩ := hjfl
          obtain ⟨hφ, v, hok, hdv⟩ := hI.fwait j b x o hm hjl' hjo
          obtain ⟨h1, h2⟩ := hok g ⟨⟨[], by simp⟩, fun h => h⟩ a (hI.reads' hjo hja')
          obtain ⟨obj, val, p, hpb, h3, hvr, h4⟩ := h2 (FW r).round w hφ
          rw [if_pos h1]
          refine ⟨fun _ _ => trivial, ?_⟩
          rw [h3]
          refine ih (f + 1) (g.place b p) d _ _ _ _ ⟨hg.env, hg.nb, fun c hc => ?_⟩ h (hI.catch_float hjo hjd hjl' hja' hm hpb (fun t u ht hu => by rw [(hdv t ht).2] at hu; cases hu; exact hvr) (fun t ht => (hdv t ht).1) h4) hfl0 hlen' hcov'
          have := hfl0 j b x hm
          simp only [G.place]
          rw [if_neg (by omega)]
          exact hg.φ c hc
        · -- it lagged
          have hjfl' : ∀ b x, (j, b, x) ∉ d.fl := fun b x hm => hjfl ⟨b, x, hm⟩
          obtain ⟨h1, h2⟩ := hI.lag j o hjd hjl' hjfl' hjo
          obtain ⟨h3, h4⟩ := h2 g w (.refl g) hI.mem_sub a (hI.reads' hjo hja')
          split
          · rename_i hw
            obtain ⟨x, h5, h6⟩ := h3 hw (FW r).round
            refine ⟨fun _ _ => trivial, ?_⟩
            rw [h5]
            exact ih (f + 1) g d _ _ w _ hg h (hI.catch_up hD hjo hjd hjfl' hja' h1 h6) hfl0 hlen' hcov'
          · rename_i hw
            have hw : Region.wanted o (yielded ops a.tmps) = false := by simpa using hw
            exact ⟨fun _ _ => trivial, ih (f + 1) g d _ _ w _ hg h (hI.catch_up hD hjo hjd hjfl' hja' h1 (h4 hw)) hfl0 hlen' hcov'⟩
      · have hjrem : j ∈ restL d.done (List.range ops.size) := mem_restL.2 ⟨List.mem_range.2 hjs, hjd⟩
        unfold drawGo at h
        split at h
        · rename_i hnil; rw [hnil] at hjrem; cases hjrem
        rename_i l hl0
        split at h
        · -- a quiet operation ahead
          rename_i i oi x hfq
          obtain ⟨h1, h2, h3, hbar, h4⟩ := firstQ_spec hfq
          have hid : i ∉ d.done := (mem_restL.1 h1).2
          cases x with
          | skip =>
            simp only at h
            split at h
            · rename_i s' hset
              obtain ⟨_, e2, _, _, _, e6, e7⟩ := setT_spec hset
              rw [forceNs] at h
              exact ihf _ _ hg h (hI.ahead hG hD h2 hid h3 hbar hset h4 fun t ht => ⟨by rw [e2]; exact e6 t ht, by rw [e7 t, if_pos ht]⟩) hfl0
            · exact h.elim
          | val v ps =>
            simp only at h
            split at h
            · rename_i s' hset
              obtain ⟨_, e2, _, _, _, e6, e7⟩ := setT_spec hset
              obtain ⟨hp, hk⟩ := mkAsserts_vc h
              rw [forceNs] at hk
              exact ihf _ _ hg hk (hI.ahead hG hD h2 hid h3 hbar hset h4 ⟨hp, fun t ht => ⟨by rw [e2]; exact e6 t ht, v, by rw [e7 t, if_pos ht], fun _ _ _ hx => hx⟩⟩) hfl0
            · exact h.elim
          | dec c =>
            simp only at h
            obtain ⟨hp, hk⟩ := mkAsserts_vc h
            obtain ⟨nn, hnn⟩ := hp (.sort false c) (by simp)
            obtain ⟨hk1, hk2⟩ := hk
            have hdec : ∀ b : Bool, b = decide (nn ≠ 0) → DInv A I cx.P ops g { d with dec := (c, b) :: d.dec } listed a w := fun b hb =>
              ⟨hI.sr, hI.size, hI.sub, hI.qs, hI.lag, hI.fdone, hI.fkey, hI.fidx, hI.fwait, hI.bar, fun c' b' hc' => by
                simp only [getE] at hc'
                split at hc'
                · rename_i ec
                  simp at hc'; subst hc'; subst ec
                  exact ⟨nn, hnn, hb⟩
                · exact hI.dec c' b' hc', hI.dcl, hI.lcl⟩
            by_cases hz : nn = 0
            · subst hz
              exact ihf _ _ hg (hk2 hnn) (hdec false (by simp)) hfl0
            · exact ihf _ _ hg (hk1 nn hnn hz) (hdec true (by simp [hz])) hfl0
        · -- an operation that does more
          have hjr : readyA o d.done = true := readyA_spec.2 fun ed he hb => hI.sub _ (hja' ed he hb)
          split at h
          · exact h.elim
          split at h
          · -- a block ahead
            rename_i i oi v x hff
            obtain ⟨h1, h2, h3, hbar, h4⟩ := firstF_spec hff
            obtain ⟨h5, o2, ho2, hrd2⟩ := readyL_inv h1
            rw [h2] at ho2; cases ho2
            have hid : i ∉ d.done := (mem_restL.1 h5).2
            split at h
            · rename_i s' hset
              rw [forceNs] at h
              refine ihf (g.lay none) _ (hg.trans (g.lay_le none)) h (hI.float hD h2 hid hrd2 hbar hset (floatOf_ok hI.dec h3 h4)) fun k b y hm => ?_
              rcases List.mem_cons.1 hm with e | hm
              · cases e
                have h6 := hI.sr.nb
                simp only at h6
                rw [← h6]; exact hg.nb
              · exact hfl0 k b y hm
            · exact h.elim
          rename_i hffn
          have hb := bothL_vc h j (by
            first
              | exact readyL_spec hjrem hjo hjr
              | exact (readyL_spec (hl0 ▸ hjrem) hjo hjr))
          rw [hjo] at hb
          simp only at hb
          split at hb
          rotate_left
          · exact hb.elim
          rename_i hwant
          have hrd := hI.reads' hjo hja'
          have hwt : Region.wanted o (yielded ops a.tmps) = true := by
            unfold isWant at hwant
            split at hwant
            · rename_i hw; exact (wantedD_sound hI.dec hrd).1 hw
            · cases hwant
          rw [if_pos hwt]
          have hbl : ∀ {i : Nat}, (before ops j).testBit i = true → listed.getD i false = true := fun {i} hb => by
            obtain ⟨o', ho', ed, h5, h6, h7⟩ := before_bit hb
            rw [hjo] at ho'; cases ho'
            have h8 := hja' ed h5 h6
            rcases h7 with rfl | h7
            · exact h8
            · exact hI.lcl _ h8 _ h7
          have hnbs : g.nb = d.s.nb := hI.sr.nb
          have hjf : ∀ {i : Nat} {b : Nat} {x : Blk}, (i, b, x) ∈ d.fl → i ≠ j := fun {i b x} hm e => hjd (e ▸ (hI.fdone i b x hm).1)
          have hHM : ∀ b y, get (flSel (fun i => listed.getD i false) (flAfter (before ops j) d.fl)) b = some y → get (flBefore (before ops j) d.fl ++ d.s.mem) b = none := fun b y hb => by
            obtain ⟨i, h1, h2⟩ := (flSel_get (nodup_flAfter hI.fkey)).1 hb
            obtain ⟨h3, h4⟩ := mem_flAfter.1 h1
            rw [get_app, flBefore_sel]
            split
            · rename_i z hz
              obtain ⟨i', h5, h6⟩ := (flSel_get hI.fkey).1 hz
              have := nodup_inj hI.fkey h3 h5 rfl
              cases this
              simp only at h4; rw [h4] at h6; cases h6
            · exact (hI.fdone i b y h3).2.2.2
          have hMH : MRel A I cx.P g ((flBefore (before ops j) d.fl ++ d.s.mem) ++ flSel (fun i => listed.getD i false) (flAfter (before ops j) d.fl)) w := hI.sr.m.sub fun c y hc => by
            rw [get_app, get_app] at hc
            simp only
            rw [get_app]
            split at hc
            · rename_i z hz
              cases hc
              split at hz
              · rename_i u hu
                cases hz
                rw [flBefore_sel] at hu
                obtain ⟨i, h1, h2⟩ := (flSel_get hI.fkey).1 hu
                rw [(flSel_get hI.fkey).2 ⟨i, h1, hbl h2⟩]
              · split
                · rename_i u hu
                  obtain ⟨i, h1, h2⟩ := (flSel_get hI.fkey).1 hu
                  rw [(hI.fdone i c u h1).2.2.2] at hz; cases hz
                · exact hz
            · obtain ⟨i, h1, h2⟩ := (flSel_get (nodup_flAfter hI.fkey)).1 hc
              rw [(flSel_get hI.fkey).2 ⟨i, (mem_flAfter.1 h1).1, h2⟩]
          have hsM : SRel (ambOf (flBefore (before ops j) d.fl ++ d.s.mem) g w) I cx.P (Lagging ops d.done listed) g { d.s with mem := flBefore (before ops j) d.fl ++ d.s.mem } a w :=
            ⟨hMH.part, hI.sr.t, hI.sr.nt, hI.sr.d, hI.sr.nv, hI.sr.nb⟩
          refine Oper.wpIn_mono (fun a' w' hn => ?_) (Oper.wpIn_frame (operE_wp hE (hG.part hMH) hsM (fun t ht => hI.reads hjo hja' t (List.mem_append_right _ (mem_readsT ht))) hb))
          obtain ⟨⟨g', s1, hle, hs1, hk⟩, xv, hxv⟩ := hn
          dsimp only at hk
          split at hk
          · exact hk.elim
          rename_i hkeys
          have hkeys : keysOk g.nb (flBefore (before ops j) d.fl ++ d.s.mem) s1.mem = true := by rw [hnbs]; simpa using hkeys
          split at hk
          · exact hk.elim
          rename_i tsn hfr
          have hfs := frameT_spec hfr
          split at hk
          rotate_left
          · exact hk.elim
          rename_i ps hrc
          obtain ⟨hp, hk⟩ := mkAsserts_vc hk
          rw [forceNs] at hk
          have hwf := hI.sr.m.wf
          have hdec' := hI.dec.le hle
          have hmf := hMH.frame hHM hle hs1.m hkeys
          have hfree : ∀ {b : Nat}, b < g.nb → get (flBefore (before ops j) d.fl ++ d.s.mem) b = none → get s1.mem b = none := fun {b} hb hn => by
            cases hg : get s1.mem b with
            | none => rfl
            | some z =>
              have := List.all_eq_true.1 (keysOk_all hkeys) _ (get_key hg).2
              simp only at this
              rw [if_pos hb, hn] at this
              cases this
          have hflf : ∀ {i b : Nat} {x : Blk}, (i, b, x) ∈ flAfter (before ops j) d.fl → get s1.mem b = none := fun {i b x} hm => by
            obtain ⟨h3, h4⟩ := mem_flAfter.1 hm
            obtain ⟨_, _, h5, h6⟩ := hI.fdone i b x h3
            refine hfree (by omega) ?_
            rw [get_app, flBefore_sel]
            split
            · rename_i z hz
              obtain ⟨i', h7, h8⟩ := (flSel_get hI.fkey).1 hz
              have := nodup_inj hI.fkey h3 h7 rfl
              cases this
              simp only at h4; rw [h4] at h8; cases h8
            · exact h6
          have hsel : flSel (fun i => (listed.setIfInBounds j true).getD i false) (flAfter (before ops j) d.fl) = flSel (fun i => listed.getD i false) (flAfter (before ops j) d.fl) :=
            flSel_congr fun i b x hm => by rw [getD_set hjsz, if_neg (hjf (mem_flAfter.1 hm).1)]
          have hsz : a'.tmps.size = a.tmps.size := by rw [hxv]; cases o.dst <;> simp [Act.put]
          have hsr' : SRel A I cx.P (Lagging ops (d.done.add j) (listed.setIfInBounds j true)) g' { s1 with tmps := tsn, mem := flSel (fun i => (listed.setIfInBounds j true).getD i false) (flAfter (before ops j) d.fl) ++ s1.mem } a' w' := by
            refine ⟨hmf.sub fun c y hc => ?_, fun t v hv ht => ?_, hs1.nt, hs1.d, hs1.nv, hs1.nb⟩
            · simp only at hc
              rw [hsel, get_app] at hc
              rw [get_app]
              split at hc
              · rename_i z hz
                cases hc
                obtain ⟨i, h1, h2⟩ := (flSel_get (nodup_flAfter hI.fkey)).1 hz
                rw [hflf h1]
                exact hz
              · rw [hc]
            · have hv : get tsn t = some v := hv
              by_cases hd : o.dst = some t
              · rw [(hfs t).1 hd] at hv
                refine hs1.t t v hv ?_
                rintro ⟨i, oi, h1, h2, h3, h4⟩
                have := hD.inj hjo h3 hd h4
                subst this; exact hjd h1
              · rw [(hfs t).2 hd] at hv
                obtain ⟨y, h1, h2⟩ := hI.sr.t t v hv (by
                  rintro ⟨i, oi, h1, h2, h3, h4⟩
                  have hij : i ≠ j := fun e => hjd (e ▸ h1)
                  exact ht ⟨i, oi, Ns.mem_add.2 (.inr h1), by rw [getD_set hjsz, if_neg hij]; exact h2, h3, h4⟩)
                refine ⟨y, ?_, h2.le hle hwf⟩
                rw [hxv]
                cases hdd : o.dst with
                | none => simpa [Act.put] using h1
                | some t' =>
                  have : t' ≠ t := fun e => hd (by rw [hdd, e])
                  simp [Act.put, Array.getElem?_setIfInBounds_ne this, h1]
          have hsp := recheck_spec hrc hp hs1.nv hs1.nb hs1.m.wf
          refine ih f g' { d with s := { s1 with tmps := tsn }, done := d.done.add j, fl := flAfter (before ops j) d.fl } _ a' w' _ (hg.trans hle) hk ⟨hsr', by simpa using hI.size, ?_, ?_, ?_, ?_, nodup_flAfter hI.fkey, nodup_flAfter hI.fidx, ?_, ?_, hdec', ?_, hI.listed_cl hjo hja'⟩ (fun i b x hm => hfl0 i b x (mem_flAfter.1 hm).1) hlen' hcov'
          · intro i hi
            rw [getD_set hjsz] at hi
            split at hi
            · rename_i e; subst e; exact Ns.mem_add.2 (.inl rfl)
            · exact Ns.mem_add.2 (.inr (hI.sub i hi))
          · intro i hi hl hf
            rw [getD_set hjsz] at hl
            split at hl
            · cases hl
            · rename_i hij
              rcases Ns.mem_add.1 hi with e | hi
              · exact absurd e hij
              · refine hI.qs i hi hl fun b x hm => ?_
                cases hb : (before ops j).testBit i with
                | true => have := hbl hb; rw [this] at hl; cases hl
                | false => exact hf b x (mem_flAfter.2 ⟨hm, hb⟩)
          · intro i oi hi hl hf hoi
            rw [getD_set hjsz] at hl
            split at hl
            · cases hl
            rename_i hij
            rcases Ns.mem_add.1 hi with e | hi
            · exact absurd e hij
            have hnb : (before ops j).testBit i = false := by
              cases hb : (before ops j).testBit i with
              | false => rfl
              | true => have := hbl hb; rw [this] at hl; cases hl
            have hnf : ∀ b x, (i, b, x) ∉ d.fl := fun b x hm => hf b x (mem_flAfter.2 ⟨hm, hnb⟩)
            obtain ⟨out, h9, h10⟩ := hsp i (hI.qs i hi hl hnf) hnb oi hoi
            exact LagOk.of_out hG (d := { d with s := { s1 with tmps := tsn } }) rfl hdec' h9 (fun _ _ => rfl) h10
          · intro i b x hm
            obtain ⟨h3, h4⟩ := mem_flAfter.1 hm
            obtain ⟨h5, h6, h7, _⟩ := hI.fdone i b x h3
            refine ⟨Ns.mem_add.2 (.inr h5), h6, ?_, hflf hm⟩
            have := hle.nb
            have h8 : g'.nb = s1.nb := hs1.nb
            show b < s1.nb
            omega
          · intro i b x oi hm hl hoi
            obtain ⟨h3, h4⟩ := mem_flAfter.1 hm
            have hij := hjf h3
            rw [getD_set hjsz, if_neg hij] at hl
            obtain ⟨h5, vv, h6, h7⟩ := hI.fwait i b x oi h3 hl hoi
            obtain ⟨hid, _, hb, _⟩ := hI.fdone i b x h3
            have hst : ∀ t ∈ readsOf ops oi, get tsn t = get d.s.tmps t := fun t ht => (hfs t).2 fun e => by
              rcases hD.read i oi j o t hoi hjo e ht with h8 | h8 | h8
              · exact hjd (hI.dcl i hid j h8)
              · exact hij h8
              · have := hbl h8; rw [this] at hl; cases hl
            have hdst : ∀ t, oi.dst = some t → get tsn t = get d.s.tmps t := fun t ht => (hfs t).2 fun e => hij (hD.inj hoi hjo ht e)
            refine ⟨by rw [hle.φ b (by omega)]; exact h5, vv, (h6.ext (hle.ext hwf)).tmps hst, fun t ht => ⟨?_, by show get tsn t = _; rw [hdst t ht]; exact (h7 t ht).2⟩⟩
            have h8 : a'.tmps.size = s1.nt := hs1.nt
            have h9 : a.tmps.size = d.s.nt := hI.sr.nt
            show t < s1.nt
            rw [← h8, hsz, h9]; exact (h7 t ht).1
          · intro i hi hl
            rw [getD_set hjsz] at hl
            split at hl
            · cases hl
            rename_i hij
            rcases Ns.mem_add.1 hi with e | hi
            · exact absurd e hij
            · exact hI.bar i hi hl
          · intro i hi q hq
            have := (hI.dcl.add hjo (readyA_spec.1 hjr)) i (Ns.mem_add.1 hi) q hq
            exact Ns.mem_add.2 this
end Go.Sx
