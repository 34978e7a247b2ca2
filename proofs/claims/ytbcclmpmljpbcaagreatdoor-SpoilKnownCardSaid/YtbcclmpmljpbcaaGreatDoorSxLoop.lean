/-
  Loops: with a state at the head that is said, and round by round. Conditions: none.
-/
import Derived.Test.YtbcclmpmljpbcaaGreatDoorSxFix
noncomputable section
namespace Go.Sx
open Go

variable {A : Amb} {I : Itp} {P : Program} {g : G} {X : Nat → Prop} {ts : Tmps} {a : Act} {M : Mem} {w : World}

theorem dens_subst {env ds : List D} {n : Nat} {σ : List E} (hσ : dens I env σ = some ds) (hn : n ≤ env.length) : ∀ {l : List E} {xs : List D}, dens I env (l.map (E.subst n σ)) = some xs → dens I (env.take n ++ ds) l = some xs
  | [], xs, h => h
  | e :: l, xs, h => by
    simp only [List.map_cons, dens] at h ⊢
    split at h
    · rename_i d ds' h1 h2
      rw [subst_den hσ hn h1, dens_subst hσ hn h2]; exact h
    · cases h

theorem PE.subst_den {env ds : List D} {n : Nat} {σ : List E} (hσ : dens I env σ = some ds) (hn : n ≤ env.length) : ∀ {p : PE}, (p.subst n σ).den I env → p.den I (env.take n ++ ds)
  | .tt _, ⟨m, h1, h2⟩ => ⟨m, Sx.subst_den hσ hn h1, h2⟩
  | .ff _, h => Sx.subst_den hσ hn h
  | .rng _ _, ⟨m, h1, h2⟩ => ⟨m, Sx.subst_den hσ hn h1, h2⟩
  | .same _ _, ⟨d, h1, h2⟩ => ⟨d, Sx.subst_den hσ hn h1, Sx.subst_den hσ hn h2⟩
  | .pr _ _, ⟨xs, h1, h2⟩ => ⟨xs, dens_subst hσ hn h1, h2⟩
  | .sort true _, ⟨f, h⟩ => ⟨f, Sx.subst_den hσ hn h⟩
  | .sort false _, ⟨m, h⟩ => ⟨m, Sx.subst_den hσ hn h⟩
  | .col _ _ _ _, ⟨f, h1, h2⟩ => ⟨f, Sx.subst_den hσ hn h1, h2⟩
  | .agr _ _ _ _, ⟨f, g, k, h1, h2, h3, h4⟩ => ⟨f, g, k, Sx.subst_den hσ hn h1, Sx.subst_den hσ hn h2, Sx.subst_den hσ hn h3, h4⟩
  | .byt _ _, ⟨f, k, h1, h2, h3⟩ => ⟨f, k, Sx.subst_den hσ hn h1, Sx.subst_den hσ hn h2, h3⟩

theorem sortPs_sorts {env : List D} : ∀ {l : List Bool} {σ : List E}, σ.length = l.length → (∀ p ∈ sortPs l σ, p.den I env) → ∃ ds, dens I env σ = some ds ∧ Sorts l ds
  | [], [], _, _ => ⟨[], rfl, trivial⟩
  | true :: l, e :: σ, hl, h => by
    obtain ⟨f, hf⟩ := h (.sort true e) (by simp [sortPs])
    obtain ⟨ds, h1, h2⟩ := sortPs_sorts (l := l) (σ := σ) (by simpa using hl) (fun p hp => h p (by simp [sortPs, hp]))
    exact ⟨.t f :: ds, by simp [dens, hf, h1], h2⟩
  | false :: l, e :: σ, hl, h => by
    obtain ⟨n, hn⟩ := h (.sort false e) (by simp [sortPs])
    obtain ⟨ds, h1, h2⟩ := sortPs_sorts (l := l) (σ := σ) (by simpa using hl) (fun p hp => h p (by simp [sortPs, hp]))
    exact ⟨.i n :: ds, by simp [dens, hn, h1], h2⟩
  | [], _ :: _, hl, _ => by simp at hl
  | true :: _, [], hl, _ => by simp at hl
  | false :: _, [], hl, _ => by simp at hl

/-! ### A loop, its first step taken -/

theorem LoopWp.wp {F : Fence} {n : Nat} {c : Code} {Q : Exit → Act → World → Prop} (h : LoopWp F n P c Q a w) : (Code.loop c).wpIn F n P Q a w := by
  intro b k cs hro hb hr
  obtain ⟨e, a', w', hq, harr⟩ := h b k cs hro hb hr
  exact ⟨e, a', w', hq, .of_steps (.one (fenced_calm hb hr rfl) stepR_loop) harr⟩

theorem LoopWp.round {F : Fence} {n : Nat} {c : Code} {Q : Exit → Act → World → Prop} (h : c.wpIn F n P (Exit.then (LoopWp F n P c Q) Q) a w) : LoopWp F n P c Q a w := by
  intro b k cs hro hb hr
  obtain ⟨e, a₁, w₁, hq, harr⟩ := h b (.inLoop c :: k) cs hro hb hr
  cases e with
  | normal =>
    obtain ⟨e₂, a₂, w₂, hq₂, harr₂⟩ := hq b k cs hro hb hr
    exact ⟨e₂, a₂, w₂, hq₂, .of_steps (StepsIn.trans harr (.one (fenced_calm hb hr rfl) stepR_inLoop)) harr₂⟩
  | exit id => exact ⟨_, a₁, w₁, hq, .pass (x := .inLoop c) rfl (fun _ _ => .inl (by simp)) harr⟩
  | goto l => exact ⟨_, a₁, w₁, hq, .pass (x := .inLoop c) rfl (fun _ _ => .inl (by simp)) harr⟩
  | ret => exact ⟨_, a₁, w₁, hq, .pass (x := .inLoop c) rfl (fun _ _ => .inl (by simp)) harr⟩
  | panic ch => exact ⟨_, a₁, w₁, hq, .pass (x := .inLoop c) rfl (fun _ _ => .inl (by simp)) harr⟩
  | outgrown => exact ⟨_, a₁, w₁, hq, .pass (x := .inLoop c) rfl (fun _ _ => .inl (by simp)) harr⟩

theorem LoopWp.ghost {F : Fence} {n : Nat} {c : Code} {Q : Exit → Act → World → Prop} (J : Nat → Act → World → Prop)
    (round : ∀ m a w, J m a w → c.wpIn F n P (Exit.then (fun a' w' => ∃ m', m' < m ∧ J m' a' w') Q) a w) : ∀ m a w, J m a w → LoopWp F n P c Q a w := by
  intro m
  induction m using Nat.strongRecOn with
  | _ m ih =>
    intro a w hJ
    refine LoopWp.round (wpIn_mono (round m a w hJ) fun e a' w' h => ?_)
    cases e with
    | normal => obtain ⟨m', h1, h2⟩ := h; exact ih m' h1 a' w' h2
    | _ => exact h

/-! ### The head -/

/-- What holds at a loop's head. -/
structure HeadAt (A : Amb) (I : Itp) (P : Program) (g : G) (an : Ann) (h : St) (m : Nat) (a : Act) (w : World) : Prop where
  ex : ∃ (ds : List D) (gh : G), Sorts an.sorts ds ∧ gh.env = g.env ++ ds ∧ g.Le gh ∧ SRel A I P (fun _ => False) gh h a w ∧ (∀ p ∈ an.inv, p.den I gh.env) ∧
    (∀ z : Int, an.meas.den I gh.env = some (.i z) → z.toNat = m)

theorem headAt_of {an : Ann} {s s1 : St} {g1 : G} (hg : g.Le g1) (hnv : g.env.length = s.nv) (hnb : g.nb = s.nb) {u : Fix} {a1 : Act} {w1 : World}
    (hu1 : u.nv = s.nv) (hu2 : u.nb = s.nb) (hu3 : u.kb = s.nb + an.nbl) (hs1 : SRel A I P (fun _ => False) g1 s1 a1 w1) (hle : u.leS (an.head s) s1 = true) (hlen : u.σ.length = an.sorts.length)
    (hps : ∀ p ∈ sortPs an.sorts u.σ ++ an.inv.map (PE.subst s.nv u.σ), p.den I g1.env) :
    ∃ m, HeadAt A I P g an (an.head s) m a1 w1 ∧ (∀ z : Int, (an.meas.subst s.nv u.σ).den I g1.env = some (.i z) → m = z.toNat) := by
  obtain ⟨ds, hds, hso⟩ := sortPs_sorts hlen (fun p hp => hps p (by simp [hp]))
  obtain ⟨⟨xs, hxs⟩, hgnb, hgφ⟩ := hg
  have hfit : u.Fits I g1 ds := ⟨hds, by rw [hu1, hxs]; simp; omega, by omega⟩
  have htake : g1.env.take u.nv = g.env := by rw [hu1, hxs, ← hnv, List.take_left']; rfl
  have hsr := Fix.srel hfit hs1 hle (by simp [Ann.head, hu1, hso.length]) (by simp [Ann.head, hu3])
  have henv : (u.view g1 ds).env = g.env ++ ds := by simp [Fix.view, htake]
  have hle' : g.Le (u.view g1 ds) := ⟨⟨ds, henv⟩, by simp only [Fix.view]; omega, fun b hb => by
    have : u.img b = some b := by unfold Fix.img; rw [if_pos (by omega)]
    rw [Fix.view_φ this, hgφ b hb]⟩
  have hinv : ∀ p ∈ an.inv, p.den I (u.view g1 ds).env := fun p hp => by
    have := PE.subst_den (n := s.nv) hds (by rw [hxs]; simp; omega) (hps (p.subst s.nv u.σ) (by simp; exact .inr ⟨p, hp, rfl⟩))
    rw [← hu1] at this
    simpa [Fix.view] using this
  refine ⟨match an.meas.den I (u.view g1 ds).env with | some (.i z) => z.toNat | _ => 0, ⟨ds, u.view g1 ds, hso, henv, hle', hsr, hinv, fun z hz => by rw [hz]⟩, fun z hz => ?_⟩
  have := Sx.subst_den (n := s.nv) hds (by rw [hxs]; simp; omega) hz
  rw [← hu1] at this
  have h2 : an.meas.den I (u.view g1 ds).env = some (.i z) := by simpa [Fix.view] using this
  rw [h2]

theorem matchSt_nv {nv nb m k : Nat} {h s : St} : (matchSt nv nb m k h s).nv = nv ∧ (matchSt nv nb m k h s).nb = nb ∧ (matchSt nv nb m k h s).kb = nb + k := ⟨rfl, rfl, rfl⟩

theorem loopHead_wp {cx : Cx} {e : Eng} (hE : EngSound I cx e) (hG : GOk cx.kn.globs A) {an : Ann} {fn : FuncId} {rnd r : Option Nat} {bid o : Nat} {c : Code} {s : St} {k : Ex → St → Tree}
    (h : (loopHead cx e an fn rnd bid o c s k).vc I g.env) (hs : SRel A I cx.P (fun _ => False) g s a w) (hr : RndRel g rnd r) (hc : COK cx.P fn o c) (n : Nat) :
    LoopWp (FW r) n cx.P c (Post A I cx.P (fun _ => False) g k) a w := by
  unfold loopHead at h
  simp only at h
  split at h
  · exact h.elim
  rename_i hcond
  simp only [Bool.or_eq_true, Bool.not_eq_true', decide_eq_false_iff_not, not_or, Bool.not_eq_false, Decidable.not_not] at hcond
  obtain ⟨hle, hlen⟩ := hcond
  obtain ⟨hps, hbody⟩ := mkAsserts_vc h
  obtain ⟨m0, hJ0, _⟩ := headAt_of (.refl g) hs.nv hs.nb rfl rfl rfl hs hle hlen hps
  refine LoopWp.ghost (fun m a w => HeadAt A I cx.P g an (an.head s) m a w) (fun m a1 w1 hJ => ?_) m0 a w hJ0
  obtain ⟨ds, gh, hso, henv, hgle, hsr, hinv, hmeas⟩ := hJ.ex
  have hb1 := havocs_vc hbody hso
  rw [← henv] at hb1
  have hb15 := assumes_vc hb1 hinv
  obtain ⟨hsort, hb2⟩ := mkAsserts_vc hb15
  obtain ⟨z0, hz0⟩ := hsort (.sort false an.meas) (by simp)
  refine wpIn_mono (hE.exec hG hb2 hsr (hr.le hgle hs.m.wf) hc n) fun ex a2 w2 hpost => ?_
  obtain ⟨x, g2, s2, rfl, hg2, hs2, hv2⟩ := hpost
  cases x with
  | normal =>
    simp only at hv2
    split at hv2
    · exact hv2.elim
    rename_i hcond2
    simp only [Bool.or_eq_true, Bool.not_eq_true', decide_eq_false_iff_not, not_or, Bool.not_eq_false, Decidable.not_not] at hcond2
    obtain ⟨hle2, hlen2⟩ := hcond2
    obtain ⟨hps2, hv3⟩ := mkAsserts_vc hv2
    obtain ⟨hps3, _⟩ := mkAsserts_vc hv3
    obtain ⟨m', hJ', hm'⟩ := headAt_of (hgle.trans hg2) hs.nv hs.nb rfl rfl rfl hs2 hle2 hlen2 hps2
    refine ⟨m', ?_, hJ'⟩
    have hp1 := hps3 _ List.mem_cons_self
    have hp2 := hps3 _ (List.mem_cons_of_mem _ List.mem_cons_self)
    obtain ⟨z1, hz1, hz1'⟩ := hp1
    obtain ⟨z2, hz2, hz2'⟩ := hp2
    have key : ∀ {a b : E} {o : BO} {z : Int}, (mkBin o a b).den I g2.env = some (.i z) → ∃ x y, a.den I g2.env = some (.i x) ∧ b.den I g2.env = some (.i y) ∧ z = o.ev x y := by
      intro a b o z hz
      unfold mkBin at hz
      split at hz
      · simp [E.den] at hz; exact ⟨_, _, rfl, rfl, hz.symm⟩
      · simp only [E.den] at hz
        split at hz
        · rename_i x y h1 h2; simp at hz; exact ⟨x, y, h1, h2, hz.symm⟩
        · cases hz
    obtain ⟨x1, y1, h1, h2, rfl⟩ := key hz1
    obtain ⟨x2, y2, h3, h4, rfl⟩ := key hz2
    simp [E.den] at h1
    subst h1
    rw [h2] at h3; simp at h3; subst h3
    have hm1 := hm' y1 h2
    have hle0 : 0 ≤ y1 := by
      by_cases h : 0 ≤ y1
      · exact h
      · simp [BO.ev, h] at hz1'
    have hlt : y1 < y2 := by
      by_cases h : y1 < y2
      · exact h
      · simp [BO.ev, h] at hz2'
    rw [E.den_le hg2 hz0] at h4
    simp at h4
    subst h4
    have := hmeas z0 hz0
    omega
  | ret => exact ⟨.ret, g2, s2, rfl, hgle.trans hg2, hs2, hv2⟩
  | exit id => exact ⟨.exit id, g2, s2, rfl, hgle.trans hg2, hs2, hv2⟩
  | goto l => exact ⟨.goto l, g2, s2, rfl, hgle.trans hg2, hs2, hv2⟩
end Go.Sx
