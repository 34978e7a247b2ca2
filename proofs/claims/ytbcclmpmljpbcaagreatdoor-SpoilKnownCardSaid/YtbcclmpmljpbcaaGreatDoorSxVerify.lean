/-
  A contract is kept where the executor's tree for it holds. Conditions: none.
-/
import Derived.Test.YtbcclmpmljpbcaaGreatDoorSxCode
namespace Go.Sx
open Go

variable {A : Amb} {I : Itp} {P : Program} {g : G} {X : Nat → Prop} {ts : Tmps} {a : Act} {M : Mem} {w : World} {ops : Array Oper}

theorem finish0_sound {c : Contract} {v : AV} {s : St} {g2 : G} {x : Value} {w' : World} (hso : Sorts c.sorts g.env) (hnb : g.nb = c.nb) (hle : g.Le g2) (h : (finish0 c v s).vc I g2.env)
    (hm : MRel A I P g2 s.mem w') (hv : Rel I g2 v x) :
    ∃ outs g', Sorts c.outs outs ∧ g'.env = g.env ++ outs ∧ g'.nb = c.nb + c.fresh.length ∧ (∀ b, b < c.nb → g'.φ b = g.φ b) ∧ Rel I g' c.res x ∧ MRel A I P g' (c.mods ++ c.fresh) w' ∧ ∀ p ∈ c.post, p.den I g'.env := by
  unfold finish0 at h
  simp only at h
  split at h
  · exact h.elim
  rename_i hcond
  simp only [Bool.or_eq_true, Bool.not_eq_true', decide_eq_false_iff_not, not_or, Bool.not_eq_false, Decidable.not_not] at hcond
  obtain ⟨hle', hlen⟩ := hcond
  generalize hu : matchSt c.sorts.length c.nb c.outs.length c.fresh.length { tmps := [(0, c.res)], nt := 0, defers := [], mem := c.mods ++ c.fresh, nv := c.sorts.length, nb := c.nb } { tmps := [(0, v)], nt := 0, defers := [], mem := s.mem, nv := c.sorts.length, nb := c.nb } = u at *
  have hu1 : u.nv = c.sorts.length := by rw [← hu]; rfl
  have hu2 : u.nb = c.nb := by rw [← hu]; rfl
  have hu3 : u.kb = c.nb + c.fresh.length := by rw [← hu]; rfl
  obtain ⟨hps, _⟩ := mkAsserts_vc h
  obtain ⟨ds, hds, hdso⟩ := sortPs_sorts hlen (fun p hp => hps p (by simp [hp]))
  obtain ⟨⟨xs, hxs⟩, hgnb, hgφ⟩ := hle
  have hnv := hso.length
  have hfit : u.Fits I g2 ds := ⟨hds, by rw [hu1, hxs]; simp; omega, by omega⟩
  have htake : g2.env.take u.nv = g.env := by rw [hu1, hxs, ← hnv, List.take_left']; rfl
  simp only [Fix.leS, Bool.and_eq_true, beq_iff_eq] at hle'
  obtain ⟨⟨⟨⟨_, _⟩, hleT⟩, hleM⟩, hok⟩ := hle'
  have henv : (u.view g2 ds).env = g.env ++ ds := by simp [Fix.view, htake]
  refine ⟨ds, u.view g2 ds, hdso, henv, by simp [Fix.view, hu3], fun b hb => ?_, ?_, Fix.mrel hfit hm hleM hok, fun p hp => ?_⟩
  · have : u.img b = some b := by unfold Fix.img; rw [if_pos (by omega)]
    rw [Fix.view_φ this, hgφ b (by omega)]
  · have h0 : TRel I g2 (fun _ => False) [(0, v)] #[x] := fun t v' hv' _ => by
      simp only [get_cons] at hv'
      split at hv'
      · rename_i he; subst he; simp at hv'; subst hv'; exact ⟨_, rfl, hv⟩
      · cases hv'
    obtain ⟨y, hy, hr⟩ := Fix.leT_rel hfit hleT h0 0 c.res (by simp [get_cons]) (fun h => h)
    simp at hy; subst hy
    exact hr
  · have := PE.subst_den (n := c.sorts.length) hds (by rw [hxs]; simp; omega) (hps (p.subst c.sorts.length u.σ) (by simp; exact .inr ⟨p, hp, rfl⟩))
    rw [← hu1] at this
    simpa [Fix.view] using this

theorem le_tt {env : List D} {a b : E} (h : (PE.tt (mkBin .le a b)).den I env) : ∃ x y, a.den I env = some (.i x) ∧ b.den I env = some (.i y) ∧ x ≤ y := by
  obtain ⟨z, h1, h2⟩ := h
  unfold mkBin at h1
  split at h1
  · rename_i x y
    refine ⟨x, y, rfl, rfl, ?_⟩
    simp only [E.den, Option.some.injEq, D.i.injEq, BO.ev] at h1
    by_cases hxy : x ≤ y
    · exact hxy
    · simp [hxy] at h1; omega
  · simp only [E.den] at h1
    split at h1
    · rename_i x y hx hy
      refine ⟨x, y, hx, hy, ?_⟩
      simp only [Option.some.injEq, D.i.injEq, BO.ev] at h1
      by_cases hxy : x ≤ y
      · exact hxy
      · simp [hxy] at h1; omega
    · cases h1

/-- What is said of a block, said weaker. -/
theorem MRel.weak {b : Nat} {x y : Blk} (h : MRel A I P g M w) (hb : get M b = some x) (hy : BRel I P g b (fun i => w.heap[i]?) y) (hw : y.wr = x.wr) : MRel A I P g (put b y M) w where
  wf := h.wf
  blk := fun c z hc => by
    rw [get_put] at hc
    split at hc
    · rename_i e; subst e; cases hc; exact hy
    · exact h.blk c z hc
  lt := fun c z hc => by
    rw [get_put] at hc
    split at hc
    · rename_i e; subst e; exact h.lt b x hb
    · exact h.lt c z hc
  inj := fun c d z z' p q hc hd hz hp hq e => by
    rw [get_put] at hc hd
    have h1 : ∃ z, get M c = some z ∧ z.wr = true := by
      split at hc
      · rename_i e; subst e; cases hc; exact ⟨x, hb, hw ▸ hz⟩
      · exact ⟨z, hc, hz⟩
    have h2 : ∃ z, get M d = some z := by
      split at hd
      · rename_i e; subst e; exact ⟨x, hb⟩
      · exact ⟨z', hd⟩
    obtain ⟨z1, h1, h1w⟩ := h1
    obtain ⟨z2, h2⟩ := h2
    exact h.inj c d z1 z2 p q h1 h2 h1w hp hq e
  bnd := h.bnd
  own := fun c z p hc hz hp => by
    rw [get_put] at hc
    split at hc
    · rename_i e; subst e; cases hc; exact h.own b x p hb (hw ▸ hz) hp
    · exact h.own c z p hc hz hp
  size := h.size
  keep := h.keep
  same := h.same

theorem trimM_rel {u : Fix} : ∀ {l M : Mem}, MRel A I P g M w → (∀ p ∈ (trimM u l M).2, p.den I g.env) → MRel A I P g (trimM u l M).1 w
  | [], _, hm, _ => hm
  | x :: l, M, hm, hp => by
    simp only [trimM] at hp ⊢
    split
    · rename_i c y ps ht
      rw [ht] at hp
      simp only [List.mem_append] at hp
      refine trimM_rel ?_ fun p h => hp p (.inr h)
      unfold trim1 at ht
      split at ht
      · split at ht
        · split at ht
          · rename_i ks t n' wr nl hg
            split at ht
            · split at ht
              · cases ht
              · split at ht
                · rename_i row
                  simp only [Option.some.injEq, Prod.mk.injEq] at ht
                  obtain ⟨rfl, rfl, rfl⟩ := ht
                  refine hm.weak hg ?_ rfl
                  obtain ⟨f1, f2, k0, e1, e2, e3, e4⟩ := hp _ (.inl List.mem_cons_self)
                  obtain ⟨f, N, k1, k2, k3, k4⟩ := hm.blk _ _ hg
                  rw [k1] at e2; cases e2
                  rw [k2] at e3; cases e3
                  refine ⟨f1, _, e1, k2, k3, ?_⟩
                  rcases k4 with ⟨p, cs, T, fr, q1, q2, q3, q4⟩ | ⟨q1, q2, q3⟩
                  · exact .inl ⟨p, cs, T, fr, q1, q2, fun r j k hr hj => by
                      rw [e4 r j (by omega) (by omega) (List.getElem?_eq_some_iff.1 hj).1]
                      exact q3 r j k hr hj, q4⟩
                  · exact .inr ⟨q1, q2, q3⟩
                · cases ht
            · simp only [Option.some.injEq, Prod.mk.injEq] at ht
              obtain ⟨rfl, rfl, rfl⟩ := ht
              refine hm.weak hg ?_ rfl
              obtain ⟨z, a, h1, h2, h3⟩ := le_tt (hp _ (.inl List.mem_cons_self))
              obtain ⟨a', m, h4, h5, h6⟩ := le_tt (hp _ (.inl (List.mem_cons_of_mem _ List.mem_cons_self)))
              simp only [E.den, Option.some.injEq, D.i.injEq] at h1
              subst h1
              rw [h4] at h2; cases h2
              obtain ⟨f, N, k1, k2, k3, k4⟩ := hm.blk _ _ hg
              rw [k2] at h5; cases h5
              refine ⟨f, a, k1, h4, h3, ?_⟩
              rcases k4 with ⟨p, cs, T, fr, q1, q2, q3, q4⟩ | ⟨q1, q2, q3⟩
              · exact .inl ⟨p, cs, T, fr, q1, q2, fun r j k hr hj => q3 r j k (by omega) hj, fun hw => by
                  obtain ⟨e1, e2, e3⟩ := q4 hw
                  exact ⟨e1, e2, Nat.le_trans (Nat.mul_le_mul_right _ (by omega)) e3⟩⟩
              · exact .inr ⟨q1, by omega, q3⟩
          · cases ht
        · cases ht
      · cases ht
    · rename_i ht
      rw [ht] at hp
      exact trimM_rel hm hp

theorem finish_sound {c : Contract} {v : AV} {s : St} {g2 : G} {x : Value} {w' : World} (hso : Sorts c.sorts g.env) (hnb : g.nb = c.nb) (hle : g.Le g2) (h : (finish c v s).vc I g2.env)
    (hm : MRel A I P g2 s.mem w') (hv : Rel I g2 v x) :
    ∃ outs g', Sorts c.outs outs ∧ g'.env = g.env ++ outs ∧ g'.nb = c.nb + c.fresh.length ∧ (∀ b, b < c.nb → g'.φ b = g.φ b) ∧ Rel I g' c.res x ∧ MRel A I P g' (c.mods ++ c.fresh) w' ∧ ∀ p ∈ c.post, p.den I g'.env := by
  unfold finish at h
  obtain ⟨hp, h'⟩ := mkAsserts_vc h
  exact finish0_sound hso hnb hle h' (trimM_rel hm hp) hv

theorem verify_sound {cx : Cx} (hC : ∀ c ∈ cx.cs, COk I cx.P cx.kn.globs c) {fuel : Nat} {c : Contract} (h : ∀ ds, Sorts c.sorts ds → (verify cx fuel c).vc I ds) : COk I cx.P cx.kn.globs c := by
  intro g w xs hso hnb hG hm ha hpre
  have hv := h g.env hso
  unfold verify at hv
  split at hv
  rotate_left
  · exact hv.elim
  split at hv
  rotate_left
  · exact hv.elim
  have hb := assumes_vc hv hpre
  have hE := eng_sound hC fuel
  have hE' : EngSound I { cx with cs := [] } (eng cx fuel) := ⟨hE.exec, hE.loop, hE.callv, hE.callf⟩
  have hs : SRel (c.amb g w) I cx.P (fun _ => False) g { tmps := [], nt := 0, defers := [], mem := c.mem, nv := c.sorts.length, nb := c.nb } { tmps := #[], defers := [] } w :=
    ⟨hm, fun t v ht _ => by simp [get_nil] at ht, rfl, trivial, hso.length, hnb⟩
  obtain ⟨_, hcall⟩ := callF_sound hE' hG (fun c hc => by simp at hc) hb hs ha
  refine hcall.mono fun e w' he => ?_
  obtain ⟨v, rfl, av, g2, s2, hle, hrel, hs2, hk⟩ := he
  obtain ⟨outs, g', h1, h2, h3, h4, h5, h6, h7⟩ := finish_sound hso hnb hle hk hs2.m hrel
  exact ⟨v, outs, g', rfl, h1, h2, h3, h4, h5, h6, h7⟩
end Go.Sx
