/-
  Functions that call themselves: a contract looks at the meaning of its predicates in its conditions alone. Conditions: none.
-/
import Derived.Test.YtbcclmpmljpbcaaGreatDoorSxTidy
noncomputable section
namespace Go.Sx
open Go

variable {f : Nat → D → D → D → D → Option D} {p q : Nat → List D → Prop} {P : Program} {g : G} {A : Amb}

theorem E.den_pr (env : List D) : ∀ e : E, e.den ⟨f, p⟩ env = e.den ⟨f, q⟩ env := by
  intro e
  induction e with
  | lit n => rfl
  | zt => rfl
  | kt row => rfl
  | bt b => rfl
  | var i => rfl
  | bin o a b iha ihb => simp only [E.den, iha, ihb]
  | wrap k a ih => simp only [E.den, ih]
  | sel t r c iht ihr => simp only [E.den, iht, ihr]
  | upd t r c v iht ihr ihv => simp only [E.den, iht, ihr, ihv]
  | cat t n u iht ihn ihu => simp only [E.den, iht, ihn, ihu]
  | sh t n iht ihn => simp only [E.den, iht, ihn]
  | teq t n u m iht ihn ihu ihm => simp only [E.den, iht, ihn, ihu, ihm]
  | fn j a b c d iha ihb ihc ihd => simp only [E.den, iha, ihb, ihc, ihd]; rfl

mutual
theorem Rel.pr : ∀ {v : AV} {x : Value}, Rel ⟨f, p⟩ g v x → Rel ⟨f, q⟩ g v x := by
  intro v x h
  have he : ∀ (e : E) (d : D), e.den ⟨f, p⟩ g.env = some d → e.den ⟨f, q⟩ g.env = some d := fun e d h => by rw [← E.den_pr (p := p)]; exact h
  match v with
  | .any => simp [Rel]
  | .undef => simpa [Rel] using h
  | .bool e => obtain ⟨n, h1, h2⟩ := h; exact ⟨n, he _ _ h1, h2⟩
  | .int k e => obtain ⟨n, h1, h2⟩ := h; exact ⟨n, he _ _ h1, h2⟩
  | .nilptr => simpa [Rel] using h
  | .ptr b r s k => obtain ⟨n, p', h1, h2⟩ := h; exact ⟨n, p', he _ _ h1, h2⟩
  | .nilslice => simpa [Rel] using h
  | .slice b lo n s nl => obtain ⟨l, m, h1, h2, h3⟩ := h; exact ⟨l, m, he _ _ h1, he _ _ h2, h3⟩
  | .func fn l => obtain ⟨cs, h1, h2⟩ := h; exact ⟨cs, h1, Rels.pr h2⟩
  | .yld b => exact h
  | .nilfunc => simpa [Rel] using h
  | .agg l => obtain ⟨cs, h1, h2⟩ := h; exact ⟨cs, h1, Rels.pr h2⟩
  | .tup l => obtain ⟨cs, h1, h2⟩ := h; exact ⟨cs, h1, Rels.pr h2⟩
  | .big l ks t n m => obtain ⟨tf, xs, ys, zs, h1, h2, h3, h4, h5⟩ := h; exact ⟨tf, xs, ys, zs, he _ _ h1, h2, Rels.pr h3, Rels.pr h4, h5⟩
  | .cap0 => simpa [Rel] using h
  | .empty => simpa [Rel] using h
  | .asl b k n s => simpa [Rel] using h
  | .bfunc fn l m => obtain ⟨ms, cs, h1, h2, h3⟩ := h; exact ⟨ms, cs, h1, Rels.pr h2, Rels.pr h3⟩
  | .gptr b k => simpa [Rel] using h
  | .str l => simpa [Rel] using h
  | .strT t n => obtain ⟨tf, k, s, h1, h2, h3⟩ := h; exact ⟨tf, k, s, he _ _ h1, he _ _ h2, h3⟩
  | .capN => simpa [Rel] using h
  | .mref b => simpa [Rel] using h
  | .nilmap => simpa [Rel] using h
  | .nilif => simpa [Rel] using h
  | .sat e => obtain ⟨n, h1, h2⟩ := h; exact ⟨n, he _ _ h1, h2⟩
  | .ifo e => obtain ⟨n, h1, h2⟩ := h; exact ⟨n, he _ _ h1, h2⟩
theorem Rels.pr : ∀ {l : List AV} {xs : List Value}, Rels ⟨f, p⟩ g l xs → Rels ⟨f, q⟩ g l xs := by
  intro l xs h
  match l, xs with
  | [], [] => trivial
  | v :: l, x :: xs => exact ⟨Rel.pr h.1, Rels.pr h.2⟩
  | [], _ :: _ => simp [Rels] at h
  | _ :: _, [] => simp [Rels] at h
end

theorem BRel.pr {b : Nat} {H : Nat → Option Obj} : ∀ {x : Blk}, BRel ⟨f, p⟩ P g b H x → BRel ⟨f, q⟩ P g b H x
  | .cells l wr, ⟨pb, c, T, fr, h1, h2, h3, h4⟩ => ⟨pb, c, T, fr, h1, h2, fun i v hv => let ⟨x, a, b⟩ := h3 i v hv; ⟨x, a, Rel.pr b⟩, h4⟩
  | .rows ks t len wr nl, ⟨tf, n, h1, h2, h3⟩ => ⟨tf, n, by rw [← E.den_pr (p := p)]; exact h1, by rw [← E.den_pr (p := p)]; exact h2, h3⟩
  | .big l ks t n m wr, ⟨pb, c, T, fr, tf, h1, h2, h3, h4, h5, h6, h7⟩ =>
    ⟨pb, c, T, fr, tf, h1, h2, by rw [← E.den_pr (p := p)]; exact h3, fun i v hv => let ⟨x, a, b⟩ := h4 i v hv; ⟨x, a, Rel.pr b⟩, h5, fun i v hv => let ⟨x, a, b⟩ := h6 i v hv; ⟨x, a, Rel.pr b⟩, h7⟩
  | .loop st pend fn ix nt ts d, ⟨pb, qb, r, rf, h1, h2, h3, h4, h5, h6, h7, h8, h9, h10, h11, h12⟩ =>
    ⟨pb, qb, r, rf, h1, h2, h3, h4, h5, h6, h7, h8, h9, h10, h11, fun t v a b => let ⟨x, c, d⟩ := h12 t v a b; ⟨x, c, Rel.pr d⟩⟩
  | .dfr sh, h => h
  | .mp l m, ⟨pb, es, c, h1, h2, h3, h4⟩ => ⟨pb, es, c, h1, h2, Rels.pr h3, Rels.pr h4⟩
theorem MRel.pr {M : Mem} {w : World} (h : MRel A ⟨f, p⟩ P g M w) : MRel A ⟨f, q⟩ P g M w where
  wf := h.wf
  blk := fun b x hb => BRel.pr (h.blk b x hb)
  lt := h.lt
  inj := h.inj
  bnd := h.bnd
  own := h.own
  size := h.size
  keep := h.keep
  same := h.same

theorem dens_pr (env : List D) : ∀ l : List E, dens ⟨f, p⟩ env l = dens ⟨f, q⟩ env l
  | [] => rfl
  | e :: l => by simp only [dens, E.den_pr (p := p) (q := q) env e, dens_pr env l]
theorem PE.den_pr {env : List D} : ∀ {e : PE}, (∀ j l, e = .pr j l → ∀ ds, p j ds → q j ds) → e.den ⟨f, p⟩ env → e.den ⟨f, q⟩ env
  | .tt e, _, ⟨n, h1, h2⟩ => ⟨n, by rw [← E.den_pr (p := p)]; exact h1, h2⟩
  | .ff e, _, h => by have h : e.den ⟨f, p⟩ env = some (.i 0) := h; show e.den ⟨f, q⟩ env = some (.i 0); rw [← E.den_pr (p := p)]; exact h
  | .rng k e, _, ⟨n, h1, h2⟩ => ⟨n, by rw [← E.den_pr (p := p)]; exact h1, h2⟩
  | .same a b, _, ⟨d, h1, h2⟩ => ⟨d, by rw [← E.den_pr (p := p)]; exact h1, by rw [← E.den_pr (p := p)]; exact h2⟩
  | .pr j l, hj, ⟨ds, h1, h2⟩ => ⟨ds, by rw [← dens_pr (p := p)]; exact h1, hj j l rfl ds h2⟩
  | .sort true e, _, ⟨n, h1⟩ => ⟨n, by rw [← E.den_pr (p := p)]; exact h1⟩
  | .sort false e, _, ⟨n, h1⟩ => ⟨n, by rw [← E.den_pr (p := p)]; exact h1⟩
  | .col _ _ _ _, _, ⟨f, h1, h2⟩ => ⟨f, by rw [← E.den_pr (p := p)]; exact h1, h2⟩
  | .agr _ _ _ _, _, ⟨f, g, k, h1, h2, h3, h4⟩ => ⟨f, g, k, by rw [← E.den_pr (p := p)]; exact h1, by rw [← E.den_pr (p := p)]; exact h2, by rw [← E.den_pr (p := p)]; exact h3, h4⟩
  | .byt _ _, _, ⟨f, k, h1, h2, h3⟩ => ⟨f, k, by rw [← E.den_pr (p := p)]; exact h1, by rw [← E.den_pr (p := p)]; exact h2, h3⟩

/-- **The same contract, its conditions meant otherwise.** -/
theorem COk.pr {gl : List Glob} {c : Contract} {pre post : List PE} (h : COk ⟨f, p⟩ P gl c) (hpre : ∀ env, Sorts c.sorts env → (∀ e ∈ pre, e.den ⟨f, q⟩ env) → ∀ e ∈ c.pre, e.den ⟨f, p⟩ env)
    (hpost : ∀ env, (∀ e ∈ c.post, e.den ⟨f, p⟩ env) → ∀ e ∈ post, e.den ⟨f, q⟩ env) : COk ⟨f, q⟩ P gl { c with pre := pre, post := post } := by
  intro g w xs hso hnb hG hm ha hp
  refine (h g w xs hso hnb hG hm.pr (Rels.pr ha) (hpre _ hso hp)).mono fun e w' he => ?_
  obtain ⟨v, outs, g', h1, h2, h3, h4, h5, h6, h7, h8⟩ := he
  exact ⟨v, outs, g', h1, h2, h3, h4, h5, h6.pr, h7.pr, hpost _ h8⟩

/-- **Less is said behind a call.** -/
theorem COk.weak {I : Itp} {gl : List Glob} {c : Contract} {post : List PE} (h : COk I P gl c)
    (hpost : ∀ env outs, Sorts c.sorts env → Sorts c.outs outs → (∀ e ∈ c.pre, e.den I env) → (∀ e ∈ c.post, e.den I (env ++ outs)) → ∀ e ∈ post, e.den I (env ++ outs)) : COk I P gl { c with post := post } := by
  intro g w xs hso hnb hG hm ha hp
  refine (h g w xs hso hnb hG hm ha hp).mono fun e w' he => ?_
  obtain ⟨v, outs, g', h1, h2, h3, h4, h5, h6, h7, h8⟩ := he
  exact ⟨v, outs, g', h1, h2, h3, h4, h5, h6, h7, by rw [h3] at h8 ⊢; exact hpost g.env outs hso h2 hp h8⟩
end Go.Sx
