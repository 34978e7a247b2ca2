/-
  Blocks that an executor makes ahead of the machine: a reading along a map of blocks that grows anywhere. Conditions: none.
-/
import Derived.Test.YtbcclmpmljpbcaaGreatDoorSxCall
noncomputable section
namespace Go.Sx
open Go

/-- More blocks have a place; none has another. -/
structure G.Ext (g g' : G) : Prop where
  env : ∃ xs, g'.env = g.env ++ xs
  some : ∀ {b : Nat} {p : PB}, g.φ b = some p → g'.φ b = some p

theorem E.den_ext {I : Itp} {g g' : G} (h : g.Ext g') {e : E} {d : D} (he : e.den I g.env = some d) : e.den I g'.env = some d := by
  obtain ⟨⟨xs, hx⟩, _⟩ := h
  rw [hx]; exact E.den_more he
theorem G.Le.ext {g g' : G} (h : g.Le g') (hw : g.wf) : g.Ext g' := ⟨h.env, fun hb => h.some hw hb⟩

mutual
theorem Rel.ext {I : Itp} {g g' : G} (h : g.Ext g') : ∀ {v : AV} {x : Value}, Rel I g v x → Rel I g' v x := by
  intro v x hv
  match v with
  | .any => trivial
  | .undef => simpa [Rel] using hv
  | .bool e => simp only [Rel] at hv ⊢; obtain ⟨n, h1, h2⟩ := hv; exact ⟨n, E.den_ext h h1, h2⟩
  | .int k e => simp only [Rel] at hv ⊢; obtain ⟨n, h1, h2⟩ := hv; exact ⟨n, E.den_ext h h1, h2⟩
  | .nilptr => simpa [Rel] using hv
  | .ptr b r s k =>
    simp only [Rel] at hv ⊢
    obtain ⟨n, p, h1, h2, h3, h4⟩ := hv
    exact ⟨n, p, E.den_ext h h1, h2, h.some h3, h4⟩
  | .nilslice => simpa [Rel] using hv
  | .slice b lo len s nl =>
    simp only [Rel] at hv ⊢
    obtain ⟨l, n, h1, h2, h3, h4, h5⟩ := hv
    refine ⟨l, n, E.den_ext h h1, E.den_ext h h2, h3, h4, ?_⟩
    rcases h5 with ⟨p, cap, h5, h6⟩ | h5
    · exact .inl ⟨p, cap, h.some h5, h6⟩
    · exact .inr h5
  | .func f cap => simp only [Rel] at hv ⊢; obtain ⟨cs, h1, h2⟩ := hv; exact ⟨cs, h1, Rels.ext h h2⟩
  | .yld b => simp only [Rel] at hv ⊢; obtain ⟨p, h1, h2⟩ := hv; exact ⟨p, h.some h1, h2⟩
  | .nilfunc => simpa [Rel] using hv
  | .agg l => simp only [Rel] at hv ⊢; obtain ⟨cs, h1, h2⟩ := hv; exact ⟨cs, h1, Rels.ext h h2⟩
  | .tup l => simp only [Rel] at hv ⊢; obtain ⟨cs, h1, h2⟩ := hv; exact ⟨cs, h1, Rels.ext h h2⟩
  | .big l ks t n m =>
    simp only [Rel] at hv ⊢
    obtain ⟨f, xs, ys, zs, h1, h2, h3, h4, h5⟩ := hv
    exact ⟨f, xs, ys, zs, E.den_ext h h1, h2, Rels.ext h h3, Rels.ext h h4, h5⟩
  | .cap0 => simpa [Rel] using hv
  | .empty => simpa [Rel] using hv
  | .asl b k n s => simp only [Rel] at hv ⊢; obtain ⟨p, cap, h1, h2⟩ := hv; exact ⟨p, cap, h.some h1, h2⟩
  | .bfunc f m cap => simp only [Rel] at hv ⊢; obtain ⟨ms, cs, h1, h2, h3⟩ := hv; exact ⟨ms, cs, h1, Rels.ext h h2, Rels.ext h h3⟩
  | .gptr v k => simpa [Rel] using hv
  | .str l => simpa [Rel] using hv
  | .strT t n => simp only [Rel] at hv ⊢; obtain ⟨f, k, s, h1, h2, h3⟩ := hv; exact ⟨f, k, s, E.den_ext h h1, E.den_ext h h2, h3⟩
  | .capN => simpa [Rel] using hv
  | .mref b => simp only [Rel] at hv ⊢; obtain ⟨p, h1, h2⟩ := hv; exact ⟨p, h.some h1, h2⟩
  | .nilmap => simpa [Rel] using hv
  | .nilif => simpa [Rel] using hv
  | .sat e => simp only [Rel] at hv ⊢; obtain ⟨n, h1, h2⟩ := hv; exact ⟨n, E.den_ext h h1, h2⟩
  | .ifo e => simp only [Rel] at hv ⊢; obtain ⟨n, h1, h2⟩ := hv; exact ⟨n, E.den_ext h h1, h2⟩
theorem Rels.ext {I : Itp} {g g' : G} (h : g.Ext g') : ∀ {l : List AV} {xs : List Value}, Rels I g l xs → Rels I g' l xs := by
  intro l xs hl
  match l, xs with
  | [], [] => trivial
  | a :: l, x :: xs => simp only [Rels] at hl ⊢; exact ⟨Rel.ext h hl.1, Rels.ext h hl.2⟩
  | [], _ :: _ => simp [Rels] at hl
  | _ :: _, [] => simp [Rels] at hl
end

theorem TRel.ext {I : Itp} {g g' : G} {X : Nat → Prop} (h : g.Ext g') {ts : Tmps} {a : Array Value} (ht : TRel I g X ts a) : TRel I g' X ts a :=
  fun t v h1 h2 => let ⟨x, h3, h4⟩ := ht t v h1 h2; ⟨x, h3, h4.ext h⟩

theorem BRel.ext {I : Itp} {P : Program} {g g' : G} {b : Nat} {H : Nat → Option Obj} (h : g.Ext g') (hb : g'.φ b = g.φ b) : ∀ {x : Blk}, BRel I P g b H x → BRel I P g' b H x
  | .cells l wr, hx => by
    obtain ⟨p, c, T, fr, h1, h2, h3, h4⟩ := hx
    exact ⟨p, c, T, fr, h.some h1, h2, fun i v hv => let ⟨x, a, b⟩ := h3 i v hv; ⟨x, a, b.ext h⟩, h4⟩
  | .rows ks t len wr nl, hx => by
    obtain ⟨f, n, h1, h2, h3, h4⟩ := hx
    refine ⟨f, n, E.den_ext h h1, E.den_ext h h2, h3, ?_⟩
    rcases h4 with ⟨p, c, T, fr, h5, h6⟩ | ⟨h5, h6, h7⟩
    · exact .inl ⟨p, c, T, fr, h.some h5, h6⟩
    · exact .inr ⟨h5, h6, by rw [hb]; exact h7⟩
  | .big l ks t n m wr, hx => by
    obtain ⟨p, c, T, fr, f, h1, h2, h3, h4, h5, h6, h7⟩ := hx
    exact ⟨p, c, T, fr, f, h.some h1, h2, E.den_ext h h3, fun i v hv => let ⟨x, a, b⟩ := h4 i v hv; ⟨x, a, b.ext h⟩, h5, fun i v hv => let ⟨x, a, b⟩ := h6 i v hv; ⟨x, a, b.ext h⟩, h7⟩
  | .loop st pend fn ix nt ts d, hx => by
    obtain ⟨p, q, r, rf, h1, h2, h3, h4, h5, h6, h8, h9, h10, h11, h12, h13⟩ := hx
    exact ⟨p, q, r, rf, h.some h1, h.some h2, h3, h4, h5, h6, h8, h9, h10, h11, h12, h13.ext h⟩
  | .dfr sh, hx => by
    obtain ⟨p, h1, h2⟩ := hx
    exact ⟨p, h.some h1, h2⟩
  | .mp l m, hx => by
    obtain ⟨p, es, c, h1, h2, h3, h4⟩ := hx
    exact ⟨p, es, c, h.some h1, h2, h3.ext h, h4.ext h⟩

/-- A block's word looks at the heap at its own place alone. -/
theorem DVRel.ext {I : Itp} {g g' : G} (h : g.Ext g') : ∀ {d : DV} {x : Deferred}, DVRel I g d x → DVRel I g' d x
  | .blk _, _, ⟨p, h1, h2⟩ => ⟨p, h.some h1, h2⟩
  | .fn _ _ _, _, ⟨ms, cs, h1, h2, h3⟩ => ⟨ms, cs, h1, h2.ext h, h3.ext h⟩
theorem DRel.ext {I : Itp} {g g' : G} (h : g.Ext g') : ∀ {l : List DV} {xs : List Deferred}, DRel I g l xs → DRel I g' l xs
  | [], [], _ => trivial
  | _ :: _, _ :: _, ⟨h1, h3⟩ => ⟨h1.ext h, DRel.ext h h3⟩
  | [], _ :: _, h => by simp [DRel] at h
  | _ :: _, [], h => by simp [DRel] at h


/-- A floating block finds its place. -/
def G.place (g : G) (b : Nat) (p : PB) : G := { g with φ := fun c => if c = b then some p else g.φ c }
theorem G.place_ext {g : G} {b : Nat} {p : PB} (h : g.φ b = none) : g.Ext (g.place b p) := ⟨⟨[], by simp [G.place]⟩, fun {c q} hc => by
  simp only [G.place]
  split
  · rename_i e; subst e; rw [h] at hc; cases hc
  · exact hc⟩

variable {A : Amb} {I : Itp} {P : Program} {g : G} {X : Nat → Prop} {ts : Tmps} {a : Act} {M : Mem} {w : World}

/-- The machine makes the block that floated. -/
theorem MRel.place {b : Nat} {o : Obj} {x : Blk} {p : PB} (h : MRel A I P g M w) (hb : b < g.nb) (hφ : g.φ b = none) (hn : get M b = none) (hp : p.blk = w.heap.size)
    (hx : BRel I P (g.place b p) b (fun i => (w.alloc o).heap[i]?) x) : MRel A I P (g.place b p) ((b, x) :: M) (w.alloc o) := by
  have hext := G.place_ext (p := p) hφ
  have hold : ∀ c q, c ≠ b → (g.place b p).φ c = some q → g.φ c = some q := fun c q hc hq => by simpa [G.place, hc] using hq
  have hnew : ∀ q, (g.place b p).φ b = some q → q = p := fun q hq => by simpa [G.place] using hq.symm
  have hkeep : ∀ i, i < w.heap.size → (w.alloc o).heap[i]? = w.heap[i]? := fun i hi => by
    show (w.heap.push o)[i]? = _
    rw [Array.getElem?_push, if_neg (by omega)]
  have hcase : ∀ c y, get ((b, x) :: M) c = some y → (c = b ∧ y = x) ∨ (c ≠ b ∧ get M c = some y) := fun c y hc => by
    simp only [get_cons] at hc
    split at hc
    · rename_i e; left; exact ⟨e.symm, by cases hc; rfl⟩
    · rename_i e; right; exact ⟨fun e' => e e'.symm, hc⟩
  refine ⟨fun c hc => ?_, fun c y hc => ?_, fun c y hc => ?_, fun c d y z q r hc hd hwy hq hr e => ?_, fun c q hc => ?_, fun c y q hc hy hq => ?_, ?_, fun i hi hX => ?_, h.same⟩
  · simp only [G.place] at hc ⊢
    rw [if_neg (by omega)]; exact h.wf c hc
  · rcases hcase c y hc with ⟨rfl, rfl⟩ | ⟨hne, hc⟩
    · exact hx
    · have := (BRel.ext hext (b := c) (by simp [G.place, hne]) (h.blk c y hc))
      exact this.heap fun q hq => hkeep _ (h.bnd c q (hold c q hne hq))
  · rcases hcase c y hc with ⟨rfl, rfl⟩ | ⟨_, hc⟩
    · exact hb
    · exact h.lt c y hc
  · rcases hcase c y hc with ⟨rfl, rfl⟩ | ⟨hnc, hc⟩ <;> rcases hcase d z hd with ⟨rfl, rfl⟩ | ⟨hnd, hd⟩
    · rfl
    · have := hnew q hq; subst this
      have := h.bnd d r (hold d r hnd hr)
      omega
    · have := hnew r hr; subst this
      have := h.bnd c q (hold c q hnc hq)
      omega
    · exact h.inj c d y z q r hc hd hwy (hold c q hnc hq) (hold d r hnd hr) e
  · have hs : (w.alloc o).heap.size = w.heap.size + 1 := by simp
    rw [hs]
    by_cases hcb : c = b
    · subst hcb; rw [hnew q hc]; omega
    · have := h.bnd c q (hold c q hcb hc); omega
  · rcases hcase c y hc with ⟨rfl, rfl⟩ | ⟨hne, hc⟩
    · right; rw [hnew q hq, hp]; exact h.size
    · exact h.own c y q hc hy (hold c q hne hq)
  · have hs : (w.alloc o).heap.size = w.heap.size + 1 := by simp
    rw [hs]; have := h.size; omega
  · have := h.size
    rw [hkeep i (by omega)]; exact h.keep i hi hX

/-! ### An operation that sees a part of memory -/

/-- What an operation that is handed M may write. -/
def ambOf (M : Mem) (g : G) (w : World) : Amb := { w0 := w, X := fun i => ∃ b x p, get M b = some x ∧ x.wr = true ∧ g.φ b = some p ∧ p.blk = i }

theorem MRel.part {M H : Mem} (h : MRel A I P g (M ++ H) w) : MRel (ambOf M g w) I P g M w := by
  have hs : ∀ b y, get M b = some y → get (M ++ H) b = some y := fun b y hb => by rw [get_app, hb]
  have h' := h.sub hs
  exact ⟨h'.wf, h'.blk, h'.lt, h'.inj, h'.bnd, fun b x p hx hw hp => .inl ⟨b, x, p, hx, hw, hp, rfl⟩, Nat.le_refl _, fun _ _ _ => rfl, rfl, rfl⟩

theorem GOk.part {gl : List Glob} {M H : Mem} (hG : GOk gl A) (h : MRel A I P g (M ++ H) w) : GOk gl (ambOf M g w) := fun x hx => by
  obtain ⟨h1, h2, cs, T, fr, h3, h4⟩ := hG x hx
  refine ⟨Nat.lt_of_lt_of_le h1 h.size, ?_, cs, T, fr, by rw [← h3]; exact h.keep _ h1 h2, h4⟩
  rintro ⟨b, y, p, h5, h6, h7, h8⟩
  rcases h.own b y p (by rw [get_app, h5]) h6 h7 with h12 | h12
  · rw [h8] at h12; exact h2 h12
  · omega

theorem MRel.frame {M H M' : Mem} {g' : G} {w' : World} (h : MRel A I P g (M ++ H) w) (hd : ∀ b y, get H b = some y → get M b = none) (hle : g.Le g')
    (hm : MRel (ambOf M g w) I P g' M' w') (hk : keysOk g.nb M M' = true) : MRel A I P g' (M' ++ H) w' := by
  have hM : ∀ {b : Nat} {y : Blk}, get M b = some y → get (M ++ H) b = some y := fun hb => by rw [get_app, hb]
  have hH : ∀ {b : Nat} {y : Blk}, get H b = some y → get (M ++ H) b = some y := fun {b y} hb => by rw [get_app, hd b y hb]; exact hb
  have hcase : ∀ {b : Nat} {y : Blk}, get (M' ++ H) b = some y → get M' b = some y ∨ get H b = some y := fun {b y} hb => by
    rw [get_app] at hb
    split at hb
    · rename_i z hz; cases hb; exact .inl hz
    · exact .inr hb
  have hkey : ∀ {c : Nat} {y : Blk}, get M' c = some y → (c < g.nb ∧ ∃ x, get M c = some x) ∨ (g.nb ≤ c ∧ y.wr = true) := fun {c y} hc => by
    have := List.all_eq_true.1 (keysOk_all hk) _ (get_key hc).2
    simp only at this
    split at this
    · rename_i hlt; exact .inl ⟨hlt, Option.isSome_iff_exists.1 this⟩
    · rename_i hlt; exact .inr ⟨by omega, this⟩
  have hX : ∀ {i : Nat}, (ambOf M g w).X i → A.X i ∨ A.w0.heap.size ≤ i := fun {i} ⟨b, x, p, h1, h2, h3, h4⟩ => by
    rw [← h4]; exact h.own b x p (hM h1) h2 h3
  have hφ : ∀ {b : Nat} {y : Blk} {p : PB}, get H b = some y → g'.φ b = some p → g.φ b = some p := fun {b y p} hb hp => by
    rw [← hle.φ b (h.lt b y (hH hb))]; exact hp
  -- a block of H is apart from what may be written
  have hap : ∀ {b : Nat} {y : Blk} {p : PB}, get H b = some y → g.φ b = some p → ¬ (ambOf M g w).X p.blk := by
    rintro b y p hb hp ⟨c, x, q, h1, hwx, h3, h4⟩
    have := h.inj c b x y q p (hM h1) (hH hb) hwx h3 hp h4
    subst this
    rw [hd c y hb] at h1; cases h1
  have hcross : ∀ {b c : Nat} {y z : Blk} {p q : PB}, get H b = some y → get M' c = some z → (y.wr = true ∨ z.wr = true) → g'.φ b = some p → g'.φ c = some q → p.blk = q.blk → b = c := by
    intro b c y z p q hb hc hwz hp hq e
    have hp' := hφ hb hp
    have hz : (∃ x, get M c = some x ∧ y.wr = true ∧ g.φ c = some q) ∨ z.wr = true := by
      rcases hkey hc with ⟨h1, x, h2⟩ | ⟨_, h2⟩
      · rcases hwz with h3 | h3
        · exact .inl ⟨x, h2, h3, by rw [← hle.φ c h1]; exact hq⟩
        · exact .inr h3
      · exact .inr h2
    rcases hz with ⟨x, h2, h3, hq'⟩ | h2
    · exact h.inj b c y x p q (hH hb) (hM h2) h3 hp' hq' e
    · rcases hm.own c z q hc h2 hq with h3 | h3
      · rw [← e] at h3; exact absurd h3 (hap hb hp')
      · have h4 := h.bnd b p hp'
        have h5 : w.heap.size ≤ q.blk := h3
        omega
  refine ⟨hm.wf, fun b y hb => ?_, fun b y hb => ?_, fun b c y z p q hb hc hwy hp hq e => ?_, hm.bnd, fun b y p hb hw hp => ?_, Nat.le_trans h.size hm.size, fun i hi hXi => ?_, hm.same.1.trans h.same.1, hm.same.2.trans h.same.2⟩
  · rcases hcase hb with hb | hb
    · exact hm.blk b y hb
    · have hlt := h.lt b y (hH hb)
      exact ((h.blk b y (hH hb)).le hle h.wf hlt).heap fun p hp => hm.keep p.blk (h.bnd b p (hφ hb hp)) (hap hb (hφ hb hp))
  · rcases hcase hb with hb | hb
    · exact hm.lt b y hb
    · exact Nat.lt_of_lt_of_le (h.lt b y (hH hb)) hle.nb
  · rcases hcase hb with hb | hb <;> rcases hcase hc with hc | hc
    · exact hm.inj b c y z p q hb hc hwy hp hq e
    · exact (hcross hc hb (.inr hwy) hq hp e.symm).symm
    · exact hcross hb hc (.inl hwy) hp hq e
    · exact h.inj b c y z p q (hH hb) (hH hc) hwy (hφ hb hp) (hφ hc hq) e
  · rcases hcase hb with hb | hb
    · rcases hm.own b y p hb hw hp with h1 | h1
      · exact hX h1
      · exact .inr (Nat.le_trans h.size h1)
    · exact h.own b y p (hH hb) hw (hφ hb hp)
  · have h1 : w'.heap[i]? = w.heap[i]? := hm.keep i (Nat.lt_of_lt_of_le hi h.size) fun hx => by
      rcases hX hx with h2 | h2
      · exact hXi h2
      · omega
    rw [h1]; exact h.keep i hi hXi
end Go.Sx
