/-
  A contract, and what it is worth to a caller. Conditions: none.
-/
import Derived.Test.YtbcclmpmljpbcaaGreatDoorSxLoop
noncomputable section
namespace Go.Sx
open Go

variable {A : Amb} {I : Itp} {P : Program} {g : G} {X : Nat → Prop} {ts : Tmps} {a : Act} {M : Mem} {w : World}

/-- The blocks that a contract's function may write. -/
def Contract.amb (c : Contract) (g : G) (w : World) : Amb := { w0 := w, X := fun i => ∃ b x p, get c.mem b = some x ∧ x.wr = true ∧ g.φ b = some p ∧ p.blk = i }

/-- **What a contract says of its function.** -/
def COk (I : Itp) (P : Program) (gl : List Glob) (c : Contract) : Prop :=
  ∀ (g : G) (w : World) (xs : List Value), Sorts c.sorts g.env → g.nb = c.nb → GOk gl (c.amb g w) → MRel (c.amb g w) I P g c.mem w → Rels I g c.args xs → (∀ p ∈ c.pre, p.den I g.env) →
    Calls P c.fn xs.toArray w fun e w' => ∃ v outs g', e = .returned v ∧ Sorts c.outs outs ∧ g'.env = g.env ++ outs ∧ g'.nb = c.nb + c.fresh.length ∧ (∀ b, b < c.nb → g'.φ b = g.φ b) ∧
      Rel I g' c.res v ∧ MRel (c.amb g w) I P g' (c.mods ++ c.fresh) w' ∧ (∀ p ∈ c.post, p.den I g'.env)

/-! ### An instance, made -/

theorem subst_inst {env ds : List D} {σ : List E} (hσ : dens I env σ = some ds) : ∀ {e : E} {d : D}, e.den I ds = some d → (e.subst 0 σ).den I env = some d := by
  intro e
  induction e with
  | lit x => intro d h; exact h
  | zt => intro d h; exact h
  | kt row => intro d h; exact h
  | bt b => intro d h; exact h
  | var i =>
    intro d h
    simp only [E.den] at h
    simp only [E.subst, Nat.not_lt_zero, if_false, Nat.sub_zero]
    have hi : i < σ.length := by
      have := (List.getElem?_eq_some_iff.1 h).1
      rwa [dens_length hσ] at this
    obtain ⟨d', h1, h2⟩ := dens_get hσ (List.getElem?_eq_getElem hi)
    rw [h] at h2; simp at h2; subst h2
    rw [List.getElem?_eq_getElem hi]; exact h1
  | bin o a b iha ihb =>
    intro d h
    simp only [E.subst, E.den] at h ⊢
    split at h
    · rename_i x y h1 h2; rw [iha h1, ihb h2]; exact h
    · cases h
  | wrap k a ih =>
    intro d h
    simp only [E.subst, E.den] at h ⊢
    split at h
    · rename_i x h1; rw [ih h1]; exact h
    · cases h
  | sel t r c iht ihr =>
    intro d h
    simp only [E.subst, E.den] at h ⊢
    split at h
    · rename_i x y h1 h2; rw [iht h1, ihr h2]; exact h
    · cases h
  | upd t r c v iht ihr ihv =>
    intro d h
    simp only [E.subst, E.den] at h ⊢
    split at h
    · rename_i x y z h1 h2 h3; rw [iht h1, ihr h2, ihv h3]; exact h
    · cases h
  | cat t n u iht ihn ihu =>
    intro d h
    simp only [E.subst, E.den] at h ⊢
    split at h
    · rename_i x y z h1 h2 h3; rw [iht h1, ihn h2, ihu h3]; exact h
    · cases h
  | sh t n iht ihn =>
    intro d h
    simp only [E.subst, E.den] at h ⊢
    split at h
    · rename_i x y h1 h2; rw [iht h1, ihn h2]; exact h
    · cases h
  | teq t n u m iht ihn ihu ihm =>
    intro d h
    simp only [E.subst, E.den] at h ⊢
    split at h
    · rename_i x y z v h1 h2 h3 h4; rw [iht h1, ihn h2, ihu h3, ihm h4]; exact h
    · cases h
  | fn j a b c d iha ihb ihc ihd =>
    intro x h
    simp only [E.subst, E.den] at h ⊢
    split at h
    · rename_i x1 x2 x3 x4 h1 h2 h3 h4; rw [iha h1, ihb h2, ihc h3, ihd h4]; exact h
    · cases h

theorem dens_inst {env ds : List D} {σ : List E} (hσ : dens I env σ = some ds) : ∀ {l : List E} {xs : List D}, dens I ds l = some xs → dens I env (l.map (E.subst 0 σ)) = some xs
  | [], xs, h => h
  | e :: l, xs, h => by
    simp only [List.map_cons, dens] at h ⊢
    split at h
    · rename_i d ds' h1 h2
      rw [subst_inst hσ h1, dens_inst hσ h2]; exact h
    · cases h
theorem PE.inst_den {env ds : List D} {σ : List E} (hσ : dens I env σ = some ds) : ∀ {p : PE}, p.den I ds → (p.subst 0 σ).den I env
  | .tt _, ⟨m, h1, h2⟩ => ⟨m, subst_inst hσ h1, h2⟩
  | .ff _, h => subst_inst hσ h
  | .rng _ _, ⟨m, h1, h2⟩ => ⟨m, subst_inst hσ h1, h2⟩
  | .same _ _, ⟨d, h1, h2⟩ => ⟨d, subst_inst hσ h1, subst_inst hσ h2⟩
  | .pr _ _, ⟨xs, h1, h2⟩ => ⟨xs, dens_inst hσ h1, h2⟩
  | .sort true _, ⟨f, h⟩ => ⟨f, subst_inst hσ h⟩
  | .sort false _, ⟨m, h⟩ => ⟨m, subst_inst hσ h⟩
  | .col _ _ _ _, ⟨f, h1, h2⟩ => ⟨f, subst_inst hσ h1, h2⟩
  | .agr _ _ _ _, ⟨f, g, k, h1, h2, h3, h4⟩ => ⟨f, g, k, subst_inst hσ h1, subst_inst hσ h2, subst_inst hσ h3, h4⟩
  | .byt _ _, ⟨f, k, h1, h2, h3⟩ => ⟨f, k, subst_inst hσ h1, subst_inst hσ h2, h3⟩

/-- g' is the pattern's own state, g2 the caller's. -/
structure Inst (I : Itp) (u : Fix) (g' g2 : G) : Prop where
  nv : u.nv = 0
  σ : dens I g2.env u.σ = some g'.env
  φ : ∀ b p, g'.φ b = some p → ∃ c, u.img b = some c ∧ g2.φ c = some p

section
variable {u : Fix} {g' g2 : G}

mutual
theorem Inst.rel (hi : Inst I u g' g2) : ∀ {p : AV} {x : Value}, Rel I g' p x → Rel I g2 (u.inst p) x := by
  intro p x h
  have he : ∀ {e : E} {d : D}, e.den I g'.env = some d → (u.e e).den I g2.env = some d := fun h => by unfold Fix.e; rw [hi.nv]; exact subst_inst hi.σ h
  match p with
  | .any => simp [Fix.inst, Rel]
  | .undef => simpa [Fix.inst, Rel] using h
  | .bool e => obtain ⟨n, h1, h2⟩ := h; exact ⟨n, he h1, h2⟩
  | .int k e => obtain ⟨n, h1, h2⟩ := h; exact ⟨n, he h1, h2⟩
  | .nilptr => simpa [Fix.inst, Rel] using h
  | .ptr b r s k =>
    obtain ⟨n, p, h1, h2, h3, h4⟩ := h
    obtain ⟨c, hc, hc'⟩ := hi.φ b p h3
    exact ⟨n, p, he h1, h2, by rw [hc]; exact hc', h4⟩
  | .nilslice => simpa [Fix.inst, Rel] using h
  | .slice b lo n s nl =>
    obtain ⟨l, m, h1, h2, h3, h4, h5⟩ := h
    refine ⟨l, m, he h1, he h2, h3, h4, ?_⟩
    rcases h5 with ⟨p, cap, h5, h6⟩ | h5
    · obtain ⟨c, hc, hc'⟩ := hi.φ b p h5
      exact .inl ⟨p, cap, by rw [hc]; exact hc', h6⟩
    · exact .inr h5
  | .func f l => obtain ⟨cs, h1, h2⟩ := h; exact ⟨cs, h1, Inst.rels hi h2⟩
  | .yld b =>
    obtain ⟨p, h1, h2⟩ := h
    obtain ⟨c, hc, hc'⟩ := hi.φ b p h1
    exact ⟨p, by rw [hc]; exact hc', h2⟩
  | .nilfunc => simpa [Fix.inst, Rel] using h
  | .agg l => obtain ⟨cs, h1, h2⟩ := h; exact ⟨cs, h1, Inst.rels hi h2⟩
  | .tup l => obtain ⟨cs, h1, h2⟩ := h; exact ⟨cs, h1, Inst.rels hi h2⟩
  | .big l ks t n m =>
    obtain ⟨f, xs, ys, zs, h1, h2, h3, h4, h5⟩ := h
    exact ⟨f, xs, ys, zs, he h1, h2, Inst.rels hi h3, Inst.rels hi h4, h5⟩
  | .cap0 => simpa [Fix.inst, Rel] using h
  | .empty => simpa [Fix.inst, Rel] using h
  | .asl b k n s =>
    obtain ⟨p, cap, h1, h2⟩ := h
    obtain ⟨c, hc, hc'⟩ := hi.φ b p h1
    exact ⟨p, cap, by rw [hc]; exact hc', h2⟩
  | .bfunc f l m => obtain ⟨ms, cs, h1, h2, h3⟩ := h; exact ⟨ms, cs, h1, Inst.rels hi h2, Inst.rels hi h3⟩
  | .gptr v k => simpa [Fix.inst, Rel] using h
  | .str l => simpa [Fix.inst, Rel] using h
  | .strT t n => obtain ⟨f, k, s, h1, h2, h3⟩ := h; exact ⟨f, k, s, he h1, he h2, h3⟩
  | .capN => simpa [Fix.inst, Rel] using h
  | .mref b =>
    obtain ⟨p, h1, h2⟩ := h
    obtain ⟨c, hc, hc'⟩ := hi.φ b p h1
    exact ⟨p, by rw [hc]; exact hc', h2⟩
  | .nilmap => simpa [Fix.inst, Rel] using h
  | .nilif => simpa [Fix.inst, Rel] using h
  | .sat e => obtain ⟨n, h1, h2⟩ := h; exact ⟨n, he h1, h2⟩
  | .ifo e => obtain ⟨n, h1, h2⟩ := h; exact ⟨n, he h1, h2⟩
theorem Inst.rels (hi : Inst I u g' g2) : ∀ {l : List AV} {xs : List Value}, Rels I g' l xs → Rels I g2 (u.insts l) xs := by
  intro l xs h
  match l, xs with
  | [], [] => simp [Fix.insts, Rels]
  | v :: l, x :: xs => exact ⟨Inst.rel hi h.1, Inst.rels hi h.2⟩
  | [], _ :: _ => simp [Rels] at h
  | _ :: _, [] => simp [Rels] at h
end

theorem Inst.trel (hi : Inst I u g' g2) {X : Nat → Prop} : ∀ {ts : Tmps} {xs : Array Value}, TRel I g' X ts xs → TRel I g2 X (u.instT ts) xs
  | [], xs, _ => fun t v h => by simp [Fix.instT, get_nil] at h
  | (t0, v0) :: ts, xs, h => by
    intro t v hv hX
    simp only [Fix.instT, get_cons] at hv
    split at hv
    · rename_i he; subst he
      simp at hv; subst hv
      obtain ⟨x, h1, h2⟩ := h t0 v0 (by simp [get_cons]) hX
      exact ⟨x, h1, Inst.rel hi h2⟩
    · rename_i he
      have hsub : ∀ {ts : Tmps} {t : Nat} {v : AV}, get (u.instT ts) t = some v → ∃ v', get ts t = some v' ∧ v = u.inst v' := by
        intro ts
        induction ts with
        | nil => intro t v h; simp [Fix.instT, get_nil] at h
        | cons q ts ih =>
          intro t v h
          obtain ⟨t1, v1⟩ := q
          simp only [Fix.instT, get_cons] at h ⊢
          split at h
          · rename_i he; rw [if_pos he]; simp at h; exact ⟨v1, rfl, h.symm⟩
          · rename_i he; rw [if_neg he]; exact ih h
      obtain ⟨v', h1, rfl⟩ := hsub hv
      obtain ⟨x, h2, h3⟩ := h t v' (by simp only [get_cons]; rw [if_neg he]; exact h1) hX
      exact ⟨x, h2, Inst.rel hi h3⟩

theorem insts_get : ∀ {l : List AV} {i : Nat} {v : AV}, (u.insts l)[i]? = some v → ∃ v', l[i]? = some v' ∧ v = u.inst v'
  | [], i, v, h => by simp [Fix.insts] at h
  | q :: l, i, v, h => by
    simp only [Fix.insts] at h
    cases i with
    | zero => simp at h; exact ⟨q, rfl, h.symm⟩
    | succ i => simpa using insts_get (l := l) (i := i) (by simpa using h)
theorem insts_length : ∀ {l : List AV}, (u.insts l).length = l.length
  | [] => rfl
  | q :: l => by simp [Fix.insts, insts_length (l := l)]

theorem Inst.brel (hi : Inst I u g' g2) {b c : Nat} (hb : u.img b = some c) (hbφ : ∀ p, g2.φ c = some p → g'.φ b = some p) {H : Nat → Option Obj} : ∀ {x : Blk}, BRel I P g' b H x → BRel I P g2 c H (u.instB x)
  | .cells l wr, ⟨p, cs, T, fr, h1, h2, h3, h4⟩ => by
    obtain ⟨c', hc, hc'⟩ := hi.φ b p h1
    rw [hb] at hc; cases hc
    refine ⟨p, cs, T, fr, hc', h2, fun i v hv => ?_, h4⟩
    have key : ∀ {l : List AV} {i : Nat} {v : AV}, (u.insts l)[i]? = some v → ∃ v', l[i]? = some v' ∧ v = u.inst v' := by
      intro l
      induction l with
      | nil => intro i v h; simp [Fix.insts] at h
      | cons q l ih =>
        intro i v h
        simp only [Fix.insts] at h
        cases i with
        | zero => simp at h; exact ⟨q, rfl, h.symm⟩
        | succ i => simpa using ih (i := i) (by simpa using h)
    obtain ⟨v', h5, rfl⟩ := key hv
    obtain ⟨x, h6, h7⟩ := h3 i v' h5
    exact ⟨x, h6, Inst.rel hi h7⟩
  | .rows ks t n wr nl, ⟨f, m, h1, h2, h3, h4⟩ => by
    have he : ∀ {e : E} {d : D}, e.den I g'.env = some d → (u.e e).den I g2.env = some d := fun h => by unfold Fix.e; rw [hi.nv]; exact subst_inst hi.σ h
    refine ⟨f, m, he h1, he h2, h3, ?_⟩
    rcases h4 with ⟨p, cs, T, fr, h4, h5⟩ | ⟨h4, h5, h6⟩
    · obtain ⟨c', hc, hc'⟩ := hi.φ b p h4
      rw [hb] at hc; cases hc
      exact .inl ⟨p, cs, T, fr, hc', h5⟩
    · refine .inr ⟨h4, h5, ?_⟩
      cases hq : g2.φ c with
      | none => rfl
      | some p => rw [hbφ p hq] at h6; cases h6
  | .big l ks t n m wr, ⟨p, cs, T, fr, f, h1, h2, h3, h4, h5, h6, h7⟩ => by
    obtain ⟨c', hc, hc'⟩ := hi.φ b p h1
    rw [hb] at hc; cases hc
    have he : ∀ {e : E} {d : D}, e.den I g'.env = some d → (u.e e).den I g2.env = some d := fun h => by unfold Fix.e; rw [hi.nv]; exact subst_inst hi.σ h
    refine ⟨p, cs, T, fr, f, hc', h2, he h3, fun i v hv => ?_, by rw [insts_length]; exact h5, fun i v hv => ?_, h7⟩
    · obtain ⟨v', h8, rfl⟩ := insts_get hv
      obtain ⟨x, h9, h10⟩ := h4 i v' h8
      exact ⟨x, h9, Inst.rel hi h10⟩
    · obtain ⟨v', h8, rfl⟩ := insts_get hv
      obtain ⟨x, h9, h10⟩ := h6 i v' h8
      exact ⟨x, by rw [insts_length]; exact h9, Inst.rel hi h10⟩
  | .loop st pend f ix nt ts d, ⟨p, q, r, rf, h1, h2, h3, h4, h5, h6, h7, h8, h9, h10, h11, h12⟩ => by
    obtain ⟨c', hc, hc'⟩ := hi.φ b p h1
    rw [hb] at hc; cases hc
    obtain ⟨d', hd, hd'⟩ := hi.φ d q h2
    exact ⟨p, q, r, rf, hc', by rw [hd]; exact hd', h3, h4, h5, h6, h7, h8, h9, h10, h11, Inst.trel hi h12⟩
  | .dfr sh, ⟨p, h1, h2⟩ => by
    obtain ⟨c', hc, hc'⟩ := hi.φ b p h1
    rw [hb] at hc; cases hc
    exact ⟨p, hc', h2⟩
  | .mp l m, ⟨p, es, k, h1, h2, h3, h4⟩ => by
    obtain ⟨c', hc, hc'⟩ := hi.φ b p h1
    rw [hb] at hc; cases hc
    exact ⟨p, es, k, hc', h2, Inst.rels hi h3, Inst.rels hi h4⟩

theorem instB_wr (x : Blk) : (u.instB x).wr = x.wr := by cases x <;> rfl

theorem get_instM : ∀ {M : Mem} {c : Nat} {y : Blk}, get (u.instM M) c = some y → ∃ b x, get M b = some x ∧ (u.img b).getD 0 = c ∧ y = u.instB x := by
  intro M
  induction M with
  | nil => intro c y h; simp [Fix.instM, get_nil] at h
  | cons q M ih =>
    intro c y h
    obtain ⟨b0, x0⟩ := q
    simp only [Fix.instM, get_cons] at h
    split at h
    · rename_i he
      simp at h
      exact ⟨b0, x0, by simp [get_cons], he, h.symm⟩
    · rename_i hne
      obtain ⟨b, x, h1, h2, h3⟩ := ih h
      refine ⟨b, x, ?_, h2, h3⟩
      simp only [get_cons]
      rw [if_neg]
      · exact h1
      · rintro rfl
        exact hne h2
end

theorem get_idsFrom (n m b : Nat) : ∀ k, get (idsFrom n m k) b = if n ≤ b ∧ b < n + k then some (some (m + (b - n))) else none
  | 0 => by simp [idsFrom, get_nil]
  | k + 1 => by
    simp only [idsFrom, get_cons]
    by_cases h : n + k = b
    · subst h; simp
    · rw [if_neg h, get_idsFrom n m b k]
      by_cases h2 : n ≤ b ∧ b < n + k
      · rw [if_pos h2, if_pos (by omega)]
      · rw [if_neg h2, if_neg (by omega)]

theorem get_app {α : Type} (u : Nat) : ∀ (l m : List (Nat × α)), get (l ++ m) u = match get l u with | some x => some x | none => get m u
  | [], m => rfl
  | (k, v) :: l, m => by
    simp only [List.cons_append, get_cons]
    split
    · rfl
    · exact get_app u l m

theorem dens_app {env : List D} : ∀ {l m : List E} {xs ys : List D}, dens I env l = some xs → dens I env m = some ys → dens I env (l ++ m) = some (xs ++ ys)
  | [], m, xs, ys, h, h' => by simp [dens] at h; subst h; simpa using h'
  | e :: l, m, xs, ys, h, h' => by
    simp only [dens] at h
    split at h
    · rename_i d ds h1 h2
      simp at h; subst h
      simp [dens, h1, dens_app h2 h']
    · cases h
theorem dens_more {env zs : List D} : ∀ {l : List E} {xs : List D}, dens I env l = some xs → dens I (env ++ zs) l = some xs
  | [], xs, h => h
  | e :: l, xs, h => by
    simp only [dens] at h ⊢
    split at h
    · rename_i d ds h1 h2; rw [E.den_more h1, dens_more h2]; exact h
    · cases h
theorem dens_vars {env outs : List D} : ∀ k, k ≤ outs.length → dens I (env ++ outs) (varsFrom env.length k) = some (outs.take k)
  | 0, _ => by simp [varsFrom, dens]
  | k + 1, h => by
    have h1 := dens_vars (env := env) (outs := outs) k (by omega)
    have h2 : dens I (env ++ outs) [E.var (env.length + k)] = some [outs[k]] := by
      simp [dens, E.den, List.getElem?_append_right, List.getElem?_eq_getElem (show k < outs.length by omega)]
    simp only [varsFrom]
    rw [dens_app h1 h2]
    rw [List.take_add_one, List.getElem?_eq_getElem (show k < outs.length by omega)]; rfl

theorem MRel.reamb {c : Contract} (h : MRel A I P g c.mem w) : MRel (c.amb g w) I P g c.mem w :=
  ⟨h.wf, h.blk, h.lt, h.inj, h.bnd, fun b x p hx hw hp => .inl ⟨b, x, p, hx, hw, hp, rfl⟩, Nat.le_refl _, fun _ _ _ => rfl, rfl, rfl⟩

theorem mem_wrOf : ∀ {M : Mem} {b : Nat} {x : Blk}, get M b = some x → x.wr = true → b ∈ wrOf M
  | [], b, x, h, _ => by simp [get_nil] at h
  | (b0, x0) :: M, b, x, h, hw => by
    simp only [get_cons] at h
    simp only [wrOf]
    split at h
    · rename_i he; subst he; simp at h; subst h; rw [if_pos hw]; simp
    · have := mem_wrOf h hw
      split <;> simp [this]
theorem mem_imgL {u : Fix} : ∀ {l : List Nat} {b c : Nat}, b ∈ l → u.img b = some c → c ∈ u.imgL l
  | [], b, c, h, _ => by simp at h
  | b0 :: l, b, c, h, hc => by
    simp only [Fix.imgL]
    simp at h
    rcases h with rfl | h
    · rw [hc]; simp
    · have := mem_imgL h hc
      split <;> simp [this]
theorem get_key {α : Type} : ∀ {l : List (Nat × α)} {b : Nat} {x : α}, get l b = some x → b ∈ keys l ∧ (b, x) ∈ l
  | [], b, x, h => by simp [get_nil] at h
  | (k, v) :: l, b, x, h => by
    simp only [get_cons] at h
    split at h
    · rename_i he; subst he; simp at h; subst h; simp [keys]
    · obtain ⟨h1, h2⟩ := get_key h
      simp only [keys] at h1 ⊢
      exact ⟨by simp [h1], by simp [h2]⟩

theorem applyC_sound {cx : Cx} {c : Contract} (hG : GOk cx.kn.globs A) (hc : COk I cx.P cx.kn.globs c) {args : List AV} {s : St} {k : AV → St → Tree} {xs : List Value} (h : (applyC c args s k).vc I g.env) (hs : SRel A I cx.P X g s a w) (ha : Rels I g args xs) :
    Calls cx.P c.fn xs.toArray w fun e w' => ∃ v, e = .returned v ∧ CPost A I cx.P X g a k v w' := by
  unfold applyC at h
  simp only at h
  split at h
  · exact h.elim
  rename_i hcond
  simp only [Bool.or_eq_true, Bool.not_eq_true', decide_eq_false_iff_not, not_or, Bool.not_eq_false, Decidable.not_not] at hcond
  obtain ⟨⟨⟨hle, hlen⟩, hform⟩, hsome⟩ := hcond
  generalize hu : matchSt 0 0 c.sorts.length c.nb { tmps := [(0, .agg c.args)], nt := 0, defers := [], mem := c.mem, nv := 0, nb := 0 } { tmps := [(0, .agg args)], nt := 0, defers := [], mem := s.mem, nv := 0, nb := 0 } = u at *
  have hu1 : u.nv = 0 := by rw [← hu]; rfl
  have hu2 : u.nb = 0 := by rw [← hu]; rfl
  have hu3 : u.kb = c.nb := by rw [← hu]; exact Nat.zero_add _
  simp only [Fix.leS, Bool.and_eq_true, beq_iff_eq] at hle
  obtain ⟨⟨⟨⟨_, _⟩, hleT⟩, hleM⟩, hok⟩ := hle
  obtain ⟨hps, hbody⟩ := mkAsserts_vc h
  obtain ⟨ds, hds, hso⟩ := sortPs_sorts hlen (fun p hp => hps p (by simp [hp]))
  have hfit : u.Fits I g ds := ⟨hds, by omega, by omega⟩
  have henv : (u.view g ds).env = ds := by simp [Fix.view, hu1]
  have hmr := Fix.mrel hfit hs.m hleM hok
  have harg : Rels I (u.view g ds) c.args xs := by
    have h0 : TRel I g (fun _ => False) [(0, .agg args)] #[Value.agg xs.toArray] := fun t v hv _ => by
      simp only [get_cons] at hv
      split at hv
      · rename_i he; subst he; simp at hv; subst hv; exact ⟨_, rfl, _, rfl, by simpa using ha⟩
      · cases hv
    obtain ⟨x, hx, cs, hcs, hr⟩ := Fix.leT_rel hfit hleT h0 0 (.agg c.args) (by simp [get_cons]) (fun h => h)
    simp at hx; subst hx
    cases hcs
    simpa using hr
  have hpre : ∀ p ∈ c.pre, p.den I (u.view g ds).env := fun p hp => by
    have := PE.subst_den (n := 0) hds (by omega) (hps (p.subst 0 u.σ) (by simp; exact .inr ⟨p, hp, rfl⟩))
    rw [henv]; simpa using this
  have hGc : GOk cx.kn.globs (c.amb (u.view g ds) w) := fun x hx => by
    obtain ⟨h1, h2, cs, T, fr, h3, h4⟩ := hG x hx
    refine ⟨Nat.lt_of_lt_of_le h1 hs.m.size, ?_, cs, T, fr, by rw [← h3]; exact hs.m.keep _ h1 h2, h4⟩
    rintro ⟨b, y, p, h5, h6, h7, h8⟩
    rcases Fix.leM_get hleM h5 with ⟨c', z, h9, h10, h11⟩ | ⟨h9, _⟩
    · rw [Fix.view_φ h9] at h7
      rcases hs.m.own c' z p h10 (Fix.leB_wr h11 h6) h7 with h12 | h12
      · rw [h8] at h12; exact h2 h12
      · omega
    · simp [Fix.view, h9] at h7
  refine (hc (u.view g ds) w xs (by rw [henv]; exact hso) hu3 hGc hmr.reamb harg hpre).mono fun e w' he => ?_
  obtain ⟨v, outs, g', rfl, hout, henv', hnb', hφ', hres, hm', hpost⟩ := he
  refine ⟨v, rfl, ?_⟩
  -- the caller's state behind the call
  let nf := c.fresh.length
  let u2 : Fix := { nv := 0, nb := 0, kb := c.nb + nf, σ := u.σ ++ varsFrom s.nv c.outs.length, ρ := idsFrom c.nb s.nb nf ++ u.ρ }
  let g2 : G := { env := g.env ++ outs, φ := fun b => if b < g.nb then g.φ b else if b < g.nb + nf then g'.φ (c.nb + (b - g.nb)) else none, nb := g.nb + nf }
  have hle2 : g.Le g2 := ⟨⟨outs, rfl⟩, Nat.le_add_right _ _, fun b hb => by simp only [g2]; rw [if_pos hb]⟩
  have himg1 : ∀ b, b < c.nb → u2.img b = u.img b := fun b hb => by
    simp only [Fix.img, u2, hu2, hu3, Nat.not_lt_zero, if_false]
    rw [if_pos (by omega), if_pos hb, get_app, get_idsFrom, if_neg (by omega)]
  have himg2 : ∀ b, c.nb ≤ b → b < c.nb + nf → u2.img b = some (s.nb + (b - c.nb)) := fun b h1 h2 => by
    simp only [Fix.img, u2, Nat.not_lt_zero, if_false]
    rw [if_pos h2, get_app, get_idsFrom, if_pos ⟨h1, h2⟩]
    rfl
  have hinst : Inst I u2 g' g2 := by
    refine ⟨rfl, ?_, fun b p hp => ?_⟩
    · rw [henv', henv]
      have h1 := dens_vars (I := I) (env := g.env) (outs := outs) c.outs.length (by rw [hout.length]; exact Nat.le_refl _)
      rw [hs.nv] at h1
      have h2 : outs.take c.outs.length = outs := by rw [← hout.length, List.take_length]
      rw [h2] at h1
      exact dens_app (dens_more hds) h1
    · have hb := hm'.wf.lt hp
      rw [hnb'] at hb
      by_cases hbc : b < c.nb
      · rw [hφ' b hbc] at hp
        simp only [Fix.view] at hp
        cases hi : u.img b with
        | none => rw [hi] at hp; cases hp
        | some c' =>
          rw [hi] at hp
          have hp' : g.φ c' = some p := hp
          exact ⟨c', by rw [himg1 b hbc]; exact hi, hle2.some hs.m.wf hp'⟩
      · refine ⟨_, himg2 b (by omega) hb, ?_⟩
        simp only [g2]
        rw [if_neg (by rw [hs.nb]; omega), if_pos (by rw [hs.nb]; omega), hs.nb, ← hp]
        congr 1; omega
  simp only [Contract.form, Bool.and_eq_true, List.all_eq_true, decide_eq_true_eq, List.contains_iff_mem] at hform
  obtain ⟨⟨hfresh, hmods⟩, hwr⟩ := hform
  -- the blocks that the callee may write are the caller's
  have hX : ∀ i, (c.amb (u.view g ds) w).X i → ∃ b x p, get s.mem b = some x ∧ x.wr = true ∧ g.φ b = some p ∧ p.blk = i ∧ b ∈ u.imgL (wrOf c.mem) := by
    rintro i ⟨b, x, p, h1, h2, h3, h4⟩
    rcases Fix.leM_get hleM h1 with ⟨c', y, h5, h6, h7⟩ | ⟨h5, _⟩
    · rw [Fix.view_φ h5] at h3
      exact ⟨c', y, p, h6, Fix.leB_wr h7 h2, h3, h4, mem_imgL (mem_wrOf h1 h2) h5⟩
    · simp [Fix.view, h5] at h3
  have hkeepw : ∀ b y p, get s.mem b = some y → b ∉ u.imgL (wrOf c.mem) → g.φ b = some p → w'.heap[p.blk]? = w.heap[p.blk]? := fun b y p h1 h2 h3 =>
    hm'.keep p.blk (hs.m.bnd b p h3) fun hx => by
      obtain ⟨b', x', p', h4, hw4, h5, h6, h7⟩ := hX _ hx
      have := hs.m.inj b' b x' y p' p h4 h1 hw4 h5 h3 h6
      subst this; exact h2 h7
  -- an entry is the callee's or the caller's
  have hent : ∀ b y, get (u2.instM c.fresh ++ (u2.instM c.mods ++ dels (u.imgL (wrOf c.mem)) s.mem)) b = some y →
      (∃ pb x, get (c.mods ++ c.fresh) pb = some x ∧ u2.img pb = some b ∧ y = u2.instB x ∧ b < g2.nb ∧ g2.φ b = g'.φ pb) ∨ (get s.mem b = some y ∧ b ∉ u.imgL (wrOf c.mem)) := by
    intro b y hb
    rw [get_app] at hb
    split at hb
    · rename_i y' hy'
      cases hb
      obtain ⟨pb, x, h1, h2, h3⟩ := get_instM hy'
      have hk := hfresh pb (get_key h1).1
      have hi := himg2 pb hk.1 hk.2
      rw [hi] at h2
      simp at h2
      refine .inl ⟨pb, x, ?_, by rw [hi, h2], h3, ?_, ?_⟩
      · rw [get_app]
        cases hg : get c.mods pb with
        | none => exact h1
        | some z =>
          exfalso
          have hm := hmods pb (get_key hg).1
          have hs' := List.all_eq_true.1 hsome pb hm
          cases hii : u.img pb with
          | none => rw [hii] at hs'; cases hs'
          | some q => have := Fix.img_lt hfit.kb hii; omega
      · simp only [g2]; rw [hs.nb]; omega
      · simp only [g2]
        rw [if_neg (by rw [hs.nb]; omega), if_pos (by rw [hs.nb]; omega)]
        congr 1
        rw [hs.nb]; omega
    · rw [get_app] at hb
      split at hb
      · rename_i y' hy'
        cases hb
        obtain ⟨pb, x, h1, h2, h3⟩ := get_instM hy'
        have hm := hmods pb (get_key h1).1
        have hs' := List.all_eq_true.1 hsome pb hm
        cases hii : u.img pb with
        | none => rw [hii] at hs'; cases hs'
        | some q =>
          have hlt : pb < c.nb := by have := Fix.img_lt hfit.kb hii; omega
          rw [himg1 pb hlt, hii] at h2
          simp at h2
          subst h2
          -- q is in the caller's memory
          have hq : q < g.nb := by
            have hwm : ∀ {M : Mem} {b : Nat}, b ∈ wrOf M → ∃ x, (b, x) ∈ M := by
              intro M
              induction M with
              | nil => intro b h; simp [wrOf] at h
              | cons z M ih =>
                intro b h
                obtain ⟨b0, x0⟩ := z
                simp only [wrOf] at h
                split at h
                · simp at h
                  rcases h with rfl | h
                  · exact ⟨x0, by simp⟩
                  · obtain ⟨x, hx⟩ := ih h; exact ⟨x, by simp [hx]⟩
                · obtain ⟨x, hx⟩ := ih h; exact ⟨x, by simp [hx]⟩
            have hgm : ∀ {M : Mem} {b : Nat} {x : Blk}, (b, x) ∈ M → ∃ x', get M b = some x' := by
              intro M
              induction M with
              | nil => intro b x h; simp at h
              | cons z M ih =>
                intro b x h
                obtain ⟨b0, x0⟩ := z
                simp only [get_cons]
                split
                · exact ⟨x0, rfl⟩
                · rename_i hne
                  simp at h
                  rcases h with ⟨rfl, _⟩ | h
                  · exact absurd rfl hne
                  · exact ih h
            obtain ⟨x1, hx1⟩ := hwm hm
            obtain ⟨x2, hx2⟩ := hgm hx1
            rcases Fix.leM_get hleM hx2 with ⟨c', y, h5, h6, _⟩ | ⟨h5, _⟩
            · rw [hii] at h5; cases h5; exact hs.m.lt _ _ h6
            · rw [hii] at h5; cases h5
          refine .inl ⟨pb, x, by rw [get_app, h1], by rw [himg1 pb hlt]; exact hii, h3, ?_, ?_⟩
          · simp only [g2]; omega
          · simp only [g2]
            rw [if_pos hq, hφ' pb hlt, Fix.view_φ hii]
      · obtain ⟨h1, h2⟩ := get_dels _ _ _ hb
        exact .inr ⟨h1, h2⟩
  have hcow : ∀ pb x p, get (c.mods ++ c.fresh) pb = some x → g'.φ pb = some p → (∃ b x p', get s.mem b = some x ∧ x.wr = true ∧ g.φ b = some p' ∧ p'.blk = p.blk ∧ b ∈ u.imgL (wrOf c.mem)) ∨ w.heap.size ≤ p.blk := fun pb x p h1 h2 => by
    rcases hm'.own pb x p h1 (hwr _ (get_key h1).2) h2 with h3 | h3
    · exact .inl (hX _ h3)
    · exact .inr h3
  have hmr2 : MRel A I cx.P g2 (u2.instM c.fresh ++ (u2.instM c.mods ++ dels (u.imgL (wrOf c.mem)) s.mem)) w' := by
    refine ⟨fun b hb => ?_, fun b y hb => ?_, fun b y hb => ?_, fun b d y z p q hy hz hwy hp hq e => ?_, fun b p hp => ?_, fun b y p hy hw hp => ?_, ?_, fun i hi hXi => ?_, ⟨hm'.same.1.trans hs.m.same.1, hm'.same.2.trans hs.m.same.2⟩⟩
    · simp only [g2] at hb ⊢
      rw [if_neg (by omega), if_neg (by omega)]
    · rcases hent b y hb with ⟨pb, x, h1, h2, rfl, h4, h5⟩ | ⟨h1, h2⟩
      · exact Inst.brel hinst h2 (fun p hp => by rw [← h5]; exact hp) (hm'.blk pb x h1)
      · exact ((hs.m.blk b y h1).le hle2 hs.m.wf (hs.m.lt b y h1)).heap fun p hp => by
          have hp' : g.φ b = some p := by rw [← hle2.φ b (hs.m.lt b y h1)]; exact hp
          exact hkeepw b y p h1 h2 hp'
    · rcases hent b y hb with ⟨_, _, _, _, _, h4, _⟩ | ⟨h1, _⟩
      · exact h4
      · have := hs.m.lt b y h1; simp only [g2]; omega
    · rcases hent b y hy with ⟨pb, x, h1, h2, rfl, _, h5⟩ | ⟨h1, h2⟩ <;> rcases hent d z hz with ⟨pd, x', h6, h7, rfl, _, h10⟩ | ⟨h6, h7⟩
      · rw [h5] at hp; rw [h10] at hq
        have := hm'.inj pb pd x x' p q h1 h6 (hwr _ (get_key h1).2) hp hq e
        subst this
        rw [h2] at h7; exact Option.some.inj h7
      · rw [h5] at hp
        rw [hle2.φ d (hs.m.lt d z h6)] at hq
        rcases hcow pb x p h1 hp with ⟨b', x', p', h11, hw11, h12, h13, h14⟩ | h11
        · have := hs.m.inj b' d x' z p' q h11 h6 hw11 h12 hq (by rw [h13, e])
          subst this; exact absurd h14 h7
        · have := hs.m.bnd d q hq; omega
      · rw [h10] at hq
        rw [hle2.φ b (hs.m.lt b y h1)] at hp
        rcases hcow pd x' q h6 hq with ⟨b', x', p', h11, hw11, h12, h13, h14⟩ | h11
        · have := hs.m.inj b' b x' y p' p h11 h1 hw11 h12 hp (by rw [h13, e])
          subst this; exact absurd h14 h2
        · have := hs.m.bnd b p hp; omega
      · rw [hle2.φ b (hs.m.lt b y h1)] at hp
        rw [hle2.φ d (hs.m.lt d z h6)] at hq
        exact hs.m.inj b d y z p q h1 h6 hwy hp hq e
    · simp only [g2] at hp
      split at hp
      · have h1 := hs.m.bnd b p hp
        have h2 := hm'.size
        exact Nat.lt_of_lt_of_le h1 h2
      · split at hp
        · exact hm'.bnd _ p hp
        · cases hp
    · rcases hent b y hy with ⟨pb, x, h1, h2, rfl, _, h5⟩ | ⟨h1, h2⟩
      · rw [h5] at hp
        rcases hcow pb x p h1 hp with ⟨b', x', p', h11, h12, h13, h14, _⟩ | h11
        · rw [← h14]; exact hs.m.own b' x' p' h11 h12 h13
        · right; exact Nat.le_trans hs.m.size h11
      · rw [hle2.φ b (hs.m.lt b y h1)] at hp
        exact hs.m.own b y p h1 hw hp
    · exact Nat.le_trans hs.m.size hm'.size
    · have h1 : w'.heap[i]? = w.heap[i]? := hm'.keep i (Nat.lt_of_lt_of_le hi hs.m.size) fun hx => by
        obtain ⟨b', x', p', h4, h5, h6, h7, _⟩ := hX _ hx
        rcases hs.m.own b' x' p' h4 h5 h6 with h8 | h8
        · rw [h7] at h8; exact hXi h8
        · omega
      rw [h1]; exact hs.m.keep i hi hXi
  have hb1 := havocs_vc hbody hout
  have hb2 := assumes_vc hb1 fun p hp => by
    simp only [List.mem_map] at hp
    obtain ⟨q, hq, rfl⟩ := hp
    exact PE.inst_den hinst.σ (hpost q hq)
  refine ⟨_, g2, { s with mem := u2.instM c.fresh ++ (u2.instM c.mods ++ dels (u.imgL (wrOf c.mem)) s.mem), nv := s.nv + c.outs.length, nb := s.nb + c.fresh.length }, hle2, Inst.rel hinst hres, ⟨hmr2, hs.t.le hle2 hs.m.wf, hs.nt, hs.d.le hle2 hs.m.wf, ?_, ?_⟩, hb2⟩
  · simp [g2, hs.nv, hout.length]
  · simp [g2, hs.nb, nf]
end Go.Sx
