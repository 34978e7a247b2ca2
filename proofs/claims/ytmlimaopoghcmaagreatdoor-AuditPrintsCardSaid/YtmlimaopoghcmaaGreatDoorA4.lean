/-
  A contract, and what it is worth to a caller. Conditions: none.
-/
import Derived.Test.YtmlimaopoghcmaaGreatDoorA3
import Derived.RangeFuncLeaves
import Derived.RangeFuncRecord
import Derived.Laws.Sem
import Derived.OrdersIn
import Derived.RangeFuncNested
import Derived.ProofKit
import Derived.WideKeyArgs
import Derived.OpenShut
import Derived.Below
import Derived.Shelf.Strings.BuilderF
import Derived.Lib.FrozenHead2
noncomputable section
namespace Go.Sx
open Go
variable {A : Amb} {I : Itp} {P : Program} {g : G} {X : Nat → Prop} {ts : Tmps} {a : Act} {M : Mem} {w : World}
def Contract.amb (c : Contract) (g : G) (w : World) : Amb := { w0 := w, X := fun i => ∃ b x p, get c.mem b = some x ∧ x.wr = true ∧ g.φ b = some p ∧ p.blk = i }
def COk (I : Itp) (P : Program) (gl : List Glob) (c : Contract) : Prop :=
  ∀ (g : G) (w : World) (xs : List Value), Sorts c.sorts g.env → g.nb = c.nb → GOk gl (c.amb g w) → MRel (c.amb g w) I P g c.mem w → Rels I g c.args xs → (∀ p ∈ c.pre, p.den I g.env) →
    Calls P c.fn xs.toArray w fun e w' => ∃ v outs g', e = .returned v ∧ Sorts c.outs outs ∧ g'.env = g.env ++ outs ∧ g'.nb = c.nb + c.fresh.length ∧ (∀ b, b < c.nb → g'.φ b = g.φ b) ∧
      Rel I g' c.res v ∧ MRel (c.amb g w) I P g' (c.mods ++ c.fresh) w' ∧ (∀ p ∈ c.post, p.den I g'.env)
theorem subst_inst {env ds : List D} {σ : List E} (hσ : dens I env σ = some ds) : ∀ {e : E} {d : D}, e.den I ds = some d → (e.subst 0 σ).den I env = some d := by
  intro e
  induction e with
  | lit x => intro d h; exact h
  | zt => intro d h; exact h
  | kt row => intro d h; exact h
  | bt b => intro d h; exact h
  | var i =>
    intro d h
    simp only [E.den] at h
    simp only [E.subst, Nat.not_lt_zero, if_false, Nat.sub_zero]
    have hi : i < σ.length := by
      have := (List.getElem?_eq_some_iff.1 h).1
      rwa [dens_length hσ] at this
    obtain ⟨d', h1, h2⟩ := dens_get hσ (List.getElem?_eq_getElem hi)
    rw [h] at h2; simp at h2; subst h2
    rw [List.getElem?_eq_getElem hi]; exact h1
  | bin o a b iha ihb =>
    intro d h
    simp only [E.subst, E.den] at h ⊢
    split at h
    · rename_i x y h1 h2; rw [iha h1, ihb h2]; exact h
    · cases h
  | wrap k a ih =>
    intro d h
    simp only [E.subst, E.den] at h ⊢
    split at h
    · rename_i x h1; rw [ih h1]; exact h
    · cases h
  | sel t r c iht ihr =>
    intro d h
    simp only [E.subst, E.den] at h ⊢
    split at h
    · rename_i x y h1 h2; rw [iht h1, ihr h2]; exact h
    · cases h
  | upd t r c v iht ihr ihv =>
    intro d h
    simp only [E.subst, E.den] at h ⊢
    split at h
    · rename_i x y z h1 h2 h3; rw [iht h1, ihr h2, ihv h3]; exact h
    · cases h
  | cat t n u iht ihn ihu =>
    intro d h
    simp only [E.subst, E.den] at h ⊢
    split at h
    · rename_i x y z h1 h2 h3; rw [iht h1, ihn h2, ihu h3]; exact h
    · cases h
  | sh t n iht ihn =>
    intro d h
    simp only [E.subst, E.den] at h ⊢
    split at h
    · rename_i x y h1 h2; rw [iht h1, ihn h2]; exact h
    · cases h
  | teq t n u m iht ihn ihu ihm =>
    intro d h
    simp only [E.subst, E.den] at h ⊢
    split at h
    · rename_i x y z v h1 h2 h3 h4; rw [iht h1, ihn h2, ihu h3, ihm h4]; exact h
    · cases h
  | fn j a b c d iha ihb ihc ihd =>
    intro x h
    simp only [E.subst, E.den] at h ⊢
    split at h
    · rename_i x1 x2 x3 x4 h1 h2 h3 h4; rw [iha h1, ihb h2, ihc h3, ihd h4]; exact h
    · cases h
theorem dens_inst {env ds : List D} {σ : List E} (hσ : dens I env σ = some ds) : ∀ {l : List E} {xs : List D}, dens I ds l = some xs → dens I env (l.map (E.subst 0 σ)) = some xs
  | [], xs, h => h
  | e :: l, xs, h => by
    simp only [List.map_cons, dens] at h ⊢
    split at h
    · rename_i d ds' h1 h2
      rw [subst_inst hσ h1, dens_inst hσ h2]; exact h
    · cases h
theorem PE.inst_den {env ds : List D} {σ : List E} (hσ : dens I env σ = some ds) : ∀ {p : PE}, p.den I ds → (p.subst 0 σ).den I env
  | .tt _, ⟨m, h1, h2⟩ => ⟨m, subst_inst hσ h1, h2⟩
  | .ff _, h => subst_inst hσ h
  | .rng _ _, ⟨m, h1, h2⟩ => ⟨m, subst_inst hσ h1, h2⟩
  | .same _ _, ⟨d, h1, h2⟩ => ⟨d, subst_inst hσ h1, subst_inst hσ h2⟩
  | .pr _ _, ⟨xs, h1, h2⟩ => ⟨xs, dens_inst hσ h1, h2⟩
  | .sort true _, ⟨f, h⟩ => ⟨f, subst_inst hσ h⟩
  | .sort false _, ⟨m, h⟩ => ⟨m, subst_inst hσ h⟩
  | .col _ _ _ _, ⟨f, h1, h2⟩ => ⟨f, subst_inst hσ h1, h2⟩
  | .agr _ _ _ _, ⟨f, g, k, h1, h2, h3, h4⟩ => ⟨f, g, k, subst_inst hσ h1, subst_inst hσ h2, subst_inst hσ h3, h4⟩
  | .byt _ _, ⟨f, k, h1, h2, h3⟩ => ⟨f, k, subst_inst hσ h1, subst_inst hσ h2, h3⟩
structure Inst (I : Itp) (u : Fix) (g' g2 : G) : Prop where
  nv : u.nv = 0
  σ : dens I g2.env u.σ = some g'.env
  φ : ∀ b p, g'.φ b = some p → ∃ c, u.img b = some c ∧ g2.φ c = some p
section
variable {u : Fix} {g' g2 : G}
mutual
theorem Inst.rel (hi : Inst I u g' g2) : ∀ {p : AV} {x : Value}, Rel I g' p x → Rel I g2 (u.inst p) x := by
  intro p x h
  have he : ∀ {e : E} {d : D}, e.den I g'.env = some d → (u.e e).den I g2.env = some d := fun h => by unfold Fix.e; rw [hi.nv]; exact subst_inst hi.σ h
  match p with
  | .any => simp [Fix.inst, Rel]
  | .undef => simpa [Fix.inst, Rel] using h
  | .bool e => obtain ⟨n, h1, h2⟩ := h; exact ⟨n, he h1, h2⟩
  | .int k e => obtain ⟨n, h1, h2⟩ := h; exact ⟨n, he h1, h2⟩
  | .nilptr => simpa [Fix.inst, Rel] using h
  | .ptr b r s k =>
    obtain ⟨n, p, h1, h2, h3, h4⟩ := h
    obtain ⟨c, hc, hc'⟩ := hi.φ b p h3
    exact ⟨n, p, he h1, h2, by rw [hc]; exact hc', h4⟩
  | .nilslice => simpa [Fix.inst, Rel] using h
  | .slice b lo n s nl =>
    obtain ⟨l, m, h1, h2, h3, h4, h5⟩ := h
    refine ⟨l, m, he h1, he h2, h3, h4, ?_⟩
    rcases h5 with ⟨p, cap, h5, h6⟩ | h5
    · obtain ⟨c, hc, hc'⟩ := hi.φ b p h5
      exact .inl ⟨p, cap, by rw [hc]; exact hc', h6⟩
    · exact .inr h5
  | .func f l => obtain ⟨cs, h1, h2⟩ := h; exact ⟨cs, h1, Inst.rels hi h2⟩
  | .yld b =>
    obtain ⟨p, h1, h2⟩ := h
    obtain ⟨c, hc, hc'⟩ := hi.φ b p h1
    exact ⟨p, by rw [hc]; exact hc', h2⟩
  | .nilfunc => simpa [Fix.inst, Rel] using h
  | .agg l => obtain ⟨cs, h1, h2⟩ := h; exact ⟨cs, h1, Inst.rels hi h2⟩
  | .tup l => obtain ⟨cs, h1, h2⟩ := h; exact ⟨cs, h1, Inst.rels hi h2⟩
  | .big l ks t n m =>
    obtain ⟨f, xs, ys, zs, h1, h2, h3, h4, h5⟩ := h
    exact ⟨f, xs, ys, zs, he h1, h2, Inst.rels hi h3, Inst.rels hi h4, h5⟩
  | .cap0 => simpa [Fix.inst, Rel] using h
  | .empty => simpa [Fix.inst, Rel] using h
  | .asl b k n s =>
    obtain ⟨p, cap, h1, h2⟩ := h
    obtain ⟨c, hc, hc'⟩ := hi.φ b p h1
    exact ⟨p, cap, by rw [hc]; exact hc', h2⟩
  | .bfunc f l m => obtain ⟨ms, cs, h1, h2, h3⟩ := h; exact ⟨ms, cs, h1, Inst.rels hi h2, Inst.rels hi h3⟩
  | .gptr v k => simpa [Fix.inst, Rel] using h
  | .str l => simpa [Fix.inst, Rel] using h
  | .strT t n => obtain ⟨f, k, s, h1, h2, h3⟩ := h; exact ⟨f, k, s, he h1, he h2, h3⟩
  | .capN => simpa [Fix.inst, Rel] using h
  | .mref b =>
    obtain ⟨p, h1, h2⟩ := h
    obtain ⟨c, hc, hc'⟩ := hi.φ b p h1
    exact ⟨p, by rw [hc]; exact hc', h2⟩
  | .nilmap => simpa [Fix.inst, Rel] using h
  | .nilif => simpa [Fix.inst, Rel] using h
  | .sat e => obtain ⟨n, h1, h2⟩ := h; exact ⟨n, he h1, h2⟩
  | .ifo e => obtain ⟨n, h1, h2⟩ := h; exact ⟨n, he h1, h2⟩
theorem Inst.rels (hi : Inst I u g' g2) : ∀ {l : List AV} {xs : List Value}, Rels I g' l xs → Rels I g2 (u.insts l) xs := by
  intro l xs h
  match l, xs with
  | [], [] => simp [Fix.insts, Rels]
  | v :: l, x :: xs => exact ⟨Inst.rel hi h.1, Inst.rels hi h.2⟩
  | [], _ :: _ => simp [Rels] at h
  | _ :: _, [] => simp [Rels] at h
end
theorem Inst.trel (hi : Inst I u g' g2) {X : Nat → Prop} : ∀ {ts : Tmps} {xs : Array Value}, TRel I g' X ts xs → TRel I g2 X (u.instT ts) xs
  | [], xs, _ => fun t v h => by simp [Fix.instT, get_nil] at h
  | (t0, v0) :: ts, xs, h => by
    intro t v hv hX
    simp only [Fix.instT, get_cons] at hv
    split at hv
    · rename_i he; subst he
      simp at hv; subst hv
      obtain ⟨x, h1, h2⟩ := h t0 v0 (by simp [get_cons]) hX
      exact ⟨x, h1, Inst.rel hi h2⟩
    · rename_i he
      have hsub : ∀ {ts : Tmps} {t : Nat} {v : AV}, get (u.instT ts) t = some v → ∃ v', get ts t = some v' ∧ v = u.inst v' := by
        intro ts
        induction ts with
        | nil => intro t v h; simp [Fix.instT, get_nil] at h
        | cons q ts ih =>
          intro t v h
          obtain ⟨t1, v1⟩ := q
          simp only [Fix.instT, get_cons] at h ⊢
          split at h
          · rename_i he; rw [if_pos he]; simp at h; exact ⟨v1, rfl, h.symm⟩
          · rename_i he; rw [if_neg he]; exact ih h
      obtain ⟨v', h1, rfl⟩ := hsub hv
      obtain ⟨x, h2, h3⟩ := h t v' (by simp only [get_cons]; rw [if_neg he]; exact h1) hX
      exact ⟨x, h2, Inst.rel hi h3⟩
theorem insts_get : ∀ {l : List AV} {i : Nat} {v : AV}, (u.insts l)[i]? = some v → ∃ v', l[i]? = some v' ∧ v = u.inst v'
  | [], i, v, h => by simp [Fix.insts] at h
  | q :: l, i, v, h => by
    simp only [Fix.insts] at h
    cases i with
    | zero => simp at h; exact ⟨q, rfl, h.symm⟩
    | succ i => simpa using insts_get (l := l) (i := i) (by simpa using h)
theorem insts_length : ∀ {l : List AV}, (u.insts l).length = l.length
  | [] => rfl
  | q :: l => by simp [Fix.insts, insts_length (l := l)]
theorem Inst.brel (hi : Inst I u g' g2) {b c : Nat} (hb : u.img b = some c) (hbφ : ∀ p, g2.φ c = some p → g'.φ b = some p) {H : Nat → Option Obj} : ∀ {x : Blk}, BRel I P g' b H x → BRel I P g2 c H (u.instB x)
  | .cells l wr, ⟨p, cs, T, fr, h1, h2, h3, h4⟩ => by
    obtain ⟨c', hc, hc'⟩ := hi.φ b p h1
    rw [hb] at hc; cases hc
    refine ⟨p, cs, T, fr, hc', h2, fun i v hv => ?_, h4⟩
    have key : ∀ {l : List AV} {i : Nat} {v : AV}, (u.insts l)[i]? = some v → ∃ v', l[i]? = some v' ∧ v = u.inst v' := by
      intro l
      induction l with
      | nil => intro i v h; simp [Fix.insts] at h
      | cons q l ih =>
        intro i v h
        simp only [Fix.insts] at h
        cases i with
        | zero => simp at h; exact ⟨q, rfl, h.symm⟩
        | succ i => simpa using ih (i := i) (by simpa using h)
    obtain ⟨v', h5, rfl⟩ := key hv
    obtain ⟨x, h6, h7⟩ := h3 i v' h5
    exact ⟨x, h6, Inst.rel hi h7⟩
  | .rows ks t n wr nl, ⟨f, m, h1, h2, h3, h4⟩ => by
    have he : ∀ {e : E} {d : D}, e.den I g'.env = some d → (u.e e).den I g2.env = some d := fun h => by unfold Fix.e; rw [hi.nv]; exact subst_inst hi.σ h
    refine ⟨f, m, he h1, he h2, h3, ?_⟩
    rcases h4 with ⟨p, cs, T, fr, h4, h5⟩ | ⟨h4, h5, h6⟩
    · obtain ⟨c', hc, hc'⟩ := hi.φ b p h4
      rw [hb] at hc; cases hc
      exact .inl ⟨p, cs, T, fr, hc', h5⟩
    · refine .inr ⟨h4, h5, ?_⟩
      cases hq : g2.φ c with
      | none => rfl
      | some p => rw [hbφ p hq] at h6; cases h6
  | .big l ks t n m wr, ⟨p, cs, T, fr, f, h1, h2, h3, h4, h5, h6, h7⟩ => by
    obtain ⟨c', hc, hc'⟩ := hi.φ b p h1
    rw [hb] at hc; cases hc
    have he : ∀ {e : E} {d : D}, e.den I g'.env = some d → (u.e e).den I g2.env = some d := fun h => by unfold Fix.e; rw [hi.nv]; exact subst_inst hi.σ h
    refine ⟨p, cs, T, fr, f, hc', h2, he h3, fun i v hv => ?_, by rw [insts_length]; exact h5, fun i v hv => ?_, h7⟩
    · obtain ⟨v', h8, rfl⟩ := insts_get hv
      obtain ⟨x, h9, h10⟩ := h4 i v' h8
      exact ⟨x, h9, Inst.rel hi h10⟩
    · obtain ⟨v', h8, rfl⟩ := insts_get hv
      obtain ⟨x, h9, h10⟩ := h6 i v' h8
      exact ⟨x, by rw [insts_length]; exact h9, Inst.rel hi h10⟩
  | .loop st pend f ix nt ts d, ⟨p, q, r, rf, h1, h2, h3, h4, h5, h6, h7, h8, h9, h10, h11, h12⟩ => by
    obtain ⟨c', hc, hc'⟩ := hi.φ b p h1
    rw [hb] at hc; cases hc
    obtain ⟨d', hd, hd'⟩ := hi.φ d q h2
    exact ⟨p, q, r, rf, hc', by rw [hd]; exact hd', h3, h4, h5, h6, h7, h8, h9, h10, h11, Inst.trel hi h12⟩
  | .dfr sh, ⟨p, h1, h2⟩ => by
    obtain ⟨c', hc, hc'⟩ := hi.φ b p h1
    rw [hb] at hc; cases hc
    exact ⟨p, hc', h2⟩
  | .mp l m, ⟨p, es, k, h1, h2, h3, h4⟩ => by
    obtain ⟨c', hc, hc'⟩ := hi.φ b p h1
    rw [hb] at hc; cases hc
    exact ⟨p, es, k, hc', h2, Inst.rels hi h3, Inst.rels hi h4⟩
  | .smp w one ks t n, ⟨p, es, k, f, h1, h2, h3, h4, h5⟩ => by
    obtain ⟨c', hc, hc'⟩ := hi.φ b p h1
    rw [hb] at hc; cases hc
    have he : ∀ {e : E} {d : D}, e.den I g'.env = some d → (u.e e).den I g2.env = some d := fun h => by unfold Fix.e; rw [hi.nv]; exact subst_inst hi.σ h
    exact ⟨p, es, k, f, hc', h2, he h3, he h4, h5⟩
  | .iter e q k, ⟨p, n, m, h1, h2, h3, h4, h5⟩ => by
    obtain ⟨c', hc, hc'⟩ := hi.φ b p h1
    rw [hb] at hc; cases hc
    have he : ∀ {e : E} {d : D}, e.den I g'.env = some d → (u.e e).den I g2.env = some d := fun h => by unfold Fix.e; rw [hi.nv]; exact subst_inst hi.σ h
    exact ⟨p, n, m, hc', h2, he h3, he h4, h5⟩
  | .bld T e d, ⟨p, n, x, y, h1, h2, h3, h4, h5, h6⟩ => by
    obtain ⟨c', hc, hc'⟩ := hi.φ b p h1
    rw [hb] at hc; cases hc
    have he : ∀ {e : E} {d : D}, e.den I g'.env = some d → (u.e e).den I g2.env = some d := fun h => by unfold Fix.e; rw [hi.nv]; exact subst_inst hi.σ h
    refine ⟨p, n, x, y, hc', h2, h3, he h4, h5, h6.imp id fun ⟨q, a, z⟩ => ?_⟩
    obtain ⟨d', hd, hd'⟩ := hi.φ d q a
    exact ⟨q, by rw [hd]; exact hd', z⟩
  | .byt T e, ⟨n, h1, h2⟩ => by
    have he : ∀ {e : E} {d : D}, e.den I g'.env = some d → (u.e e).den I g2.env = some d := fun h => by unfold Fix.e; rw [hi.nv]; exact subst_inst hi.σ h
    refine ⟨n, he h1, ?_⟩
    rcases h2 with ⟨h2, h3⟩ | ⟨q, cur, h2, h3⟩
    · refine .inl ⟨?_, h3⟩
      cases hq : g2.φ c with
      | none => rfl
      | some p => rw [hbφ p hq] at h2; cases h2
    · obtain ⟨c', hc, hc'⟩ := hi.φ b q h2
      rw [hb] at hc; cases hc
      exact .inr ⟨q, cur, hc', h3⟩
theorem get_instM : ∀ {M : Mem} {c : Nat} {y : Blk}, get (u.instM M) c = some y → ∃ b x, get M b = some x ∧ (u.img b).getD 0 = c ∧ y = u.instB x := by
  intro M
  induction M with
  | nil => intro c y h; simp [Fix.instM, get_nil] at h
  | cons q M ih =>
    intro c y h
    obtain ⟨b0, x0⟩ := q
    simp only [Fix.instM, get_cons] at h
    split at h
    · rename_i he
      simp at h
      exact ⟨b0, x0, by simp [get_cons], he, h.symm⟩
    · rename_i hne
      obtain ⟨b, x, h1, h2, h3⟩ := ih h
      refine ⟨b, x, ?_, h2, h3⟩
      simp only [get_cons]
      rw [if_neg]
      · exact h1
      · rintro rfl
        exact hne h2
end
theorem get_idsFrom (n m b : Nat) : ∀ k, get (idsFrom n m k) b = if n ≤ b ∧ b < n + k then some (some (m + (b - n))) else none
  | 0 => by simp [idsFrom, get_nil]
  | k + 1 => by
    simp only [idsFrom, get_cons]
    by_cases h : n + k = b
    · subst h; simp
    · rw [if_neg h, get_idsFrom n m b k]
      by_cases h2 : n ≤ b ∧ b < n + k
      · rw [if_pos h2, if_pos (by omega)]
      · rw [if_neg h2, if_neg (by omega)]
theorem get_app {α : Type} (u : Nat) : ∀ (l m : List (Nat × α)), get (l ++ m) u = match get l u with | some x => some x | none => get m u
  | [], m => rfl
  | (k, v) :: l, m => by
    simp only [List.cons_append, get_cons]
    split
    · rfl
    · exact get_app u l m
theorem dens_app {env : List D} : ∀ {l m : List E} {xs ys : List D}, dens I env l = some xs → dens I env m = some ys → dens I env (l ++ m) = some (xs ++ ys)
  | [], m, xs, ys, h, h' => by simp [dens] at h; subst h; simpa using h'
  | e :: l, m, xs, ys, h, h' => by
    simp only [dens] at h
    split at h
    · rename_i d ds h1 h2
      simp at h; subst h
      simp [dens, h1, dens_app h2 h']
    · cases h
theorem dens_more {env zs : List D} : ∀ {l : List E} {xs : List D}, dens I env l = some xs → dens I (env ++ zs) l = some xs
  | [], xs, h => h
  | e :: l, xs, h => by
    simp only [dens] at h ⊢
    split at h
    · rename_i d ds h1 h2; rw [E.den_more h1, dens_more h2]; exact h
    · cases h
theorem dens_vars {env outs : List D} : ∀ k, k ≤ outs.length → dens I (env ++ outs) (varsFrom env.length k) = some (outs.take k)
  | 0, _ => by simp [varsFrom, dens]
  | k + 1, h => by
    have h1 := dens_vars (env := env) (outs := outs) k (by omega)
    have h2 : dens I (env ++ outs) [E.var (env.length + k)] = some [outs[k]] := by
      simp [dens, E.den, List.getElem?_append_right, List.getElem?_eq_getElem (show k < outs.length by omega)]
    simp only [varsFrom]
    rw [dens_app h1 h2]
    rw [List.take_add_one, List.getElem?_eq_getElem (show k < outs.length by omega)]; rfl
theorem MRel.reamb {c : Contract} (h : MRel A I P g c.mem w) : MRel (c.amb g w) I P g c.mem w :=
  ⟨h.wf, h.blk, h.lt, h.inj, h.bnd, fun b x p hx hw hp => .inl ⟨b, x, p, hx, hw, hp, rfl⟩, Nat.le_refl _, fun _ _ _ => rfl, rfl, rfl⟩
theorem mem_wrOf : ∀ {M : Mem} {b : Nat} {x : Blk}, get M b = some x → x.wr = true → b ∈ wrOf M
  | [], b, x, h, _ => by simp [get_nil] at h
  | (b0, x0) :: M, b, x, h, hw => by
    simp only [get_cons] at h
    simp only [wrOf]
    split at h
    · rename_i he; subst he; simp at h; subst h; rw [if_pos hw]; simp
    · have := mem_wrOf h hw
      split <;> simp [this]
theorem mem_imgL {u : Fix} : ∀ {l : List Nat} {b c : Nat}, b ∈ l → u.img b = some c → c ∈ u.imgL l
  | [], b, c, h, _ => by simp at h
  | b0 :: l, b, c, h, hc => by
    simp only [Fix.imgL]
    simp at h
    rcases h with rfl | h
    · rw [hc]; simp
    · have := mem_imgL h hc
      split <;> simp [this]
theorem get_key {α : Type} : ∀ {l : List (Nat × α)} {b : Nat} {x : α}, get l b = some x → b ∈ keys l ∧ (b, x) ∈ l
  | [], b, x, h => by simp [get_nil] at h
  | (k, v) :: l, b, x, h => by
    simp only [get_cons] at h
    split at h
    · rename_i he; subst he; simp at h; subst h; simp [keys]
    · obtain ⟨h1, h2⟩ := get_key h
      simp only [keys] at h1 ⊢
      exact ⟨by simp [h1], by simp [h2]⟩
theorem applyC_sound {cx : Cx} {c : Contract} (hG : GOk cx.kn.globs A) (hc : COk I cx.P cx.kn.globs c) {args : List AV} {s : St} {k : AV → St → Tree} {xs : List Value} (h : (applyC c args s k).vc I g.env) (hs : SRel A I cx.P X g s a w) (ha : Rels I g args xs) :
    Calls cx.P c.fn xs.toArray w fun e w' => ∃ v, e = .returned v ∧ CPost A I cx.P X g a k v w' := by
  unfold applyC at h
  simp only at h
  split at h
  · exact h.elim
  rename_i hcond
  simp only [Bool.or_eq_true, Bool.not_eq_true', decide_eq_false_iff_not, not_or, Bool.not_eq_false, Decidable.not_not] at hcond
  obtain ⟨⟨⟨hle, hlen⟩, hform⟩, hsome⟩ := hcond
  generalize hu : matchSt 0 0 c.sorts.length c.nb { tmps := [(0, .agg c.args)], nt := 0, defers := [], mem := c.mem, nv := 0, nb := 0 } { tmps := [(0, .agg args)], nt := 0, defers := [], mem := s.mem, nv := 0, nb := 0 } = u at *
  have hu1 : u.nv = 0 := by rw [← hu]; rfl
  have hu2 : u.nb = 0 := by rw [← hu]; rfl
  have hu3 : u.kb = c.nb := by rw [← hu]; exact Nat.zero_add _
  simp only [Fix.leS, Bool.and_eq_true, beq_iff_eq] at hle
  obtain ⟨⟨⟨⟨_, _⟩, hleT⟩, hleM⟩, hok⟩ := hle
  obtain ⟨hps, hbody⟩ := mkAsserts_vc h
  obtain ⟨ds, hds, hso⟩ := sortPs_sorts hlen (fun p hp => hps p (by simp [hp]))
  have hfit : u.Fits I g ds := ⟨hds, by omega, by omega⟩
  have henv : (u.view g ds).env = ds := by simp [Fix.view, hu1]
  have hmr := Fix.mrel hfit hs.m hleM hok
  have harg : Rels I (u.view g ds) c.args xs := by
    have h0 : TRel I g (fun _ => False) [(0, .agg args)] #[Value.agg xs.toArray] := fun t v hv _ => by
      simp only [get_cons] at hv
      split at hv
      · rename_i he; subst he; simp at hv; subst hv; exact ⟨_, rfl, _, rfl, by simpa using ha⟩
      · cases hv
    obtain ⟨x, hx, cs, hcs, hr⟩ := Fix.leT_rel hfit hleT h0 0 (.agg c.args) (by simp [get_cons]) (fun h => h)
    simp at hx; subst hx
    cases hcs
    simpa using hr
  have hpre : ∀ p ∈ c.pre, p.den I (u.view g ds).env := fun p hp => by
    have := PE.subst_den (n := 0) hds (by omega) (hps (p.subst 0 u.σ) (by simp; exact .inr ⟨p, hp, rfl⟩))
    rw [henv]; simpa using this
  have hGc : GOk cx.kn.globs (c.amb (u.view g ds) w) := fun x hx => by
    obtain ⟨h1, h2, cs, T, fr, h3, h4⟩ := hG x hx
    refine ⟨Nat.lt_of_lt_of_le h1 hs.m.size, ?_, cs, T, fr, by rw [← h3]; exact hs.m.keep _ h1 h2, h4⟩
    rintro ⟨b, y, p, h5, h6, h7, h8⟩
    rcases Fix.leM_get hleM h5 with ⟨c', z, h9, h10, h11⟩ | ⟨h9, _⟩
    · rw [Fix.view_φ h9] at h7
      rcases hs.m.own c' z p h10 (Fix.leB_wr h11 h6) h7 with h12 | h12
      · rw [h8] at h12; exact h2 h12
      · omega
    · simp [Fix.view, h9] at h7
  refine (hc (u.view g ds) w xs (by rw [henv]; exact hso) hu3 hGc hmr.reamb harg hpre).mono fun e w' he => ?_
  obtain ⟨v, outs, g', rfl, hout, henv', hnb', hφ', hres, hm', hpost⟩ := he
  refine ⟨v, rfl, ?_⟩
  -- the caller's state behind the call
  let nf := c.fresh.length
  let u2 : Fix := { nv := 0, nb := 0, kb := c.nb + nf, σ := u.σ ++ varsFrom s.nv c.outs.length, ρ := idsFrom c.nb s.nb nf ++ u.ρ }
  let g2 : G := { env := g.env ++ outs, φ := fun b => if b < g.nb then g.φ b else if b < g.nb + nf then g'.φ (c.nb + (b - g.nb)) else none, nb := g.nb + nf }
  have hle2 : g.Le g2 := ⟨⟨outs, rfl⟩, Nat.le_add_right _ _, fun b hb => by simp only [g2]; rw [if_pos hb]⟩
  have himg1 : ∀ b, b < c.nb → u2.img b = u.img b := fun b hb => by
    simp only [Fix.img, u2, hu2, hu3, Nat.not_lt_zero, if_false]
    rw [if_pos (by omega), if_pos hb, get_app, get_idsFrom, if_neg (by omega)]
  have himg2 : ∀ b, c.nb ≤ b → b < c.nb + nf → u2.img b = some (s.nb + (b - c.nb)) := fun b h1 h2 => by
    simp only [Fix.img, u2, Nat.not_lt_zero, if_false]
    rw [if_pos h2, get_app, get_idsFrom, if_pos ⟨h1, h2⟩]
    rfl
  have hinst : Inst I u2 g' g2 := by
    refine ⟨rfl, ?_, fun b p hp => ?_⟩
    · rw [henv', henv]
      have h1 := dens_vars (I := I) (env := g.env) (outs := outs) c.outs.length (by rw [hout.length]; exact Nat.le_refl _)
      rw [hs.nv] at h1
      have h2 : outs.take c.outs.length = outs := by rw [← hout.length, List.take_length]
      rw [h2] at h1
      exact dens_app (dens_more hds) h1
    · have hb := hm'.wf.lt hp
      rw [hnb'] at hb
      by_cases hbc : b < c.nb
      · rw [hφ' b hbc] at hp
        simp only [Fix.view] at hp
        cases hi : u.img b with
        | none => rw [hi] at hp; cases hp
        | some c' =>
          rw [hi] at hp
          have hp' : g.φ c' = some p := hp
          exact ⟨c', by rw [himg1 b hbc]; exact hi, hle2.some hs.m.wf hp'⟩
      · refine ⟨_, himg2 b (by omega) hb, ?_⟩
        simp only [g2]
        rw [if_neg (by rw [hs.nb]; omega), if_pos (by rw [hs.nb]; omega), hs.nb, ← hp]
        congr 1; omega
  simp only [Contract.form, Bool.and_eq_true, List.all_eq_true, decide_eq_true_eq, List.contains_iff_mem] at hform
  obtain ⟨⟨hfresh, hmods⟩, hwr⟩ := hform
  -- the blocks that the callee may write are the caller's
  have hX : ∀ i, (c.amb (u.view g ds) w).X i → ∃ b x p, get s.mem b = some x ∧ x.wr = true ∧ g.φ b = some p ∧ p.blk = i ∧ b ∈ u.imgL (wrOf c.mem) := by
    rintro i ⟨b, x, p, h1, h2, h3, h4⟩
    rcases Fix.leM_get hleM h1 with ⟨c', y, h5, h6, h7⟩ | ⟨h5, _⟩
    · rw [Fix.view_φ h5] at h3
      exact ⟨c', y, p, h6, Fix.leB_wr h7 h2, h3, h4, mem_imgL (mem_wrOf h1 h2) h5⟩
    · simp [Fix.view, h5] at h3
  have hkeepw : ∀ b y p, get s.mem b = some y → b ∉ u.imgL (wrOf c.mem) → g.φ b = some p → w'.heap[p.blk]? = w.heap[p.blk]? := fun b y p h1 h2 h3 =>
    hm'.keep p.blk (hs.m.bnd b p h3) fun hx => by
      obtain ⟨b', x', p', h4, hw4, h5, h6, h7⟩ := hX _ hx
      have := hs.m.inj b' b x' y p' p h4 h1 hw4 h5 h3 h6
      subst this; exact h2 h7
  -- an entry is the callee's or the caller's
  have hent : ∀ b y, get (u2.instM c.fresh ++ (u2.instM c.mods ++ dels (u.imgL (wrOf c.mem)) s.mem)) b = some y →
      (∃ pb x, get (c.mods ++ c.fresh) pb = some x ∧ u2.img pb = some b ∧ y = u2.instB x ∧ b < g2.nb ∧ g2.φ b = g'.φ pb) ∨ (get s.mem b = some y ∧ b ∉ u.imgL (wrOf c.mem)) := by
    intro b y hb
    rw [get_app] at hb
    split at hb
    · rename_i y' hy'
      cases hb
      obtain ⟨pb, x, h1, h2, h3⟩ := get_instM hy'
      have hk := hfresh pb (get_key h1).1
      have hi := himg2 pb hk.1 hk.2
      rw [hi] at h2
      simp at h2
      refine .inl ⟨pb, x, ?_, by rw [hi, h2], h3, ?_, ?_⟩
      · rw [get_app]
        cases hg : get c.mods pb with
        | none => exact h1
        | some z =>
          exfalso
          have hm := hmods pb (get_key hg).1
          have hs' := List.all_eq_true.1 hsome pb hm
          cases hii : u.img pb with
          | none => rw [hii] at hs'; cases hs'
          | some q => have := Fix.img_lt hfit.kb hii; omega
      · simp only [g2]; rw [hs.nb]; omega
      · simp only [g2]
        rw [if_neg (by rw [hs.nb]; omega), if_pos (by rw [hs.nb]; omega)]
        congr 1
        rw [hs.nb]; omega
    · rw [get_app] at hb
      split at hb
      · rename_i y' hy'
        cases hb
        obtain ⟨pb, x, h1, h2, h3⟩ := get_instM hy'
        have hm := hmods pb (get_key h1).1
        have hs' := List.all_eq_true.1 hsome pb hm
        cases hii : u.img pb with
        | none => rw [hii] at hs'; cases hs'
        | some q =>
          have hlt : pb < c.nb := by have := Fix.img_lt hfit.kb hii; omega
          rw [himg1 pb hlt, hii] at h2
          simp at h2
          subst h2
          -- q is in the caller's memory
          have hq : q < g.nb := by
            have hwm : ∀ {M : Mem} {b : Nat}, b ∈ wrOf M → ∃ x, (b, x) ∈ M := by
              intro M
              induction M with
              | nil => intro b h; simp [wrOf] at h
              | cons z M ih =>
                intro b h
                obtain ⟨b0, x0⟩ := z
                simp only [wrOf] at h
                split at h
                · simp at h
                  rcases h with rfl | h
                  · exact ⟨x0, by simp⟩
                  · obtain ⟨x, hx⟩ := ih h; exact ⟨x, by simp [hx]⟩
                · obtain ⟨x, hx⟩ := ih h; exact ⟨x, by simp [hx]⟩
            have hgm : ∀ {M : Mem} {b : Nat} {x : Blk}, (b, x) ∈ M → ∃ x', get M b = some x' := by
              intro M
              induction M with
              | nil => intro b x h; simp at h
              | cons z M ih =>
                intro b x h
                obtain ⟨b0, x0⟩ := z
                simp only [get_cons]
                split
                · exact ⟨x0, rfl⟩
                · rename_i hne
                  simp at h
                  rcases h with ⟨rfl, _⟩ | h
                  · exact absurd rfl hne
                  · exact ih h
            obtain ⟨x1, hx1⟩ := hwm hm
            obtain ⟨x2, hx2⟩ := hgm hx1
            rcases Fix.leM_get hleM hx2 with ⟨c', y, h5, h6, _⟩ | ⟨h5, _⟩
            · rw [hii] at h5; cases h5; exact hs.m.lt _ _ h6
            · rw [hii] at h5; cases h5
          refine .inl ⟨pb, x, by rw [get_app, h1], by rw [himg1 pb hlt]; exact hii, h3, ?_, ?_⟩
          · simp only [g2]; omega
          · simp only [g2]
            rw [if_pos hq, hφ' pb hlt, Fix.view_φ hii]
      · obtain ⟨h1, h2⟩ := get_dels _ _ _ hb
        exact .inr ⟨h1, h2⟩
  have hcow : ∀ pb x p, get (c.mods ++ c.fresh) pb = some x → g'.φ pb = some p → (∃ b x p', get s.mem b = some x ∧ x.wr = true ∧ g.φ b = some p' ∧ p'.blk = p.blk ∧ b ∈ u.imgL (wrOf c.mem)) ∨ w.heap.size ≤ p.blk := fun pb x p h1 h2 => by
    rcases hm'.own pb x p h1 (hwr _ (get_key h1).2) h2 with h3 | h3
    · exact .inl (hX _ h3)
    · exact .inr h3
  have hmr2 : MRel A I cx.P g2 (u2.instM c.fresh ++ (u2.instM c.mods ++ dels (u.imgL (wrOf c.mem)) s.mem)) w' := by
    refine ⟨fun b hb => ?_, fun b y hb => ?_, fun b y hb => ?_, fun b d y z p q hy hz hwy hp hq e => ?_, fun b p hp => ?_, fun b y p hy hw hp => ?_, ?_, fun i hi hXi => ?_, ⟨hm'.same.1.trans hs.m.same.1, hm'.same.2.trans hs.m.same.2⟩⟩
    · simp only [g2] at hb ⊢
      rw [if_neg (by omega), if_neg (by omega)]
    · rcases hent b y hb with ⟨pb, x, h1, h2, rfl, h4, h5⟩ | ⟨h1, h2⟩
      · exact Inst.brel hinst h2 (fun p hp => by rw [← h5]; exact hp) (hm'.blk pb x h1)
      · exact ((hs.m.blk b y h1).le hle2 hs.m.wf (hs.m.lt b y h1)).heap fun p hp => by
          have hp' : g.φ b = some p := by rw [← hle2.φ b (hs.m.lt b y h1)]; exact hp
          exact hkeepw b y p h1 h2 hp'
    · rcases hent b y hb with ⟨_, _, _, _, _, h4, _⟩ | ⟨h1, _⟩
      · exact h4
      · have := hs.m.lt b y h1; simp only [g2]; omega
    · rcases hent b y hy with ⟨pb, x, h1, h2, rfl, _, h5⟩ | ⟨h1, h2⟩ <;> rcases hent d z hz with ⟨pd, x', h6, h7, rfl, _, h10⟩ | ⟨h6, h7⟩
      · rw [h5] at hp; rw [h10] at hq
        have := hm'.inj pb pd x x' p q h1 h6 (hwr _ (get_key h1).2) hp hq e
        subst this
        rw [h2] at h7; exact Option.some.inj h7
      · rw [h5] at hp
        rw [hle2.φ d (hs.m.lt d z h6)] at hq
        rcases hcow pb x p h1 hp with ⟨b', x', p', h11, hw11, h12, h13, h14⟩ | h11
        · have := hs.m.inj b' d x' z p' q h11 h6 hw11 h12 hq (by rw [h13, e])
          subst this; exact absurd h14 h7
        · have := hs.m.bnd d q hq; omega
      · rw [h10] at hq
        rw [hle2.φ b (hs.m.lt b y h1)] at hp
        rcases hcow pd x' q h6 hq with ⟨b', x', p', h11, hw11, h12, h13, h14⟩ | h11
        · have := hs.m.inj b' b x' y p' p h11 h1 hw11 h12 hp (by rw [h13, e])
          subst this; exact absurd h14 h2
        · have := hs.m.bnd b p hp; omega
      · rw [hle2.φ b (hs.m.lt b y h1)] at hp
        rw [hle2.φ d (hs.m.lt d z h6)] at hq
        exact hs.m.inj b d y z p q h1 h6 hwy hp hq e
    · simp only [g2] at hp
      split at hp
      · have h1 := hs.m.bnd b p hp
        have h2 := hm'.size
        exact Nat.lt_of_lt_of_le h1 h2
      · split at hp
        · exact hm'.bnd _ p hp
        · cases hp
    · rcases hent b y hy with ⟨pb, x, h1, h2, rfl, _, h5⟩ | ⟨h1, h2⟩
      · rw [h5] at hp
        rcases hcow pb x p h1 hp with ⟨b', x', p', h11, h12, h13, h14, _⟩ | h11
        · rw [← h14]; exact hs.m.own b' x' p' h11 h12 h13
        · right; exact Nat.le_trans hs.m.size h11
      · rw [hle2.φ b (hs.m.lt b y h1)] at hp
        exact hs.m.own b y p h1 hw hp
    · exact Nat.le_trans hs.m.size hm'.size
    · have h1 : w'.heap[i]? = w.heap[i]? := hm'.keep i (Nat.lt_of_lt_of_le hi hs.m.size) fun hx => by
        obtain ⟨b', x', p', h4, h5, h6, h7, _⟩ := hX _ hx
        rcases hs.m.own b' x' p' h4 h5 h6 with h8 | h8
        · rw [h7] at h8; exact hXi h8
        · omega
      rw [h1]; exact hs.m.keep i hi hXi
  have hb1 := havocs_vc hbody hout
  have hb2 := assumes_vc hb1 fun p hp => by
    simp only [List.mem_map] at hp
    obtain ⟨q, hq, rfl⟩ := hp
    exact PE.inst_den hinst.σ (hpost q hq)
  refine ⟨_, g2, { s with mem := u2.instM c.fresh ++ (u2.instM c.mods ++ dels (u.imgL (wrOf c.mem)) s.mem), nv := s.nv + c.outs.length, nb := s.nb + c.fresh.length }, hle2, Inst.rel hinst hres, ⟨hmr2, hs.t.le hle2 hs.m.wf, hs.nt, hs.d.le hle2 hs.m.wf, ?_, ?_⟩, hb2⟩
  · simp [g2, hs.nv, hout.length]
  · simp [g2, hs.nb, nf]
end Go.Sx
noncomputable section
namespace Go.Sx
open Go
variable {A : Amb} {I : Itp} {P : Program} {g : G} {X : Nat → Prop} {ts : Tmps} {a : Act} {M : Mem} {w : World}
theorem callsIn_FW {r : Option Nat} {n : Nat} {f : FuncId} {args : Array Value} {R : Ending → World → Prop} : CallsIn (FW r) n P f args w R ↔ Calls P f args w R := by
  have : CallsIn (FW r) n P f args w R = CallsIn Fence.wide n P f args w R := rfl
  rw [this]; exact callsIn_wide
theorem run_callFunc {f : FuncId} {fn : Func} {c : Code} (hf : P.funcs[f]? = some fn) (hb : fn.body = some c) (hn : (fn.name == "runtime.NumGoroutine") = false) (args : Array Value) :
    (callFunc f args).run P w = .ok (.enter f args) w := by
  simp [callFunc, go_sem, hf, hb]
  intro h
  rw [h] at hn
  simp at hn
def rvSem (tmps : Array Value) : ResultVar → Sem Value
  | .tmp t => pure (tmps.getD t undef)
  | .cell b t => do loadVar t (← asAddr (tmps.getD b undef))
theorem resOf_run {s : St} (hm : MRel A I P g s.mem w) (ht : TRel I g (fun _ => False) s.tmps a.tmps) : ∀ {l : List ResultVar} {vs : List AV}, resOf P s l = some vs →
    ∃ xs, (l.mapM (rvSem a.tmps)).run P w = .ok xs w ∧ Rels I g vs xs
  | [], vs, h => by simp [resOf] at h; subst h; exact ⟨[], rfl, trivial⟩
  | .tmp t :: l, vs, h => by
    simp only [resOf] at h
    split at h
    · rename_i v vs' h1 h2
      simp at h; subst h
      obtain ⟨x, h3, h4⟩ := ht t v h1 (fun h => h)
      obtain ⟨xs, h5, h6⟩ := resOf_run hm ht h2
      refine ⟨x :: xs, ?_, h4, h6⟩
      simp [List.mapM_cons, rvSem, h5, Result.andThen, Array.getD_eq_getD_getElem?, h3]
    · cases h
  | .cell b t :: l, vs, h => by
    simp only [resOf] at h
    split at h
    · rename_i bl r z k ag n vs' h1 h2 h3 h4
      split at h
      · rename_i v hl
        simp at h; subst h
        obtain ⟨x, h5, h6⟩ := ht b _ h1 (fun h => h)
        obtain ⟨m, p, h7, h8, h9, rfl⟩ := h6
        obtain ⟨xs, h10, h11⟩ := resOf_run hm ht h4
        obtain ⟨y, h12, h13⟩ := loadAt_rel hm hl (fun q hq => by simp at hq) h7 h8 h9 h2 h3
        refine ⟨y :: xs, ?_, h13, h11⟩
        have h14 : (loadVar t ⟨p.blk, p.base + m.toNat * z + k, none⟩).run P w = .ok y w := by
          simpa [Instr.loadAt, Instr.sureAddr, Sem.run_bind, Result.andThen] using h12
        simp [List.mapM_cons, Sem.run_bind, rvSem, h10, Result.andThen, Array.getD_eq_getD_getElem?, h5, asAddr, h14]
      · cases h
    · cases h
theorem results_run {s : St} (hm : MRel A I P g s.mem w) (ht : TRel I g (fun _ => False) s.tmps a.tmps) {fn : Func} {vs : List AV} (h : resOf P s fn.results.toList = some vs) :
    ∃ v, (results fn a.tmps).run P w = .ok v w ∧ Rel I g (single vs) v := by
  obtain ⟨xs, h1, h2⟩ := resOf_run hm ht h
  have e : results fn a.tmps = (do let vs ← fn.results.mapM (rvSem a.tmps); pure (if h : vs.size = 1 then vs[0] else .tuple vs)) := by
    unfold results
    rfl
  rw [e, Array.mapM_eq_mapM_toList]
  have hrun : (Functor.map List.toArray (List.mapM (rvSem a.tmps) fn.results.toList)).run P w = .ok xs.toArray w := by
    rw [map_eq_pure_bind]
    simp [h1, Result.andThen]
  refine ⟨if h : xs.toArray.size = 1 then xs.toArray[0] else .tuple xs.toArray, ?_, ?_⟩
  · rw [Sem.run_bind, hrun]; simp [Result.andThen]
  · match vs, xs, h2 with
    | [], [], _ => simp [single, Rel, Rels]
    | [v], [x], h2 => simpa [single, Rels] using h2
    | v1 :: v2 :: vs, x1 :: x2 :: xs, h2 => simpa [single, Rel] using h2
    | [_], _ :: _ :: _, h2 => simp [Rels] at h2
    | _ :: _ :: _, [_], h2 => simp [Rels] at h2
theorem number_rel : ∀ {l : List AV} {xs : List Value} {n t : Nat} {v : AV}, Rels I g l xs → get (number n l) t = some v → ∃ x, n ≤ t ∧ xs[t - n]? = some x ∧ Rel I g v x
  | [], [], n, t, v, _, h => by simp [number, get_nil] at h
  | v0 :: l, x0 :: xs, n, t, v, hr, h => by
    simp only [number, get_cons] at h
    split at h
    · rename_i he; subst he; simp at h; subst h
      exact ⟨x0, Nat.le_refl _, by simp, hr.1⟩
    · obtain ⟨x, h1, h2, h3⟩ := number_rel hr.2 h
      refine ⟨x, by omega, ?_, h3⟩
      obtain ⟨k, rfl⟩ : ∃ k, t = n + 1 + k := ⟨t - (n + 1), by omega⟩
      rw [show n + 1 + k - n = (n + 1 + k - (n + 1)) + 1 by omega]
      simpa using h2
  | [], _ :: _, _, _, _, hr, _ => by simp [Rels] at hr
  | _ :: _, [], _, _, _, hr, _ => by simp [Rels] at hr
theorem enter_rel {s : St} {nt : Nat} {args : List AV} {xs : List Value} (hm : MRel A I P g s.mem w) (hnv : g.env.length = s.nv) (hnb : g.nb = s.nb) (ha : Rels I g args xs) (hlen : args.length ≤ nt) :
    SRel A I P (fun _ => False) g { s with tmps := number 0 args, nt := nt, defers := [] } { tmps := xs.toArray ++ Array.replicate (nt - xs.toArray.size) undef, defers := [] } w := by
  have hxs := ha.length
  refine ⟨hm, fun t v ht _ => ?_, ?_, trivial, hnv, hnb⟩
  · obtain ⟨x, _, h2, h3⟩ := number_rel ha ht
    have hlt : t < xs.length := by
      rcases Nat.lt_or_ge t xs.length with h | h
      · exact h
      · rw [List.getElem?_eq_none (by simpa using h)] at h2; cases h2
    exact ⟨x, by simp [Array.getElem?_append, hlt]; simpa [List.getElem?_eq_getElem hlt] using h2, h3⟩
  · simp; omega
theorem shut_leaves {cx : Cx} {e : Eng} (hE : EngSound I cx e) (hG : GOk cx.kn.globs A) {n : Nat} {fn : Func} {tmps : Array Value} {R : Ending → World → Prop} {k : St → Tree} : ∀ {l : List DV} {ds : List Deferred} {g : G} {s : St} {w : World},
    DRel I g l ds → MRel A I cx.P g s.mem w → TRel I g (fun _ => False) s.tmps tmps → g.env.length = s.nv → g.nb = s.nb → (shut cx e l s k).vc I g.env →
    (∀ g' s' w', g.Le g' → MRel A I cx.P g' s'.mem w' → TRel I g' (fun _ => False) s'.tmps tmps → g'.env.length = s'.nv → g'.nb = s'.nb → (k s').vc I g'.env → LeavesIn (FW none) n cx.P fn tmps R [] .returning w') →
    LeavesInM (FW none) n cx.P fn tmps R ds .returning w
  | [], [], g, s, w, _, hm, ht, hnv, hnb, h, hk => hk g s w (.refl _) hm ht hnv hnb h
  | .blk b :: l, d :: ds, g, s, w, ⟨⟨p, hp, hd⟩, hds⟩, hm, ht, hnv, hnb, h, hk => by
    simp only [shut] at h
    split at h
    · rename_i hg
      obtain ⟨p', hp', hh⟩ := hm.blk b _ hg
      rw [hp] at hp'; cases hp'
      refine ⟨by simp, .inl ⟨p.blk, _, by rw [hd], run_takeDeferred hh, ?_⟩⟩
      have hlt := hm.bnd b p hp
      exact shut_leaves hE hG (s := { s with mem := put b (.dfr false) s.mem }) hds (hm.write (y := .dfr false) hg rfl hp (by simp) (fun i hi => World.putObj_heap_other hi) ⟨p, hp, World.putObj_heap_same hlt⟩) ht hnv hnb h hk
    · exact h.elim
  | .fn f m cap :: l, d :: ds, g, s, w, ⟨⟨ms, cs, hd, hms, hcs⟩, hds⟩, hm, ht, hnv, hnb, h, hk => by
    simp only [shut] at h
    unfold deferF at h
    split at h
    rotate_left
    · exact h.elim
    rename_i fn' hf
    split at h
    rotate_left
    · exact h.elim
    rename_i c hb
    split at h
    · exact h.elim
    rename_i hname
    split at h
    rotate_left
    · exact h.elim
    rename_i hlen
    have ha : Rels I g (m ++ cap) (ms.toList ++ cs.toList) := hms.append hcs
    have hco : COK cx.P f 0 c := fun i rf hi => by simp [rfAt, hf, hb, hi]
    have hs0 := enter_rel hm hnv hnb ha hlen
    refine ⟨by simp, .inr ⟨fun h => by simp [FW, Fence.wide] at h, .func f, cs, f, ms ++ cs, by rw [hd], ?_, fun _ _ => trivial, ?_⟩⟩
    · rw [hd]
      have := run_callFunc (w := w) hf hb (by simpa using hname) (ms ++ cs)
      simpa [invoke] using this
    · have hargs : (ms.toList ++ cs.toList).toArray = ms ++ cs := by simp
      rw [hargs] at hs0
      refine (callsDIn_of_wp (R := fun e w' => ∃ v, e = .returned v ∧ LeavesInM (FW none) n cx.P fn tmps R ds .returning w') hf hb trivial ?_).mono fun e u' w' ⟨h1, v, h2, h3⟩ => by subst h1; subst h2; exact h3
      refine wpIn_mono (hE.exec hG (r := none) h hs0 trivial hco (n - 1)) fun ex a' w' hpost => ?_
      obtain ⟨x, g', s', rfl, hle, hs', hv⟩ := hpost
      have hall : x = .normal ∨ x = .ret → a'.defers = [] ∧ ∃ v, (results fn' a'.tmps).run cx.P w' = .ok v w' ∧ ∃ v', Ending.returned v = .returned v' ∧ LeavesInM (FW none) n cx.P fn tmps R ds .returning w' := by
        intro hx
        have hv' : (if s'.defers.isEmpty then match resOf cx.P s' fn'.results.toList with
              | some _ => shut cx e l { s with mem := s'.mem, nv := s'.nv, nb := s'.nb } k
              | none => .fail 30
            else .fail 37).vc I g'.env := by
          rcases hx with rfl | rfl <;> exact hv
        split at hv'
        · rename_i hemp
          split at hv'
          · rename_i vs hvs
            obtain ⟨v, h4, _⟩ := results_run hs'.m hs'.t hvs
            have hd0 : a'.defers = [] := by
              have := hs'.d
              rw [List.isEmpty_iff.1 hemp] at this
              cases hda : a'.defers with
              | nil => rfl
              | cons _ _ => rw [hda] at this; simp [DRel] at this
            refine ⟨hd0, v, h4, v, rfl, ?_⟩
            exact shut_leaves hE hG (s := { s with mem := s'.mem, nv := s'.nv, nb := s'.nb }) (hds.le hle hm.wf) hs'.m (ht.le hle hm.wf) hs'.nv hs'.nb hv'
              fun g2 s2 w2 hle2 => hk g2 s2 w2 (hle.trans hle2)
          · exact hv'.elim
        · exact hv'.elim
      cases x with
      | normal => exact hall (.inl rfl)
      | ret => exact hall (.inr rfl)
      | exit id => exact hv.elim
      | goto l => exact hv.elim
  | [], _ :: _, _, _, _, hd, _, _, _, _, _, _ => by simp [DRel] at hd
  | _ :: _, [], _, _, _, hd, _, _, _, _, _, _ => by simp [DRel] at hd
theorem get_filter {p : Nat → Bool} : ∀ {M : Mem} {b : Nat} {y : Blk}, get (M.filter fun x => p x.1) b = some y → get M b = some y
  | [], b, y, h => by simp [get_nil] at h
  | (b0, x0) :: M, b, y, h => by
    simp only [List.filter_cons] at h
    simp only [get_cons]
    by_cases he : b0 = b
    · subst he
      rw [if_pos rfl]
      split at h
      · simpa [get_cons] using h
      · rename_i hp
        exfalso
        have hno : ∀ {M : Mem}, get (M.filter fun x => p x.1) b0 = none := by
          intro M
          induction M with
          | nil => rfl
          | cons q M ih =>
            obtain ⟨b1, x1⟩ := q
            simp only [List.filter_cons]
            split
            · rename_i h1
              simp only [get_cons]
              rw [if_neg]
              · exact ih
              · rintro rfl; exact hp h1
            · exact ih
        rw [hno] at h; cases h
    · rw [if_neg he]
      split at h
      · simp only [get_cons] at h; rw [if_neg he] at h; exact get_filter h
      · exact get_filter h
theorem gc_get {nb nb' : Nat} {v : AV} {M : Mem} {b : Nat} {y : Blk} (h : get (gc nb nb' v M) b = some y) : get M b = some y := by
  unfold gc at h
  split at h
  · exact h
  · exact get_filter (p := fun b => decide (b < nb) || (mark nb M 2000 (refsOld nb M (v.refs nb [])) []).contains b) h
theorem gcR_get {nb : Nat} {s : St} {b : Nat} {y : Blk} (h : get (gcR nb s) b = some y) : get s.mem b = some y := by
  unfold gcR at h
  split at h
  · exact h
  · exact get_filter (p := fun b => decide (b < nb) || (mark nb s.mem 2000 (refsOld nb s.mem (refsT nb s.tmps (refsD nb s.defers []))) []).contains b) h
theorem findC_mem : ∀ {cs : List Contract} {f : FuncId} {args : List AV} {s : St} {c : Contract}, findC cs f args s = some c → c ∈ cs ∧ c.fn = f := by
  intro cs f args s c h
  unfold findC at h
  exact ⟨List.mem_of_find?_eq_some h, by have := List.find?_some h; simp only [Bool.and_eq_true, beq_iff_eq] at this; exact this.1⟩
theorem callF_sound {cx : Cx} {e : Eng} (hE : EngSound I cx e) (hG : GOk cx.kn.globs A) (hC : ∀ c ∈ cx.cs, COk I cx.P cx.kn.globs c) {f : FuncId} {args : List AV} {s : St} {k : AV → St → Tree} {xs : List Value}
    (h : (callF cx e f args s k).vc I g.env) (hs : SRel A I cx.P X g s a w) (ha : Rels I g args xs) :
    (∃ fn c, cx.P.funcs[f]? = some fn ∧ fn.body = some c ∧ (fn.name == "runtime.NumGoroutine") = false) ∧
      Calls cx.P f xs.toArray w fun e w' => ∃ v, e = .returned v ∧ CPost A I cx.P X g a k v w' := by
  unfold callF at h
  split at h
  · rename_i fn hf
    split at h
    · rename_i c hb
      split at h
      · exact h.elim
      rename_i hname
      refine ⟨⟨fn, c, hf, hb, by simpa using hname⟩, ?_⟩
      split at h
      · rename_i ct hct
        obtain ⟨h1, h2⟩ := findC_mem hct
        subst h2
        exact applyC_sound hG (hC ct h1) h hs ha
      · split at h
        · rename_i hlen
          rw [← callsIn_FW (r := none) (n := 0)]
          refine callsIn_of_wp_marks hf hb trivial ?_
          have hs0 := enter_rel hs.m hs.nv hs.nb ha hlen
          have hco : COK cx.P f 0 c := fun i rf hi => by simp [rfAt, hf, hb, hi]
          refine wpIn_mono (hE.exec hG (r := none) h hs0 trivial hco 0) fun ex a' w' hpost => ?_
          obtain ⟨x, g', s', rfl, hle, hs', hv⟩ := hpost
          have hall : x = .normal ∨ x = .ret → LeavesInM (FW none) 0 cx.P fn a'.tmps (fun e w' => ∃ v, e = .returned v ∧ CPost A I cx.P X g a k v w') a'.defers .returning w' := by
            intro hx
            have hv' : (shut cx e s'.defers s' fun s'' => match resOf cx.P s'' fn.results.toList with
                | some vs => k (single vs) { s with mem := gc s.nb s''.nb (single vs) s''.mem, nv := s''.nv, nb := s''.nb }
                | none => .fail 30).vc I g'.env := by
              rcases hx with rfl | rfl <;> exact hv
            refine shut_leaves hE hG hs'.d hs'.m hs'.t hs'.nv hs'.nb hv' fun g2 s2 w2 hle2 hm2 ht2 hnv2 hnb2 hv2 => ?_
            split at hv2
            · rename_i vs h2
              obtain ⟨v, h4, h5⟩ := results_run hm2 ht2 h2
              have hle' := hle.trans hle2
              exact ⟨v, h4, v, rfl, single vs, g2, { s with mem := gc s.nb s2.nb (single vs) s2.mem, nv := s2.nv, nb := s2.nb }, hle', h5,
                ⟨hm2.sub fun b y hb => gc_get hb, hs.t.le hle' hs.m.wf, hs.nt, hs.d.le hle' hs.m.wf, hnv2, hnb2⟩, hv2⟩
            · exact hv2.elim
          cases x with
          | normal => exact hall (.inl rfl)
          | ret => exact hall (.inr rfl)
          | exit id => exact hv.elim
          | goto l => exact hv.elim
        · exact h.elim
    · exact h.elim
  · exact h.elim
theorem setParams_rel {nt : Nat} : ∀ {ps : List Nat} {args : List AV} {xs : List Value} {ts : Tmps} {arr : Array Value}, TRel I g (fun _ => False) ts arr → arr.size = nt → Rels I g args xs → ps.all (· < nt) = true →
    TRel I g (fun _ => False) (setParams ps args ts) ((ps.zip xs).foldl (fun tmps (t, a) => tmps.setIfInBounds t a) arr) ∧ ((ps.zip xs).foldl (fun tmps (t, a) => tmps.setIfInBounds t a) arr).size = nt
  | [], args, xs, ts, arr, ht, hn, _, _ => by simp [setParams]; exact ⟨ht, hn⟩
  | p :: ps, [], [], ts, arr, ht, hn, _, _ => by simp [setParams]; exact ⟨ht, hn⟩
  | p :: ps, v :: args, x :: xs, ts, arr, ht, hn, hr, hp => by
    simp only [List.all_cons, Bool.and_eq_true, decide_eq_true_eq] at hp
    simp only [setParams, List.zip_cons_cons, List.foldl_cons]
    refine setParams_rel (fun t u hu _ => ?_) (by simpa using hn) hr.2 hp.2
    rw [get_putT] at hu
    by_cases htp : p = t
    · subst htp
      rw [if_pos rfl] at hu; simp at hu; subst hu
      exact ⟨x, by simp [hn, hp.1], hr.1⟩
    · rw [if_neg htp] at hu
      obtain ⟨y, h1, h2⟩ := ht t u hu (fun h => h)
      exact ⟨y, by simp [Array.getElem?_setIfInBounds_ne htp, h1], h2⟩
  | _ :: _, [], _ :: _, _, _, _, _, hr, _ => by simp [Rels] at hr
  | _ :: _, _ :: _, [], _, _, _, _, hr, _ => by simp [Rels] at hr
theorem rfs_nest : ∀ {c : Code} {i j : Nat} {rf x : RF}, (rfs c)[i]? = some rf → (rfs rf.assign ++ rfs rf.body)[j]? = some x → (rfs c)[i + 1 + j]? = some x := by
  have happ : ∀ {l m : List RF} {i j : Nat} {rf x : RF}, (∀ {i j : Nat} {rf x : RF}, l[i]? = some rf → (rfs rf.assign ++ rfs rf.body)[j]? = some x → l[i + 1 + j]? = some x) →
      (∀ {i j : Nat} {rf x : RF}, m[i]? = some rf → (rfs rf.assign ++ rfs rf.body)[j]? = some x → m[i + 1 + j]? = some x) →
      (l ++ m)[i]? = some rf → (rfs rf.assign ++ rfs rf.body)[j]? = some x → (l ++ m)[i + 1 + j]? = some x := by
    intro l m i j rf x hl hm h1 h2
    rcases Nat.lt_or_ge i l.length with hi | hi
    · rw [List.getElem?_append_left hi] at h1
      have h3 := hl h1 h2
      have hlt : i + 1 + j < l.length := by
        rcases Nat.lt_or_ge (i + 1 + j) l.length with h | h
        · exact h
        · rw [List.getElem?_eq_none (by simpa using h)] at h3; cases h3
      rw [List.getElem?_append_left hlt]; exact h3
    · rw [List.getElem?_append_right hi] at h1
      have h3 := hm h1 h2
      rw [List.getElem?_append_right (by omega), show i + 1 + j - l.length = i - l.length + 1 + j by omega]
      exact h3
  intro c
  induction c with
  | seq a b iha ihb => intro i j rf x h1 h2; simp only [rfs] at h1 ⊢; exact happ iha ihb h1 h2
  | cond o a b iha ihb => intro i j rf x h1 h2; simp only [rfs] at h1 ⊢; exact happ iha ihb h1 h2
  | block id b ih => intro i j rf x h1 h2; simp only [rfs] at h1 ⊢; exact ih h1 h2
  | loop b ih => intro i j rf x h1 h2; simp only [rfs] at h1 ⊢; exact ih h1 h2
  | scope b ih => intro i j rf x h1 h2; simp only [rfs] at h1 ⊢; exact ih h1 h2
  | rangeFunc f ps a b iha ihb =>
    intro i j rf x h1 h2
    simp only [rfs] at h1 ⊢
    cases i with
    | zero =>
      simp at h1; subst h1
      rw [show 0 + 1 + j = j + 1 by omega, List.getElem?_cons_succ]; exact h2
    | succ i =>
      rw [List.getElem?_cons_succ] at h1
      rw [show i + 1 + 1 + j = (i + 1 + j) + 1 by omega, List.getElem?_cons_succ]
      exact happ iha ihb h1 h2
  | _ => intro i j rf x h1 h2; simp [rfs] at h1
theorem COK.of_rf {fn ix : Nat} {rf : RF} (h : rfAt P fn ix = some rf) : COK P fn (ix + 1) rf.assign ∧ COK P fn (ix + 1 + (rfs rf.assign).length) rf.body := by
  unfold rfAt at h
  split at h
  · rename_i f hf
    split at h
    · rename_i c hb
      refine ⟨fun i x hi => ?_, fun i x hi => ?_⟩
      · have := rfs_nest (j := i) h (x := x) (by
          rw [List.getElem?_append_left]
          · exact hi
          · rcases Nat.lt_or_ge i (rfs rf.assign).length with h | h
            · exact h
            · rw [List.getElem?_eq_none (by simpa using h)] at hi; cases hi)
        simp [rfAt, hf, hb, this]
      · have := rfs_nest (j := (rfs rf.assign).length + i) h (x := x) (by
          rw [List.getElem?_append_right (by omega)]
          simpa using hi)
        rw [← Nat.add_assoc] at this
        simp [rfAt, hf, hb, this]
    · cases h
  · cases h
theorem yield_sound {cx : Cx} {e : Eng} (hE : EngSound I cx e) (hG : GOk cx.kn.globs A) {b : Nat} {p : PB} {args : List AV} {s : St} {k : AV → St → Tree} {xs : List Value} {r : Option Nat} {n : Nat}
    (h : (yield cx e b args s k).vc I g.env) (hs : SRel A I cx.P X g s a w) (hp : g.φ b = some p) (ha : Rels I g args xs) :
    CallTo r n cx.P (.func (.yield p.blk) #[] #[]) xs w (CPost A I cx.P X g a k) := by
  unfold yield at h
  split at h
  rotate_left
  · exact h.elim
  rename_i pend fn ix nt ts dd hg
  split at h
  rotate_left
  · exact h.elim
  rename_i rf hrf
  split at h
  rotate_left
  · exact h.elim
  rename_i hcond
  obtain ⟨hlen, hps⟩ := hcond
  obtain ⟨p', q, rl, rf', hp', hq, hh, hrf', hst, hpend, hpar, has, hbo, hdef, hsz, htr⟩ := hs.m.blk b _ hg
  rw [hp] at hp'; cases hp'
  rw [hrf] at hrf'; cases hrf'
  have hxs := ha.length
  have hyr := run_yield (P := cx.P) (args := xs.toArray) hh (by
    have : rl.params.size = rf.params.length := by rw [← hpar]; simp
    simp; omega)
  refine ⟨_, w, ?_, .inr ⟨p.blk, rl.fn, (rl.params.zip xs.toArray).foldl (fun tmps (t, a) => tmps.setIfInBounds t a) rl.tmps, rl.assign, rl.body, rfl, ?_⟩⟩
  · have e : (do let d ← Deferred.ofValue (.func (.yield p.blk) #[] #[]) xs.toArray; invoke d.target d.args : Sem Next).run cx.P w = (Instr.yield p.blk xs.toArray).run cx.P w := by
      simp [Deferred.ofValue, invoke]
    rw [e]; exact hyr
  refine roundIn_of_wpIn (F := FW r) trivial ?_
  rw [show (FW r).inRound p.blk = FW (some p.blk) from rfl]
  obtain ⟨hca, hcb⟩ := COK.of_rf hrf
  have htmps := setParams_rel (nt := nt) htr hsz ha hps
  have hfold : (rl.params.zip xs.toArray).foldl (fun tmps (t, a) => tmps.setIfInBounds t a) rl.tmps = (rf.params.zip xs).foldl (fun tmps (t, a) => tmps.setIfInBounds t a) rl.tmps := by
    rw [← hpar, ← Array.foldl_toList]
    simp
  rw [has, hbo]
  have hs0 : SRel A I cx.P (fun _ => False) g { s with tmps := setParams rf.params args ts, nt := nt, defers := [] }
      { tmps := (rl.params.zip xs.toArray).foldl (fun tmps (t, a) => tmps.setIfInBounds t a) rl.tmps, defers := [] } w :=
    ⟨hs.m, by rw [hfold]; exact htmps.1, by rw [hfold]; exact htmps.2, trivial, hs.nv, hs.nb⟩
  refine wpIn_mono (hE.exec hG (r := some p.blk) h hs0 ⟨p, hp, rfl⟩ hca n) fun ex a1 w1 hpost => ?_
  obtain ⟨x, g1, s1, rfl, hle1, hs1, hv1⟩ := hpost
  have hp1 := hle1.some hs.m.wf hp
  cases x with
  | ret => exact hv1.elim
  | exit id => exact hv1.elim
  | goto l => exact hv1.elim
  | normal =>
    dsimp only at hv1
    split at hv1
    rotate_left
    · exact hv1.elim
    rename_i pend1 fn1 ix1 nt1 ts1 d1 hx1 hg1
    split at hv1
    rotate_left
    · exact hv1.elim
    rename_i hfi
    obtain ⟨rfl, rfl⟩ := hfi
    obtain ⟨p', q1, rl1, rf1, hp', hq1, hh1, hrf1, hst1, hpend1, hpar1, has1, hbo1, hdef1, hsz1, htr1⟩ := hs1.m.blk b _ hg1
    rw [hp1] at hp'; cases hp'
    refine ⟨_, run_beginRound hh1 hst1, ?_⟩
    have hlt1 := hs1.m.bnd b p hp1
    have hm2 : MRel A I cx.P g1 (put b (.loop .busy pend1 fn1 ix1 nt1 ts1 d1) s1.mem) (w1.putObj p.blk (.loop { rl1 with state := .busy })) :=
      hs1.m.write hg1 rfl hp1 (by simp) (fun i hi => World.putObj_heap_other hi) ⟨p, q1, _, rf1, hp1, hq1, World.putObj_heap_same hlt1, hrf1, rfl, hpend1, hpar1, has1, hbo1, hdef1, hsz1, htr1⟩
    have hs2 : SRel A I cx.P (fun _ => False) g1 { s1 with mem := put b (.loop .busy pend1 fn1 ix1 nt1 ts1 d1) s1.mem } a1 (w1.putObj p.blk (.loop { rl1 with state := .busy })) :=
      ⟨hm2, hs1.t, hs1.nt, hs1.d, hs1.nv, hs1.nb⟩
    refine wpIn_mono (hE.exec hG (r := some p.blk) hv1 hs2 ⟨p, hp1, rfl⟩ hcb n) fun ex a2 w2 hpost2 => ?_
    obtain ⟨y, g2, s2, rfl, hle2, hs3, hv2⟩ := hpost2
    have hp2 := hle2.some hs1.m.wf hp1
    dsimp only at hv2
    split at hv2
    rotate_left
    · exact hv2.elim
    rename_i st2 pend2 fn2 ix2 nt2 ts2 d2 hg2
    obtain ⟨p', q2, rl2, rf2, hp', hq2, hh2, hrf2, hst2, hpend2, hpar2, has2, hbo2, hdef2, hsz2, htr2⟩ := hs3.m.blk b _ hg2
    rw [hp2] at hp'; cases hp'
    have hlt2 := hs3.m.bnd b p hp2
    have fin : ∀ (j : Option Jump),
        (k (.bool (.lit (if j.isNone then 1 else 0))) { s with mem := put b (.loop (if j.isNone then .ready else .done) j fn2 ix2 nt2 ts2 d2) s2.mem, nv := s2.nv, nb := s2.nb }).vc I g2.env →
        ∃ v w', (Instr.endRound p.blk (j.map Jump.code)).run cx.P w2 = .ok v w' ∧ ∃ v', Ending.returned v = .returned v' ∧ CPost A I cx.P X g a k v' w' := by
      intro j hj
      refine ⟨_, _, run_endRound (j.map Jump.code) hh2, _, rfl, .bool (.lit (if j.isNone then 1 else 0)), g2, { s with mem := put b (.loop (if j.isNone then .ready else .done) j fn2 ix2 nt2 ts2 d2) s2.mem, nv := s2.nv, nb := s2.nb }, hle1.trans hle2, ?_, ⟨?_, hs.t.le (hle1.trans hle2) hs.m.wf, hs.nt, hs.d.le (hle1.trans hle2) hs.m.wf, hs3.nv, hs3.nb⟩, hj⟩
      · refine ⟨_, rfl, ?_⟩
        cases j <;> rfl
      · refine hs3.m.write hg2 rfl hp2 (by simp) (fun i hi => World.putObj_heap_other hi) ⟨p, q2, _, rf2, hp2, hq2, World.putObj_heap_same hlt2, hrf2, ?_, rfl, hpar2, has2, hbo2, hdef2, hsz2, htr2⟩
        cases j <;> rfl
    cases y with
    | normal => exact fin none hv2
    | ret => exact fin (some .ret) hv2
    | exit id => exact fin (some (.exit id)) hv2
    | goto l => exact fin (some (.goto l)) hv2
theorem callv_sound {cx : Cx} {e : Eng} (hE : EngSound I cx e) (hG : GOk cx.kn.globs A) (hC : ∀ c ∈ cx.cs, COk I cx.P cx.kn.globs c) {f : AV} {args : List AV} {s : St} {k : AV → St → Tree} {x : Value} {xs : List Value} {r : Option Nat}
    (h : (callvStep cx e f args s k).vc I g.env) (hs : SRel A I cx.P X g s a w) (hf : Rel I g f x) (ha : Rels I g args xs) (n : Nat) :
    CallTo r n cx.P x xs w (CPost A I cx.P X g a k) := by
  unfold callvStep at h
  split at h
  · rename_i f' cap
    obtain ⟨cs, rfl, hcap⟩ := hf
    obtain ⟨⟨fn, c, h1, h2, h3⟩, h4⟩ := callF_sound hE hG hC h hs (ha.append hcap)
    refine ⟨.enter f' (xs.toArray ++ cs), w, ?_, .inl ⟨f', _, rfl, ?_⟩⟩
    · have := run_callFunc (w := w) h1 h2 h3 (xs.toArray ++ cs)
      simpa [Deferred.ofValue, invoke, Sem.run_bind, Result.andThen] using this
    · rw [callsIn_FW]
      have e : (xs ++ cs.toList).toArray = xs.toArray ++ cs := by simp
      rw [← e]; exact h4
  · rename_i f' m cap
    obtain ⟨ms, cs, rfl, hm, hcap⟩ := hf
    obtain ⟨⟨fn, c, h1, h2, h3⟩, h4⟩ := callF_sound hE hG hC h hs ((hm.append ha).append hcap)
    refine ⟨.enter f' (ms ++ xs.toArray ++ cs), w, ?_, .inl ⟨f', _, rfl, ?_⟩⟩
    · have := run_callFunc (w := w) h1 h2 h3 (ms ++ xs.toArray ++ cs)
      simpa [Deferred.ofValue, invoke, Sem.run_bind, Result.andThen] using this
    · rw [callsIn_FW]
      have e : (ms.toList ++ xs ++ cs.toList).toArray = ms ++ xs.toArray ++ cs := by simp
      rw [← e]; exact h4
  · rename_i b
    obtain ⟨p, hp, rfl⟩ := hf
    exact yield_sound hE hG h hs hp ha
  · exact h.elim
end Go.Sx
end
noncomputable section
namespace Go.Sx
open Go
structure G.Ext (g g' : G) : Prop where
  env : ∃ xs, g'.env = g.env ++ xs
  some : ∀ {b : Nat} {p : PB}, g.φ b = some p → g'.φ b = some p
theorem E.den_ext {I : Itp} {g g' : G} (h : g.Ext g') {e : E} {d : D} (he : e.den I g.env = some d) : e.den I g'.env = some d := by
  obtain ⟨⟨xs, hx⟩, _⟩ := h
  rw [hx]; exact E.den_more he
theorem G.Le.ext {g g' : G} (h : g.Le g') (hw : g.wf) : g.Ext g' := ⟨h.env, fun hb => h.some hw hb⟩
mutual
theorem Rel.ext {I : Itp} {g g' : G} (h : g.Ext g') : ∀ {v : AV} {x : Value}, Rel I g v x → Rel I g' v x := by
  intro v x hv
  match v with
  | .any => trivial
  | .undef => simpa [Rel] using hv
  | .bool e => simp only [Rel] at hv ⊢; obtain ⟨n, h1, h2⟩ := hv; exact ⟨n, E.den_ext h h1, h2⟩
  | .int k e => simp only [Rel] at hv ⊢; obtain ⟨n, h1, h2⟩ := hv; exact ⟨n, E.den_ext h h1, h2⟩
  | .nilptr => simpa [Rel] using hv
  | .ptr b r s k =>
    simp only [Rel] at hv ⊢
    obtain ⟨n, p, h1, h2, h3, h4⟩ := hv
    exact ⟨n, p, E.den_ext h h1, h2, h.some h3, h4⟩
  | .nilslice => simpa [Rel] using hv
  | .slice b lo len s nl =>
    simp only [Rel] at hv ⊢
    obtain ⟨l, n, h1, h2, h3, h4, h5⟩ := hv
    refine ⟨l, n, E.den_ext h h1, E.den_ext h h2, h3, h4, ?_⟩
    rcases h5 with ⟨p, cap, h5, h6⟩ | h5
    · exact .inl ⟨p, cap, h.some h5, h6⟩
    · exact .inr h5
  | .func f cap => simp only [Rel] at hv ⊢; obtain ⟨cs, h1, h2⟩ := hv; exact ⟨cs, h1, Rels.ext h h2⟩
  | .yld b => simp only [Rel] at hv ⊢; obtain ⟨p, h1, h2⟩ := hv; exact ⟨p, h.some h1, h2⟩
  | .nilfunc => simpa [Rel] using hv
  | .agg l => simp only [Rel] at hv ⊢; obtain ⟨cs, h1, h2⟩ := hv; exact ⟨cs, h1, Rels.ext h h2⟩
  | .tup l => simp only [Rel] at hv ⊢; obtain ⟨cs, h1, h2⟩ := hv; exact ⟨cs, h1, Rels.ext h h2⟩
  | .big l ks t n m =>
    simp only [Rel] at hv ⊢
    obtain ⟨f, xs, ys, zs, h1, h2, h3, h4, h5⟩ := hv
    exact ⟨f, xs, ys, zs, E.den_ext h h1, h2, Rels.ext h h3, Rels.ext h h4, h5⟩
  | .cap0 => simpa [Rel] using hv
  | .empty => simpa [Rel] using hv
  | .asl b k n s => simp only [Rel] at hv ⊢; obtain ⟨p, cap, h1, h2⟩ := hv; exact ⟨p, cap, h.some h1, h2⟩
  | .bfunc f m cap => simp only [Rel] at hv ⊢; obtain ⟨ms, cs, h1, h2, h3⟩ := hv; exact ⟨ms, cs, h1, Rels.ext h h2, Rels.ext h h3⟩
  | .gptr v k => simpa [Rel] using hv
  | .str l => simpa [Rel] using hv
  | .strT t n => simp only [Rel] at hv ⊢; obtain ⟨f, k, s, h1, h2, h3⟩ := hv; exact ⟨f, k, s, E.den_ext h h1, E.den_ext h h2, h3⟩
  | .capN => simpa [Rel] using hv
  | .mref b => simp only [Rel] at hv ⊢; obtain ⟨p, h1, h2⟩ := hv; exact ⟨p, h.some h1, h2⟩
  | .nilmap => simpa [Rel] using hv
  | .nilif => simpa [Rel] using hv
  | .sat e => simp only [Rel] at hv ⊢; obtain ⟨n, h1, h2⟩ := hv; exact ⟨n, E.den_ext h h1, h2⟩
  | .ifo e => simp only [Rel] at hv ⊢; obtain ⟨n, h1, h2⟩ := hv; exact ⟨n, E.den_ext h h1, h2⟩
theorem Rels.ext {I : Itp} {g g' : G} (h : g.Ext g') : ∀ {l : List AV} {xs : List Value}, Rels I g l xs → Rels I g' l xs := by
  intro l xs hl
  match l, xs with
  | [], [] => trivial
  | a :: l, x :: xs => simp only [Rels] at hl ⊢; exact ⟨Rel.ext h hl.1, Rels.ext h hl.2⟩
  | [], _ :: _ => simp [Rels] at hl
  | _ :: _, [] => simp [Rels] at hl
end
theorem TRel.ext {I : Itp} {g g' : G} {X : Nat → Prop} (h : g.Ext g') {ts : Tmps} {a : Array Value} (ht : TRel I g X ts a) : TRel I g' X ts a :=
  fun t v h1 h2 => let ⟨x, h3, h4⟩ := ht t v h1 h2; ⟨x, h3, h4.ext h⟩
theorem BRel.ext {I : Itp} {P : Program} {g g' : G} {b : Nat} {H : Nat → Option Obj} (h : g.Ext g') (hb : g'.φ b = g.φ b) : ∀ {x : Blk}, BRel I P g b H x → BRel I P g' b H x
  | .cells l wr, hx => by
    obtain ⟨p, c, T, fr, h1, h2, h3, h4⟩ := hx
    exact ⟨p, c, T, fr, h.some h1, h2, fun i v hv => let ⟨x, a, b⟩ := h3 i v hv; ⟨x, a, b.ext h⟩, h4⟩
  | .rows ks t len wr nl, hx => by
    obtain ⟨f, n, h1, h2, h3, h4⟩ := hx
    refine ⟨f, n, E.den_ext h h1, E.den_ext h h2, h3, ?_⟩
    rcases h4 with ⟨p, c, T, fr, h5, h6⟩ | ⟨h5, h6, h7⟩
    · exact .inl ⟨p, c, T, fr, h.some h5, h6⟩
    · exact .inr ⟨h5, h6, by rw [hb]; exact h7⟩
  | .big l ks t n m wr, hx => by
    obtain ⟨p, c, T, fr, f, h1, h2, h3, h4, h5, h6, h7⟩ := hx
    exact ⟨p, c, T, fr, f, h.some h1, h2, E.den_ext h h3, fun i v hv => let ⟨x, a, b⟩ := h4 i v hv; ⟨x, a, b.ext h⟩, h5, fun i v hv => let ⟨x, a, b⟩ := h6 i v hv; ⟨x, a, b.ext h⟩, h7⟩
  | .loop st pend fn ix nt ts d, hx => by
    obtain ⟨p, q, r, rf, h1, h2, h3, h4, h5, h6, h8, h9, h10, h11, h12, h13⟩ := hx
    exact ⟨p, q, r, rf, h.some h1, h.some h2, h3, h4, h5, h6, h8, h9, h10, h11, h12, h13.ext h⟩
  | .dfr sh, hx => by
    obtain ⟨p, h1, h2⟩ := hx
    exact ⟨p, h.some h1, h2⟩
  | .mp l m, hx => by
    obtain ⟨p, es, c, h1, h2, h3, h4⟩ := hx
    exact ⟨p, es, c, h.some h1, h2, h3.ext h, h4.ext h⟩
  | .smp w one ks t n, hx => by
    obtain ⟨p, es, c, f, h1, h2, h3, h4, h5⟩ := hx
    exact ⟨p, es, c, f, h.some h1, h2, E.den_ext h h3, E.den_ext h h4, h5⟩
  | .iter e q k, hx => by
    obtain ⟨p, n, m, h1, h2, h3, h4, h5⟩ := hx
    exact ⟨p, n, m, h.some h1, h2, E.den_ext h h3, E.den_ext h h4, h5⟩
  | .bld T e d, ⟨p, n, x, y, h1, h2, h3, h4, h5, h6⟩ => ⟨p, n, x, y, h.some h1, h2, h3, E.den_ext h h4, h5, h6.imp id fun ⟨q, a, z⟩ => ⟨q, h.some a, z⟩⟩
  | .byt T e, ⟨n, h1, h2⟩ => ⟨n, E.den_ext h h1, h2.imp (fun ⟨a, c⟩ => ⟨by rw [hb]; exact a, c⟩) fun ⟨q, cur, a, c⟩ => ⟨q, cur, h.some a, c⟩⟩
theorem DVRel.ext {I : Itp} {g g' : G} (h : g.Ext g') : ∀ {d : DV} {x : Deferred}, DVRel I g d x → DVRel I g' d x
  | .blk _, _, ⟨p, h1, h2⟩ => ⟨p, h.some h1, h2⟩
  | .fn _ _ _, _, ⟨ms, cs, h1, h2, h3⟩ => ⟨ms, cs, h1, h2.ext h, h3.ext h⟩
theorem DRel.ext {I : Itp} {g g' : G} (h : g.Ext g') : ∀ {l : List DV} {xs : List Deferred}, DRel I g l xs → DRel I g' l xs
  | [], [], _ => trivial
  | _ :: _, _ :: _, ⟨h1, h3⟩ => ⟨h1.ext h, DRel.ext h h3⟩
  | [], _ :: _, h => by simp [DRel] at h
  | _ :: _, [], h => by simp [DRel] at h
def G.place (g : G) (b : Nat) (p : PB) : G := { g with φ := fun c => if c = b then some p else g.φ c }
theorem G.place_ext {g : G} {b : Nat} {p : PB} (h : g.φ b = none) : g.Ext (g.place b p) := ⟨⟨[], by simp [G.place]⟩, fun {c q} hc => by
  simp only [G.place]
  split
  · rename_i e; subst e; rw [h] at hc; cases hc
  · exact hc⟩
variable {A : Amb} {I : Itp} {P : Program} {g : G} {X : Nat → Prop} {ts : Tmps} {a : Act} {M : Mem} {w : World}
theorem MRel.place {b : Nat} {o : Obj} {x : Blk} {p : PB} (h : MRel A I P g M w) (hb : b < g.nb) (hφ : g.φ b = none) (hn : get M b = none) (hp : p.blk = w.heap.size)
    (hx : BRel I P (g.place b p) b (fun i => (w.alloc o).heap[i]?) x) : MRel A I P (g.place b p) ((b, x) :: M) (w.alloc o) := by
  have hext := G.place_ext (p := p) hφ
  have hold : ∀ c q, c ≠ b → (g.place b p).φ c = some q → g.φ c = some q := fun c q hc hq => by simpa [G.place, hc] using hq
  have hnew : ∀ q, (g.place b p).φ b = some q → q = p := fun q hq => by simpa [G.place] using hq.symm
  have hkeep : ∀ i, i < w.heap.size → (w.alloc o).heap[i]? = w.heap[i]? := fun i hi => by
    show (w.heap.push o)[i]? = _
    rw [Array.getElem?_push, if_neg (by omega)]
  have hcase : ∀ c y, get ((b, x) :: M) c = some y → (c = b ∧ y = x) ∨ (c ≠ b ∧ get M c = some y) := fun c y hc => by
    simp only [get_cons] at hc
    split at hc
    · rename_i e; left; exact ⟨e.symm, by cases hc; rfl⟩
    · rename_i e; right; exact ⟨fun e' => e e'.symm, hc⟩
  refine ⟨fun c hc => ?_, fun c y hc => ?_, fun c y hc => ?_, fun c d y z q r hc hd hwy hq hr e => ?_, fun c q hc => ?_, fun c y q hc hy hq => ?_, ?_, fun i hi hX => ?_, h.same⟩
  · simp only [G.place] at hc ⊢
    rw [if_neg (by omega)]; exact h.wf c hc
  · rcases hcase c y hc with ⟨rfl, rfl⟩ | ⟨hne, hc⟩
    · exact hx
    · have := (BRel.ext hext (b := c) (by simp [G.place, hne]) (h.blk c y hc))
      exact this.heap fun q hq => hkeep _ (h.bnd c q (hold c q hne hq))
  · rcases hcase c y hc with ⟨rfl, rfl⟩ | ⟨_, hc⟩
    · exact hb
    · exact h.lt c y hc
  · rcases hcase c y hc with ⟨rfl, rfl⟩ | ⟨hnc, hc⟩ <;> rcases hcase d z hd with ⟨rfl, rfl⟩ | ⟨hnd, hd⟩
    · rfl
    · have := hnew q hq; subst this
      have := h.bnd d r (hold d r hnd hr)
      omega
    · have := hnew r hr; subst this
      have := h.bnd c q (hold c q hnc hq)
      omega
    · exact h.inj c d y z q r hc hd hwy (hold c q hnc hq) (hold d r hnd hr) e
  · have hs : (w.alloc o).heap.size = w.heap.size + 1 := by simp
    rw [hs]
    by_cases hcb : c = b
    · subst hcb; rw [hnew q hc]; omega
    · have := h.bnd c q (hold c q hcb hc); omega
  · rcases hcase c y hc with ⟨rfl, rfl⟩ | ⟨hne, hc⟩
    · right; rw [hnew q hq, hp]; exact h.size
    · exact h.own c y q hc hy (hold c q hne hq)
  · have hs : (w.alloc o).heap.size = w.heap.size + 1 := by simp
    rw [hs]; have := h.size; omega
  · have := h.size
    rw [hkeep i (by omega)]; exact h.keep i hi hX
def ambOf (M : Mem) (g : G) (w : World) : Amb := { w0 := w, X := fun i => ∃ b x p, get M b = some x ∧ x.wr = true ∧ g.φ b = some p ∧ p.blk = i }
theorem MRel.part {M H : Mem} (h : MRel A I P g (M ++ H) w) : MRel (ambOf M g w) I P g M w := by
  have hs : ∀ b y, get M b = some y → get (M ++ H) b = some y := fun b y hb => by rw [get_app, hb]
  have h' := h.sub hs
  exact ⟨h'.wf, h'.blk, h'.lt, h'.inj, h'.bnd, fun b x p hx hw hp => .inl ⟨b, x, p, hx, hw, hp, rfl⟩, Nat.le_refl _, fun _ _ _ => rfl, rfl, rfl⟩
theorem GOk.part {gl : List Glob} {M H : Mem} (hG : GOk gl A) (h : MRel A I P g (M ++ H) w) : GOk gl (ambOf M g w) := fun x hx => by
  obtain ⟨h1, h2, cs, T, fr, h3, h4⟩ := hG x hx
  refine ⟨Nat.lt_of_lt_of_le h1 h.size, ?_, cs, T, fr, by rw [← h3]; exact h.keep _ h1 h2, h4⟩
  rintro ⟨b, y, p, h5, h6, h7, h8⟩
  rcases h.own b y p (by rw [get_app, h5]) h6 h7 with h12 | h12
  · rw [h8] at h12; exact h2 h12
  · omega
theorem MRel.frame {M H M' : Mem} {g' : G} {w' : World} (h : MRel A I P g (M ++ H) w) (hd : ∀ b y, get H b = some y → get M b = none) (hle : g.Le g')
    (hm : MRel (ambOf M g w) I P g' M' w') (hk : keysOk g.nb M M' = true) : MRel A I P g' (M' ++ H) w' := by
  have hM : ∀ {b : Nat} {y : Blk}, get M b = some y → get (M ++ H) b = some y := fun hb => by rw [get_app, hb]
  have hH : ∀ {b : Nat} {y : Blk}, get H b = some y → get (M ++ H) b = some y := fun {b y} hb => by rw [get_app, hd b y hb]; exact hb
  have hcase : ∀ {b : Nat} {y : Blk}, get (M' ++ H) b = some y → get M' b = some y ∨ get H b = some y := fun {b y} hb => by
    rw [get_app] at hb
    split at hb
    · rename_i z hz; cases hb; exact .inl hz
    · exact .inr hb
  have hkey : ∀ {c : Nat} {y : Blk}, get M' c = some y → (c < g.nb ∧ ∃ x, get M c = some x) ∨ (g.nb ≤ c ∧ y.wr = true) := fun {c y} hc => by
    have := List.all_eq_true.1 (keysOk_all hk) _ (get_key hc).2
    simp only at this
    split at this
    · rename_i hlt; exact .inl ⟨hlt, Option.isSome_iff_exists.1 this⟩
    · rename_i hlt; exact .inr ⟨by omega, this⟩
  have hX : ∀ {i : Nat}, (ambOf M g w).X i → A.X i ∨ A.w0.heap.size ≤ i := fun {i} ⟨b, x, p, h1, h2, h3, h4⟩ => by
    rw [← h4]; exact h.own b x p (hM h1) h2 h3
  have hφ : ∀ {b : Nat} {y : Blk} {p : PB}, get H b = some y → g'.φ b = some p → g.φ b = some p := fun {b y p} hb hp => by
    rw [← hle.φ b (h.lt b y (hH hb))]; exact hp
  -- a block of H is apart from what may be written
  have hap : ∀ {b : Nat} {y : Blk} {p : PB}, get H b = some y → g.φ b = some p → ¬ (ambOf M g w).X p.blk := by
    rintro b y p hb hp ⟨c, x, q, h1, hwx, h3, h4⟩
    have := h.inj c b x y q p (hM h1) (hH hb) hwx h3 hp h4
    subst this
    rw [hd c y hb] at h1; cases h1
  have hcross : ∀ {b c : Nat} {y z : Blk} {p q : PB}, get H b = some y → get M' c = some z → (y.wr = true ∨ z.wr = true) → g'.φ b = some p → g'.φ c = some q → p.blk = q.blk → b = c := by
    intro b c y z p q hb hc hwz hp hq e
    have hp' := hφ hb hp
    have hz : (∃ x, get M c = some x ∧ y.wr = true ∧ g.φ c = some q) ∨ z.wr = true := by
      rcases hkey hc with ⟨h1, x, h2⟩ | ⟨_, h2⟩
      · rcases hwz with h3 | h3
        · exact .inl ⟨x, h2, h3, by rw [← hle.φ c h1]; exact hq⟩
        · exact .inr h3
      · exact .inr h2
    rcases hz with ⟨x, h2, h3, hq'⟩ | h2
    · exact h.inj b c y x p q (hH hb) (hM h2) h3 hp' hq' e
    · rcases hm.own c z q hc h2 hq with h3 | h3
      · rw [← e] at h3; exact absurd h3 (hap hb hp')
      · have h4 := h.bnd b p hp'
        have h5 : w.heap.size ≤ q.blk := h3
        omega
  refine ⟨hm.wf, fun b y hb => ?_, fun b y hb => ?_, fun b c y z p q hb hc hwy hp hq e => ?_, hm.bnd, fun b y p hb hw hp => ?_, Nat.le_trans h.size hm.size, fun i hi hXi => ?_, hm.same.1.trans h.same.1, hm.same.2.trans h.same.2⟩
  · rcases hcase hb with hb | hb
    · exact hm.blk b y hb
    · have hlt := h.lt b y (hH hb)
      exact ((h.blk b y (hH hb)).le hle h.wf hlt).heap fun p hp => hm.keep p.blk (h.bnd b p (hφ hb hp)) (hap hb (hφ hb hp))
  · rcases hcase hb with hb | hb
    · exact hm.lt b y hb
    · exact Nat.lt_of_lt_of_le (h.lt b y (hH hb)) hle.nb
  · rcases hcase hb with hb | hb <;> rcases hcase hc with hc | hc
    · exact hm.inj b c y z p q hb hc hwy hp hq e
    · exact (hcross hc hb (.inr hwy) hq hp e.symm).symm
    · exact hcross hb hc (.inl hwy) hp hq e
    · exact h.inj b c y z p q (hH hb) (hH hc) hwy (hφ hb hp) (hφ hc hq) e
  · rcases hcase hb with hb | hb
    · rcases hm.own b y p hb hw hp with h1 | h1
      · exact hX h1
      · exact .inr (Nat.le_trans h.size h1)
    · exact h.own b y p (hH hb) hw (hφ hb hp)
  · have h1 : w'.heap[i]? = w.heap[i]? := hm.keep i (Nat.lt_of_lt_of_le hi h.size) fun hx => by
      rcases hX hx with h2 | h2
      · exact hXi h2
      · omega
    rw [h1]; exact h.keep i hi hXi
end Go.Sx
noncomputable section
namespace Go.Sx
open Go
variable {A : Amb} {I : Itp} {P : Program} {g : G} {X : Nat → Prop} {ts : Tmps} {a : Act} {M : Mem} {w : World} {ops : Array Oper} {kn : Kn}
theorem maskOf_bit {acc : List Nat} {j : Nat} : ∀ {l : List Edge}, (maskOf acc l).testBit j = true → ∃ e ∈ l, Region.binds .any e = true ∧ (e.on = j ∨ ((acc[e.on]?).getD 0).testBit j = true)
  | [], h => by simp [maskOf] at h
  | e :: l, h => by
    simp only [maskOf] at h
    split at h
    · rename_i hb
      simp only [Nat.testBit_or, Bool.or_eq_true] at h
      rcases h with h | h | h
      · rw [Nat.one_shiftLeft, Nat.testBit_two_pow] at h
        exact ⟨e, by simp, hb, .inl (by simpa using h)⟩
      · exact ⟨e, by simp, hb, .inr h⟩
      · obtain ⟨e', h1, h2⟩ := maskOf_bit h
        exact ⟨e', by simp [h1], h2⟩
    · obtain ⟨e', h1, h2⟩ := maskOf_bit h
      exact ⟨e', by simp [h1], h2⟩
theorem masks_pre : ∀ {l : List Oper} {acc : List Nat} {k u : Nat}, acc[k]? = some u → (masks l acc)[k]? = some u
  | [], acc, k, u, h => h
  | o :: l, acc, k, u, h => by
    simp only [masks]
    refine masks_pre ?_
    rw [List.getElem?_append_left]
    · exact h
    · rcases Nat.lt_or_ge k acc.length with h' | h'
      · exact h'
      · rw [List.getElem?_eq_none (by simpa using h')] at h; cases h
theorem masks_spec : ∀ {l : List Oper} {acc : List Nat} {i v : Nat}, (masks l acc)[i]? = some v →
    acc[i]? = some v ∨ ∃ (o : Oper) (acc' : List Nat), acc.length ≤ i ∧ l[i - acc.length]? = some o ∧ v = maskOf acc' o.after.toList ∧ ∀ (k u : Nat), acc'[k]? = some u → (masks l acc)[k]? = some u
  | [], acc, i, v, h => .inl h
  | o :: l, acc, i, v, h => by
    simp only [masks] at h
    rcases masks_spec h with h1 | ⟨o', acc', h1, h2, h3, h4⟩
    · rcases Nat.lt_or_ge i acc.length with hi | hi
      · rw [List.getElem?_append_left hi] at h1; exact .inl h1
      · rw [List.getElem?_append_right hi] at h1
        have : i = acc.length := by
          rcases Nat.eq_or_lt_of_le hi with h | h
          · exact h.symm
          · rw [List.getElem?_eq_none (by simp; omega)] at h1; cases h1
        subst this
        simp at h1
        exact .inr ⟨o, acc, Nat.le_refl _, by simp, h1.symm, fun k u hk => masks_pre hk⟩
    · simp at h1 h2
      refine .inr ⟨o', acc', by omega, ?_, h3, h4⟩
      rw [show i - acc.length = (i - (acc.length + 1)) + 1 by omega, List.getElem?_cons_succ]
      exact h2
theorem before_bit {i j : Nat} (h : (before ops i).testBit j = true) : ∃ o, ops[i]? = some o ∧ ∃ e ∈ o.after.toList, Region.binds .any e = true ∧ (e.on = j ∨ (before ops e.on).testBit j = true) := by
  unfold before at h
  cases hm : (masks ops.toList [])[i]? with
  | none => rw [hm] at h; simp at h
  | some v =>
    rw [hm] at h
    simp only [Option.getD_some] at h
    rcases masks_spec hm with h1 | ⟨o, acc', _, h2, rfl, h4⟩
    · simp at h1
    · obtain ⟨e, h5, h6, h7⟩ := maskOf_bit h
      refine ⟨o, by simpa using h2, e, h5, h6, h7.imp id fun h8 => ?_⟩
      unfold before
      cases hk : acc'[e.on]? with
      | none => rw [hk] at h8; simp at h8
      | some u => rw [h4 _ _ hk]; rw [hk] at h8; exact h8
def Closed (ops : Array Oper) (S : Nat → Prop) : Prop := ∀ i, S i → ∀ j, (before ops i).testBit j = true → S j
theorem Closed.add {S : Nat → Prop} (h : Closed ops S) {i : Nat} {o : Oper} (ho : ops[i]? = some o) (ha : ∀ e ∈ o.after.toList, Region.binds .any e = true → S e.on) : Closed ops fun k => k = i ∨ S k := by
  intro k hk j hj
  rcases hk with rfl | hk
  · obtain ⟨o', ho', e, h1, h2, h3⟩ := before_bit hj
    rw [ho] at ho'; cases ho'
    have := ha e h1 h2
    rcases h3 with rfl | h3
    · exact .inr this
    · exact .inr (h _ this _ h3)
  · exact .inr (h k hk j hj)
structure DrawOk (ops : Array Oper) : Prop where
  nodup : nodup (dsts ops.toList) = true
  edge : ∀ i o, ops[i]? = some o → ∀ e ∈ o.after.toList, Region.binds .any e = true → e.on < i
  read : ∀ i o j o' d, ops[i]? = some o → ops[j]? = some o' → o'.dst = some d → d ∈ readsOf ops o → (before ops i).testBit j = true ∨ i = j ∨ (before ops j).testBit i = true
theorem drawOk_spec (h : drawOk ops = true) : DrawOk ops := by
  unfold drawOk at h
  simp only [Bool.and_eq_true, List.all_eq_true, List.mem_range] at h
  obtain ⟨h1, h2⟩ := h
  have lt : ∀ {i : Nat} {o : Oper}, ops[i]? = some o → i < ops.size := fun {i o} h => by
    rcases Nat.lt_or_ge i ops.size with h' | h'
    · exact h'
    · rw [Array.getElem?_eq_none h'] at h; cases h
  refine ⟨h1, fun i o ho e he hb => ?_, fun i o j o' d ho ho' hd hr => ?_⟩
  · have := h2 i (lt ho)
    rw [ho] at this
    simp only [Bool.and_eq_true] at this
    have h3 := this.1.1
    rw [Array.all_eq_true_iff_forall_mem] at h3
    have := h3 e (by simpa using he)
    simpa [hb] using this
  · have := h2 i (lt ho)
    rw [ho] at this
    simp only [Bool.and_eq_true, List.all_eq_true, List.mem_range] at this
    have h3 := this.2 j (lt ho')
    rw [ho'] at h3
    simp only [Option.bind_some, hd, Bool.or_eq_true, Bool.not_eq_true'] at h3
    rcases h3 with ((h3 | h3) | h3) | h3
    · rw [← Bool.not_eq_true, List.contains_iff_mem] at h3; exact absurd hr h3
    · exact .inl h3
    · exact .inr (.inl (by simpa using h3))
    · exact .inr (.inr h3)
theorem notBar {i j : Nat} {o o' : Oper} {d : Nat} (h : isBar ops j = false) (ho' : ops[j]? = some o') (hd : o'.dst = some d) (ho : ops[i]? = some o) (hr : d ∈ readsOf ops o) : (before ops i).testBit j = true := by
  unfold isBar at h
  rw [ho'] at h
  simp only [Option.bind_some, hd] at h
  have hlt : i < ops.size := (Array.getElem?_eq_some_iff.1 ho).1
  have := List.any_eq_false.1 h i (List.mem_range.2 hlt)
  rw [ho] at this
  simp only [Bool.and_eq_true, List.contains_iff_mem, Bool.not_eq_true'] at this
  cases hb : (before ops i).testBit j with
  | true => rfl
  | false => exact absurd ⟨hr, hb⟩ this
theorem DrawOk.before_lt (h : DrawOk ops) : ∀ {i j : Nat}, (before ops i).testBit j = true → j < i := by
  intro i
  induction i using Nat.strongRecOn with
  | _ i ih =>
    intro j hj
    obtain ⟨o, ho, e, h1, h2, h3⟩ := before_bit hj
    have hlt := h.edge i o ho e h1 h2
    rcases h3 with rfl | h3
    · exact hlt
    · have := ih _ hlt h3; omega
theorem mem_dsts : ∀ {l : List Oper} {j : Nat} {o : Oper} {d : Nat}, l[j]? = some o → o.dst = some d → d ∈ dsts l
  | x :: l, 0, o, d, h, hd => by simp at h; subst h; simp [dsts, hd]
  | x :: l, j + 1, o, d, h, hd => by
    simp at h
    have := mem_dsts h hd
    simp only [dsts]
    split <;> simp [this]
  | [], _, _, _, h, _ => by simp at h
theorem dsts_inj : ∀ {l : List Oper} {i j : Nat} {o p : Oper} {d : Nat}, nodup (dsts l) = true → l[i]? = some o → l[j]? = some p → o.dst = some d → p.dst = some d → i = j
  | [], i, j, o, p, d, _, h, _, _, _ => by simp at h
  | x :: l, 0, 0, o, p, d, _, _, _, _, _ => rfl
  | x :: l, 0, j + 1, o, p, d, hn, h1, h2, h3, h4 => by
    simp at h1 h2; subst h1
    simp only [dsts, h3, nodup, Bool.and_eq_true, Bool.not_eq_true', ← Bool.not_eq_true, List.contains_iff_mem] at hn
    exact absurd (mem_dsts h2 h4) hn.1
  | x :: l, i + 1, 0, o, p, d, hn, h1, h2, h3, h4 => by
    simp at h1 h2; subst h2
    simp only [dsts, h4, nodup, Bool.and_eq_true, Bool.not_eq_true', ← Bool.not_eq_true, List.contains_iff_mem] at hn
    exact absurd (mem_dsts h1 h3) hn.1
  | x :: l, i + 1, j + 1, o, p, d, hn, h1, h2, h3, h4 => by
    simp at h1 h2
    have : nodup (dsts l) = true := by
      simp only [dsts] at hn
      split at hn
      · simp only [nodup, Bool.and_eq_true] at hn; exact hn.2
      · exact hn
    rw [dsts_inj this h1 h2 h3 h4]
theorem DrawOk.inj (h : DrawOk ops) {i j : Nat} {o p : Oper} {d : Nat} (h1 : ops[i]? = some o) (h2 : ops[j]? = some p) (h3 : o.dst = some d) (h4 : p.dst = some d) : i = j :=
  dsts_inj h.nodup (by simpa using h1) (by simpa using h2) h3 h4
def Reads (I : Itp) (g : G) (ops : Array Oper) (o : Oper) (ts : Tmps) (a : Act) : Prop := ∀ t ∈ readsOf ops o, ∀ v, get ts t = some v → ∃ x, a.tmps[t]? = some x ∧ Rel I g v x
structure G.Ext0 (g g' : G) : Prop where
  env : g'.env = g.env
  nb : g.nb ≤ g'.nb
  some : ∀ {b : Nat} {p : PB}, g.φ b = some p → g'.φ b = some p
theorem G.Ext0.refl (g : G) : g.Ext0 g := ⟨rfl, Nat.le_refl _, fun h => h⟩
theorem G.Ext0.trans {g h k : G} (a : g.Ext0 h) (b : h.Ext0 k) : g.Ext0 k := ⟨b.env.trans a.env, Nat.le_trans a.nb b.nb, fun h => b.some (a.some h)⟩
theorem G.Ext0.ext {g h : G} (a : g.Ext0 h) : g.Ext h := ⟨⟨[], by rw [a.env]; simp⟩, fun h => a.some h⟩
def LagOk (A : Amb) (I : Itp) (P : Program) (g : G) (ops : Array Oper) (s : St) (o : Oper) : Prop :=
  (∀ d, o.dst = some d → d < s.nt) ∧ ∀ (g' : G) (w : World), g.Ext0 g' → MRel A I P g' s.mem w → ∀ a : Act, Reads I g' ops o s.tmps a →
    (Region.wanted o (yielded ops a.tmps) = true → ∀ r : Option Nat, ∃ x, (o.semAt r a.eval).run P w = .ok (.value x) w ∧ ∀ d v, o.dst = some d → get s.tmps d = some v → Rel I g' v x) ∧
    (Region.wanted o (yielded ops a.tmps) = false → ∀ d v, o.dst = some d → get s.tmps d = some v → Rel I g' v Go.undef)
theorem LagOk.ext {A : Amb} {I : Itp} {P : Program} {g g' : G} {ops : Array Oper} {s : St} {o : Oper} (h : LagOk A I P g ops s o) (he : g.Ext0 g') : LagOk A I P g' ops s o :=
  ⟨h.1, fun g2 w h2 => h.2 g2 w (he.trans h2)⟩
def Decs (I : Itp) (g : G) (l : List (E × Bool)) : Prop := ∀ c b, getE c l = some b → ∃ n : Int, c.den I g.env = some (.i n) ∧ b = decide (n ≠ 0)
theorem Decs.le {g' : G} (h : g.Le g') {l : List (E × Bool)} (hd : Decs I g l) : Decs I g' l := fun c b hc => let ⟨n, h1, h2⟩ := hd c b hc; ⟨n, E.den_le h h1, h2⟩
theorem wantedD_sound {d : Dr} {o : Oper} (hd : Decs I g d.dec) (hr : Reads I g ops o d.s.tmps a) :
    (wantedD ops d o = some .yes → Region.wanted o (yielded ops a.tmps) = true) ∧ (wantedD ops d o = some .no → Region.wanted o (yielded ops a.tmps) = false) := by
  unfold wantedD Region.wanted
  cases hg : o.guard with
  | none => simp
  | some q =>
    obtain ⟨j, want⟩ := q
    simp only
    cases hj : (ops[j]?).bind (·.dst) with
    | none => simp
    | some t =>
      simp only
      have hm : t ∈ readsOf ops o := by simp only [readsOf, guardT, hg, hj]; simp
      cases ht : get d.s.tmps t with
      | none => simp
      | some v =>
        obtain ⟨x, h1, h2⟩ := hr t hm v ht
        cases v with
        | bool e =>
          obtain ⟨n, h3, rfl⟩ := h2
          rw [yielded_of hj h1]
          simp only
          have fin : ∀ b : Bool, b = decide (n ≠ 0) → ((some (if b == want then Want.yes else .no) = some Want.yes → (some (decide (n ≠ 0)) == some want) = true) ∧ (some (if b == want then Want.yes else .no) = some Want.no → (some (decide (n ≠ 0)) == some want) = false)) := by
            intro b hb
            subst hb
            by_cases hn : n = 0 <;> cases want <;> simp [hn]
          split
          · rename_i m
            simp [E.den] at h3; subst h3
            exact fin _ (by by_cases hn : m = 0 <;> simp [hn])
          · split
            · rename_i b hb
              obtain ⟨n', h4, h5⟩ := hd _ _ hb
              rw [h3] at h4; simp at h4; subst h4
              exact fin b h5
            · simp
        | undef =>
          simp only [Rel] at h2
          subst h2
          have : yielded ops a.tmps j = none := by
            unfold yielded
            rw [hj]
            simp [h1, Go.undef]
          rw [this]
          simp
        | _ => simp
theorem pickIx_inl {dec : List (E × Bool)} (hd : Decs I g dec) {e : E} {m : Int} (he : e.den I g.env = some (.i m)) : ∀ {n j : Nat}, pickIx e dec n = some (.inl j) → m = j
  | 0, j, h => by simp [pickIx] at h
  | n + 1, j, h => by
    simp only [pickIx] at h
    split at h
    · rename_i hb
      simp only [Option.some.injEq, Sum.inl.injEq] at h
      subst h
      obtain ⟨n', h4, h5⟩ := hd _ _ hb
      rw [den_mkBin (o := .eq) he (show (E.lit (n : Int)).den I g.env = some (.i n) from rfl)] at h4
      simp only [Option.some.injEq, D.i.injEq] at h4
      subst h4
      have h6 : BO.eq.ev m n ≠ 0 := of_decide_eq_true h5.symm
      by_cases hm : m = n
      · exact hm
      · exact absurd (show BO.eq.ev m n = 0 by simp only [BO.ev]; exact if_neg hm) h6
    · exact pickIx_inl hd he h
    · simp at h
theorem quietD_sound {d : Dr} {o : Oper} {v : AV} {ps : List PE} (hG : GOk kn.globs A) (hm : MRel A I P g d.s.mem w) (hd : Decs I g d.dec) (hr : Reads I g ops o d.s.tmps a) (h : quietD P kn d o.op = some (.val v ps)) (hp : ∀ p ∈ ps, p.den I g.env) (r : Option Nat) :
    ∃ x, (o.semAt r a.eval).run P w = .ok (.value x) w ∧ Rel I g v x := by
  have hread : ∀ t, .tmp t ∈ o.op.operands.toList → t ∈ readsOf ops o := by
    have h0 : ∀ {l : List Operand} {t : Nat}, .tmp t ∈ l → t ∈ readsT l := by
      intro l
      induction l with
      | nil => intro t h; simp at h
      | cons x l ih =>
        intro t h
        simp at h
        rcases h with h | h
        · subst h; simp [readsT]
        · have := ih h
          cases x <;> simp [readsT, this]
    intro t ht
    exact List.mem_append_right _ (h0 ht)
  have ht : TRel I g (fun t => t ∉ readsOf ops o) d.s.tmps a.tmps := fun t v hv hx => hr t (Decidable.not_not.1 hx) v hv
  unfold quietD at h
  split at h
  · rename_i t x y hop
    have hev : ∀ {z : Operand} {u : AV}, z ∈ o.op.operands.toList → evalOp d.s.tmps z = some u → Rel I g u (a.eval z) := fun hz hu => evalOp_rel ht hu fun t e hx => hx (hread t (e ▸ hz))
    have hsem : ∀ b : Bool, a.eval (.tmp t) = .bool b → (o.semAt r a.eval).run P w = .ok (.value (if b then a.eval x else a.eval y)) w := by
      intro b hb
      rw [Oper.semAt_eq _ _ _ (fun c hc => by rw [hop] at hc; cases hc)]
      simp only [execOp, hop, hb]
      cases b <;> simp [asBool]
    have hmt : t ∈ readsOf ops o := hread t (by rw [hop]; simp [Op.operands])
    split at h
    · rename_i n hg
      obtain ⟨z, h1, m, h2, rfl⟩ := hr t hmt _ hg
      simp [E.den] at h2; subst h2
      refine ⟨_, hsem (decide (n ≠ 0)) (by simp [Act.eval, h1, Array.getD_eq_getD_getElem?]), ?_⟩
      split at h
      · rename_i hn
        subst hn
        simp at h
        obtain ⟨u, h3, rfl, rfl⟩ := h
        simpa using hev (by rw [hop]; simp [Op.operands]) h3
      · rename_i hn
        simp at h
        obtain ⟨u, h3, rfl, rfl⟩ := h
        simpa [hn] using hev (by rw [hop]; simp [Op.operands]) h3
    · rename_i e _ hg
      obtain ⟨z, h1, m, h2, rfl⟩ := hr t hmt _ hg
      split at h
      · rename_i b hb
        obtain ⟨n', h4, h5⟩ := hd _ _ hb
        rw [h2] at h4; simp at h4; subst h4
        refine ⟨_, hsem (decide (m ≠ 0)) (by simp [Act.eval, h1, Array.getD_eq_getD_getElem?]), ?_⟩
        rw [← h5]
        split at h
        · rename_i hbt
          simp at h
          obtain ⟨u, h3, rfl, rfl⟩ := h
          rw [if_pos hbt]
          exact hev (by rw [hop]; simp [Op.operands]) h3
        · rename_i hbt
          simp at h
          obtain ⟨u, h3, rfl, rfl⟩ := h
          rw [if_neg hbt]
          exact hev (by rw [hop]; simp [Op.operands]) h3
      · simp at h
    · cases h
  · split at h
    · rename_i i k e n hsp
      split at h
      · rename_i j hj
        simp only [Option.map_eq_some_iff] at h
        obtain ⟨⟨v', ps'⟩, h1, h2⟩ := h
        cases h2
        have ht' : TRel I g (fun t => t ∉ readsOf ops o) (setInt d.s i k j).tmps a.tmps := by
          intro t v hv hx
          have hv : get (putT i (.int k (.lit j)) d.s.tmps) t = some v := hv
          rw [get_putT] at hv
          by_cases hit : i = t
          · subst hit
            rw [if_pos rfl] at hv
            simp only [Option.some.injEq] at hv
            subst hv
            obtain ⟨z, k1, m, k2, rfl⟩ := ht i _ (splitO_some hsp) hx
            have := pickIx_inl hd k2 hj
            subst this
            exact ⟨_, k1, _, rfl, rfl⟩
          · rw [if_neg hit] at hv
            exact ht t v hv hx
        obtain ⟨x, h3, h4⟩ := quiet_sound hG hm ht' (fun t ht hx => hx (hread t ht)) h1 hp
        refine ⟨x, ?_, h4⟩
        rw [Oper.semAt_eq _ _ _ (fun c hc => quiet_noDefer hc h1)]
        exact h3
      · simp at h
      · cases h
    · simp only [Option.map_eq_some_iff] at h
      obtain ⟨⟨v', ps'⟩, h1, h2⟩ := h
      cases h2
      obtain ⟨x, h3, h4⟩ := quiet_sound hG hm ht (fun t ht hx => hx (hread t ht)) h1 hp
      refine ⟨x, ?_, h4⟩
      rw [Oper.semAt_eq _ _ _ (fun c hc => quiet_noDefer hc h1)]
      exact h3
theorem quietD_ne_skip {d : Dr} {o : Op} (h : quietD P kn d o = some .skip) : False := by
  unfold quietD at h
  split at h
  · split at h
    · split at h <;> simp at h
    · split at h
      · split at h <;> simp at h
      · cases h
    · cases h
  · split at h
    · split at h
      · simp only [Option.map_eq_some_iff] at h
        obtain ⟨⟨v', ps'⟩, _, h2⟩ := h
        cases h2
      · cases h
      · cases h
    · simp only [Option.map_eq_some_iff] at h
      obtain ⟨⟨v', ps'⟩, _, h2⟩ := h
      cases h2
theorem outD_skip {d : Dr} {o : Oper} (hd : Decs I g d.dec) (h : outD P kn ops d o = some .skip) (hr : Reads I g ops o d.s.tmps a) : Region.wanted o (yielded ops a.tmps) = false := by
  unfold outD at h
  split at h
  · exact (quietD_ne_skip h).elim
  · rename_i hw; exact (wantedD_sound hd hr).2 hw
  · cases h
  · cases h
theorem outD_val {d : Dr} {o : Oper} {v : AV} {ps : List PE} (hG : GOk kn.globs A) (hm : MRel A I P g d.s.mem w) (hd : Decs I g d.dec) (h : outD P kn ops d o = some (.val v ps)) (hp : ∀ p ∈ ps, p.den I g.env) (hr : Reads I g ops o d.s.tmps a) :
    Region.wanted o (yielded ops a.tmps) = true ∧ ∀ r : Option Nat, ∃ x, (o.semAt r a.eval).run P w = .ok (.value x) w ∧ Rel I g v x := by
  unfold outD at h
  split at h
  · rename_i hw; exact ⟨(wantedD_sound hd hr).1 hw, quietD_sound hG hm hd hr h hp⟩
  · cases h
  · cases h
  · cases h
def Holds (I : Itp) (g : G) (s : St) (o : Oper) : Out → Prop
  | .skip => ∀ t, o.dst = some t → t < s.nt ∧ get s.tmps t = some .undef
  | .val v ps => (∀ p ∈ ps, p.den I g.env) ∧ ∀ t, o.dst = some t → t < s.nt ∧ ∃ u, get s.tmps t = some u ∧ ∀ (g' : G) x, g.Ext0 g' → Rel I g' v x → Rel I g' u x
  | .dec _ => False
theorem LagOk.of_out {d : Dr} {o : Oper} {out : Out} {s : St} (hG : GOk kn.globs A) (hmem : s.mem = d.s.mem) (hd : Decs I g d.dec) (h : outD P kn ops d o = some out) (hs : ∀ t ∈ readsOf ops o, get s.tmps t = get d.s.tmps t) (hh : Holds I g s o out) :
    LagOk A I P g ops s o := by
  have hr : ∀ {g' : G} {a : Act}, Reads I g' ops o s.tmps a → Reads I g' ops o d.s.tmps a := fun h t ht v hv => h t ht v (by rw [hs t ht]; exact hv)
  have hd' : ∀ {g' : G}, g.Ext0 g' → Decs I g' d.dec := fun he c b hc => by rw [he.env]; exact hd c b hc
  cases out with
  | skip =>
    refine ⟨fun t ht => (hh t ht).1, fun g' w he hm a ha => ⟨fun hw => ?_, fun _ t v ht hv => ?_⟩⟩
    · rw [outD_skip (hd' he) h (hr ha)] at hw; cases hw
    · rw [(hh t ht).2] at hv; cases hv; rfl
  | val v ps =>
    obtain ⟨hp, hh⟩ := hh
    refine ⟨fun t ht => (hh t ht).1, fun g' w he hm a ha => ?_⟩
    rw [hmem] at hm
    obtain ⟨h1, h2⟩ := outD_val hG hm (hd' he) h (by rw [he.env]; exact hp) (hr ha)
    refine ⟨fun _ r => ?_, fun hw => by rw [h1] at hw; cases hw⟩
    obtain ⟨x, h3, h4⟩ := h2 r
    refine ⟨x, h3, fun t u ht hu => ?_⟩
    obtain ⟨_, u', h5, h6⟩ := hh t ht
    rw [hu] at h5; cases h5
    exact h6 g' x he h4
  | dec c => exact hh.elim
def FlOk (I : Itp) (P : Program) (g : G) (ops : Array Oper) (s : St) (o : Oper) (b : Nat) (v : AV) (x : Blk) : Prop :=
  ∀ g' : G, g.Ext g' → ∀ a : Act, Reads I g' ops o s.tmps a → Region.wanted o (yielded ops a.tmps) = true ∧ ∀ (r : Option Nat) (w : World), g'.φ b = none →
    ∃ obj val p, p.blk = w.heap.size ∧ (o.semAt r a.eval).run P w = .ok (.value val) (w.alloc obj) ∧ Rel I (g'.place b p) v val ∧ BRel I P (g'.place b p) b (fun i => (w.alloc obj).heap[i]?) x
theorem FlOk.ext {g1 : G} {s : St} {o : Oper} {b : Nat} {v : AV} {x : Blk} (h : FlOk I P g ops s o b v x) (he : g.Ext g1) : FlOk I P g1 ops s o b v x := fun g' h1 =>
  h g' ⟨by obtain ⟨⟨xs, hx⟩, _⟩ := he; obtain ⟨⟨ys, hy⟩, _⟩ := h1; exact ⟨xs ++ ys, by rw [hy, hx, List.append_assoc]⟩, fun hb => h1.some (he.some hb)⟩
theorem place_self {b : Nat} {p : PB} : (g.place b p).φ b = some p := by simp [G.place]
theorem place_ptr {b k : Nat} : Rel I (g.place b ⟨k, 0, 0⟩) (.ptr b (.lit 0) 0 0) (.pointer (some ⟨k, 0, none⟩)) := ⟨0, ⟨k, 0, 0⟩, rfl, Int.le_refl _, place_self, by simp⟩
theorem place_slice {b k n sz : Nat} : Rel I (g.place b ⟨k, 0, n * sz⟩) (.slice b (.lit 0) (.lit n) sz false) (.slice (some ⟨k, 0, none⟩) n n) :=
  ⟨0, n, rfl, rfl, Int.le_refl _, by omega, .inl ⟨⟨k, 0, n * sz⟩, n, place_self, by simp, by simp, by simp⟩⟩
theorem floatOf_alloc {o : Oper} {t : TypeId} {z : AV} (hop : o.op = .alloc t) (hz : zeroAV P t = some z) (g' : G) (r : Option Nat) (w : World) (b : Nat) (a : Act) :
    ∃ obj val p, p.blk = w.heap.size ∧ (o.semAt r a.eval).run P w = .ok (.value val) (w.alloc obj) ∧ Rel I (g'.place b p) (.ptr b (.lit 0) 0 0) val ∧ BRel I P (g'.place b p) b (fun i => (w.alloc obj).heap[i]?) (.cells z.cells true) := by
  obtain ⟨ti, zx, _, _, hzr, hzrel⟩ := zeroAV_rel hz
  refine ⟨.cells zx.cells t, .pointer (some ⟨w.heap.size, 0, none⟩), ⟨w.heap.size, 0, 0⟩, rfl, ?_, place_ptr, cells_brel (fr := (0, 0)) place_self rfl (heap_alloc_new _ _) (hzrel I _).2 rfl (Nat.zero_le _)⟩
  rw [Oper.semAt_eq _ _ _ (fun c hc => by rw [hop] at hc; cases hc)]
  simp only [execOp, hop, Instr.alloc, Sem.run_bind, hzr, Result.andThen, newVar, newRow, run_newObj_alloc, Sem.run_pure]
theorem floatOf_box {o : Oper} {t : TypeId} {y : Operand} {v : AV} (hop : o.op = .box t y) (g' : G) (r : Option Nat) (w : World) (b : Nat) (hb : g'.φ b = none) (a : Act) (hv : Rel I g' v (a.eval y)) (hne : v ≠ .any) (hnb : v.isBig = false) :
    ∃ obj val p, p.blk = w.heap.size ∧ (o.semAt r a.eval).run P w = .ok (.value val) (w.alloc obj) ∧ Rel I (g'.place b p) (.ptr b (.lit 0) 0 0) val ∧ BRel I P (g'.place b p) b (fun i => (w.alloc obj).heap[i]?) (.cells v.cells true) := by
  refine ⟨.cells (a.eval y).cells t, .pointer (some ⟨w.heap.size, 0, none⟩), ⟨w.heap.size, 0, 0⟩, rfl, ?_, place_ptr, cells_brel (fr := (0, 0)) place_self rfl (heap_alloc_new _ _) ((cells_rel hv hne hnb).ext (G.place_ext hb)) rfl (Nat.zero_le _)⟩
  rw [Oper.semAt_eq _ _ _ (fun c hc => by rw [hop] at hc; cases hc)]
  simp only [execOp, hop, Instr.box, Sem.run_bind, Result.andThen, newVar, newRow, run_newObj_alloc, Sem.run_pure]
theorem floatOf_allocBig {o : Oper} {bg : Big} (hop : o.op = .alloc bg.t) {l m : List AV} (hz : zeroBig P bg = some (l, m)) (g' : G) (r : Option Nat) (w : World) (b : Nat) (a : Act) :
    ∃ obj val p, p.blk = w.heap.size ∧ (o.semAt r a.eval).run P w = .ok (.value val) (w.alloc obj) ∧ Rel I (g'.place b p) (.ptr b (.lit 0) 0 0) val ∧ BRel I P (g'.place b p) b (fun i => (w.alloc obj).heap[i]?) (.big l bg.ks .zt bg.n m true) := by
  obtain ⟨ti, cs, xs, ys, zs, _, _, hcs, hzr, hzrel, hyl, hys⟩ := zeroBig_spec hz
  refine ⟨.cells cs bg.t, .pointer (some ⟨w.heap.size, 0, none⟩), ⟨w.heap.size, 0, 0⟩, rfl, ?_, place_ptr, big_brel (f := fun _ _ => 0) place_self rfl (heap_alloc_new _ _) hcs rfl (hzrel I _).1 (hzrel I _).2 hyl hys⟩
  rw [Oper.semAt_eq _ _ _ (fun c hc => by rw [hop] at hc; cases hc)]
  simp only [execOp, hop, Instr.alloc, Sem.run_bind, hzr, Result.andThen, newVar, newRow, run_newObj_alloc, Sem.run_pure, Value.cells]
theorem floatOf_boxBig {o : Oper} {t : TypeId} {y : Operand} {l m : List AV} {ks : List CK} {e : E} {n : Nat} (hop : o.op = .box t y) (g' : G) (r : Option Nat) (w : World) (b : Nat) (hb : g'.φ b = none) (a : Act) (hv : Rel I g' (.big l ks e n m) (a.eval y)) :
    ∃ obj val p, p.blk = w.heap.size ∧ (o.semAt r a.eval).run P w = .ok (.value val) (w.alloc obj) ∧ Rel I (g'.place b p) (.ptr b (.lit 0) 0 0) val ∧ BRel I P (g'.place b p) b (fun i => (w.alloc obj).heap[i]?) (.big l ks e n m true) := by
  obtain ⟨f, xs, ys, zs, h1, h2, h3, h4, h5, h6⟩ := hv
  have hext := G.place_ext (p := ⟨w.heap.size, 0, 0⟩) hb
  refine ⟨.cells (a.eval y).cells t, .pointer (some ⟨w.heap.size, 0, none⟩), ⟨w.heap.size, 0, 0⟩, rfl, ?_, place_ptr, big_brel place_self rfl (heap_alloc_new _ _) (by rw [h2]; rfl) (E.den_ext hext h1) (h3.ext hext) (h4.ext hext) h5 h6⟩
  rw [Oper.semAt_eq _ _ _ (fun c hc => by rw [hop] at hc; cases hc)]
  simp only [execOp, hop, Instr.box, Sem.run_bind, Result.andThen, newVar, newRow, run_newObj_alloc, Sem.run_pure]
theorem reads_of_operand {o : Oper} {t : Nat} (h : .tmp t ∈ o.op.operands.toList) : t ∈ readsOf ops o := by
  have h0 : ∀ {l : List Operand} {t : Nat}, .tmp t ∈ l → t ∈ readsT l := by
    intro l
    induction l with
    | nil => intro t h; simp at h
    | cons x l ih =>
      intro t h
      simp at h
      rcases h with h | h
      · subst h; simp [readsT]
      · have := ih h
        cases x <;> simp [readsT, this]
  exact List.mem_append_right _ (h0 h)
theorem floatOf_ok {d : Dr} {o : Oper} {v : AV} {x : Blk} (hd : Decs I g d.dec) (hw : isWant (wantedD ops d o) = true) (h : floatOf P kn d.s o.op = some (v, x)) : FlOk I P g ops d.s o d.s.nb v x := by
  intro g' hext a hr
  have hdec : Decs I g' d.dec := fun c b hc => let ⟨n, h1, h2⟩ := hd c b hc; ⟨n, E.den_ext hext h1, h2⟩
  refine ⟨(wantedD_sound hdec hr).1 (by unfold isWant at hw; split at hw <;> simp_all), fun r w hb => ?_⟩
  have ht : TRel I g' (fun t => t ∉ readsOf ops o) d.s.tmps a.tmps := fun t v hv hx => hr t (Decidable.not_not.1 hx) v hv
  have ev0 : ∀ {z : Operand} {u : AV}, z ∈ o.op.operands.toList → evalOp d.s.tmps z = some u → Rel I g' u (a.eval z) := fun hz hu => evalOp_rel ht hu fun t e hx => hx (reads_of_operand (by rw [← e]; exact hz))
  cases hop : o.op with
  | alloc t =>
    rw [hop] at h
    cases hbg : bigOf kn.bigs t with
    | some bg =>
      cases hz : zeroBig P bg with
      | some lm =>
        obtain ⟨l, m⟩ := lm
        simp [floatOf, loudF_eq, loud, hbg, hz, newBlk] at h
        obtain ⟨rfl, rfl⟩ := h
        have ht : bg.t = t := by have := List.find?_some hbg; simpa using this
        subst ht
        exact floatOf_allocBig hop hz g' r w _ a
      | none => simp [floatOf, loudF_eq, loud, hbg, hz] at h
    | none =>
      cases hz : zeroAV P t with
      | some z =>
        by_cases htb : t = kn.bld.1
        · exfalso
          simp only [floatOf, loudF_eq, loud, hbg, hz, Option.isSome_none, Bool.false_eq_true, if_false, if_pos (beq_iff_eq.2 htb)] at h
          split at h
          · rename_i v' s1 hl0
            split at hl0
            · simp only [Option.some.injEq, Prod.mk.injEq, and_true] at hl0
              obtain ⟨_, rfl⟩ := hl0
              cases h
            · cases hl0
          · cases h
        · simp [floatOf, loudF_eq, loud, hbg, hz, newBlk, htb] at h
          obtain ⟨rfl, rfl⟩ := h
          exact floatOf_alloc hop hz g' r w _ a
      | none => simp [floatOf, loudF_eq, loud, hbg, hz] at h
  | box t y =>
    rw [hop] at h
    have ev : ∀ {u : AV}, evalOp d.s.tmps y = some u → Rel I g' u (a.eval y) := fun hu => ev0 (by rw [hop]; simp [Op.operands]) hu
    cases hu : evalOp d.s.tmps y with
    | none => simp [floatOf, loudF_eq, loud, hu] at h
    | some u =>
      by_cases hnb : u.isBig = true
      · cases u <;> simp [AV.isBig] at hnb
        rename_i l ks e n m
        simp only [floatOf, loudF_eq, loud, hu] at h
        by_cases hc : l.all AV.one = true ∧ m.all AV.one = true
        · rw [if_pos hc] at h
          simp [newBlk] at h
          obtain ⟨rfl, rfl⟩ := h
          exact floatOf_boxBig hop g' r w _ hb a (ev hu)
        · rw [if_neg hc] at h
          simp at h
      · by_cases hc : u.cells.all AV.one = true
        · have : floatOf P kn d.s (.box t y) = some (.ptr d.s.nb (.lit 0) 0 0, .cells u.cells true) := by
            cases u <;> first | (simp [AV.isBig] at hnb; done) | (simp only [floatOf, loudF_eq, loud, hu]; rw [if_pos hc]; rfl)
          rw [this] at h
          cases h
          exact floatOf_box hop g' r w _ hb a (ev hu) (evalOp_ne hu) (by simpa using hnb)
        · exfalso
          have : floatOf P kn d.s (.box t y) = none := by
            cases u <;> first | (simp [AV.isBig] at hnb; done) | (simp only [floatOf, loudF_eq, loud, hu]; rw [if_neg hc])
          rw [this] at h
          cases h
  | makeSlice t lo co =>
    have hsem : (o.semAt r a.eval).run P w = (execOp a.eval o).run P w := by
      rw [Oper.semAt_eq _ _ _ (fun c hc => by rw [hop] at hc; cases hc)]
    rw [hop] at h
    simp only [floatOf] at h
    split at h
    · rename_i v' s1 hl0
      split at h
      · rename_i bb x' hmem
        simp at h
        obtain ⟨rfl, rfl⟩ := h
        simp only [loudF_eq, loud] at hl0
        split at hl0
        · rename_i el k1 x1 k2 y1 hu hl hc
          split at hl0
          · rename_i z sz bytes hz hsz hbb
            split at hl0
            · rename_i hcond
              obtain ⟨h0, rfl, h1, h2, h3⟩ := hcond
              have hl' := ev0 (by rw [hop]; simp [Op.operands]) hl
              have hc' := ev0 (by rw [hop]; simp [Op.operands]) hc
              split at hl0
              · rename_i ks hks
                split at hl0
                · rename_i haz
                  simp at hl0
                  obtain ⟨rfl, rfl⟩ := hl0
                  simp [newBlk] at hmem
                  obtain ⟨_, rfl⟩ := hmem
                  obtain ⟨cs, n, rfl, hrun, hbr⟩ := makeSlice_new (w := w) hop hu hl' hc' hz hsz hbb h0 h1 h2 h3 hks haz
                  exact ⟨_, _, ⟨w.heap.size, 0, n * sz⟩, rfl, by rw [hsem]; exact hrun, place_slice, hbr _ _ place_self⟩
                · cases hl0
              · split at hl0
                · simp at hl0
                  obtain ⟨rfl, rfl⟩ := hl0
                  simp [newBlk] at hmem
                  obtain ⟨_, rfl⟩ := hmem
                  obtain ⟨cs, n, rfl, hrun, hbr⟩ := makeCells_new (w := w) hop hu hl' hc' hz hsz hbb h0 h1 h2 h3
                  exact ⟨_, _, ⟨w.heap.size, 0, n * sz⟩, rfl, by rw [hsem]; exact hrun, place_slice, hbr _ _ place_self⟩
                · cases hl0
            · cases hl0
          · cases hl0
        · cases hl0
      · cases h
    · cases h
  | buildSlice t n parts =>
    have hsem : (o.semAt r a.eval).run P w = (execOp a.eval o).run P w := by
      rw [Oper.semAt_eq _ _ _ (fun c hc => by rw [hop] at hc; cases hc)]
    rw [hop] at h
    simp only [floatOf] at h
    split at h
    · rename_i v' s1 hl0
      split at h
      · rename_i bb x' hmem
        simp at h
        obtain ⟨rfl, rfl⟩ := h
        simp only [loudF_eq, loud] at hl0
        split at hl0
        · rename_i el hu
          split at hl0
          · rename_i z sz ps hz hsz hps
            split at hl0
            · rename_i hcond
              split at hl0
              · rename_i vs hf
                split at hl0
                · simp at hl0
                  obtain ⟨rfl, rfl⟩ := hl0
                  simp [newBlk] at hmem
                  obtain ⟨_, rfl⟩ := hmem
                  obtain ⟨ds, hrun, h5, hl⟩ := buildSlice_new (w := w) ht hop (fun t' ht' hx => hx (reads_of_operand ht')) hu hz hsz hps hcond.1 hcond.2 hf
                  exact ⟨_, _, ⟨w.heap.size, 0, n * sz⟩, rfl, by rw [hsem]; exact hrun, place_slice, sliceBlk_brel place_self rfl (by rw [hcond.1]) (heap_alloc_new _ _) (h5.ext (G.place_ext hb)) hl⟩
                · cases hl0
              · cases hl0
            · cases hl0
          · cases hl0
        · cases hl0
      · cases h
    · cases h
  | makeMap t q =>
    rw [hop] at h
    cases q with
    | some _ => simp [floatOf, loudF_eq, loud] at h
    | none =>
      simp [floatOf, loudF_eq, loud, newBlk] at h
      obtain ⟨rfl, rfl⟩ := h
      refine ⟨.map #[] 0, .map (some w.heap.size), ⟨w.heap.size, 0, 0⟩, rfl, ?_, ⟨_, place_self, rfl⟩, ⟨_, #[], 0, place_self, heap_alloc_new _ _, trivial, trivial⟩⟩
      rw [Oper.semAt_eq _ _ _ (fun c hc => by rw [hop] at hc; cases hc)]
      simp only [execOp, hop, Option.map_none, Instr.makeMap, Sem.run_bind, Result.andThen, run_newObj_alloc, Sem.run_pure]
  | _ => rw [hop] at h; simp [floatOf] at h
def Lagging (ops : Array Oper) (done : Ns) (listed : Array Bool) (t : Nat) : Prop := ∃ i o, i ∈ done ∧ listed.getD i false = false ∧ ops[i]? = some o ∧ o.dst = some t
def flSel (p : Nat → Bool) : List (Nat × Nat × Blk) → Mem
  | [] => []
  | (i, b, x) :: l => if p i then (b, x) :: flSel p l else flSel p l
theorem flBefore_sel {bf : Nat} : ∀ {l : List (Nat × Nat × Blk)}, flBefore bf l = flSel (fun i => bf.testBit i) l
  | [] => rfl
  | (i, b, x) :: l => by simp only [flBefore, flSel]; rw [flBefore_sel]
theorem flAll_sel {p : Nat → Bool} : ∀ {l : List (Nat × Nat × Blk)}, (∀ i b x, (i, b, x) ∈ l → p i = true) → flAll l = flSel p l
  | [], _ => rfl
  | (i, b, x) :: l, h => by
    simp only [flAll, flSel]
    rw [if_pos (h i b x (by simp)), flAll_sel fun i b x hm => h i b x (by simp [hm])]
theorem flSel_congr {p q : Nat → Bool} : ∀ {l : List (Nat × Nat × Blk)}, (∀ i b x, (i, b, x) ∈ l → p i = q i) → flSel p l = flSel q l
  | [], _ => rfl
  | (i, b, x) :: l, h => by
    simp only [flSel]
    rw [h i b x (by simp), flSel_congr fun i b x hm => h i b x (by simp [hm])]
theorem mem_flAfter {bf : Nat} {y : Nat × Nat × Blk} : ∀ {l : List (Nat × Nat × Blk)}, y ∈ flAfter bf l ↔ y ∈ l ∧ bf.testBit y.1 = false
  | [] => by simp [flAfter]
  | z :: l => by
    simp only [flAfter]
    split
    · rename_i hz
      rw [mem_flAfter]
      constructor
      · rintro ⟨h1, h2⟩; exact ⟨by simp [h1], h2⟩
      · rintro ⟨h1, h2⟩
        rcases List.mem_cons.1 h1 with rfl | h1
        · rw [hz] at h2; cases h2
        · exact ⟨h1, h2⟩
    · rename_i hz
      rw [List.mem_cons, mem_flAfter]
      constructor
      · rintro (rfl | ⟨h1, h2⟩)
        · exact ⟨by simp, by simpa using hz⟩
        · exact ⟨by simp [h1], h2⟩
      · rintro ⟨h1, h2⟩
        rcases List.mem_cons.1 h1 with rfl | h1
        · exact .inl rfl
        · exact .inr ⟨h1, h2⟩
theorem nodup_flAfter {bf : Nat} {f : Nat × Nat × Blk → Nat} : ∀ {l : List (Nat × Nat × Blk)}, nodup (l.map f) = true → nodup ((flAfter bf l).map f) = true
  | [], _ => rfl
  | z :: l, h => by
    simp only [List.map_cons, nodup, Bool.and_eq_true, Bool.not_eq_true', ← Bool.not_eq_true, List.contains_iff_mem] at h
    simp only [flAfter]
    split
    · exact nodup_flAfter h.2
    · simp only [List.map_cons, nodup, Bool.and_eq_true, Bool.not_eq_true', ← Bool.not_eq_true, List.contains_iff_mem]
      refine ⟨fun hm => h.1 ?_, nodup_flAfter h.2⟩
      obtain ⟨y, h1, h2⟩ := List.mem_map.1 hm
      exact List.mem_map.2 ⟨y, (mem_flAfter.1 h1).1, h2⟩
theorem nodup_inj {α : Type} {f : α → Nat} : ∀ {l : List α}, nodup (l.map f) = true → ∀ {y z : α}, y ∈ l → z ∈ l → f y = f z → y = z
  | [], _, y, z, h, _, _ => by cases h
  | u :: l, h, y, z, h1, h2, h3 => by
    simp only [List.map_cons, nodup, Bool.and_eq_true, Bool.not_eq_true', ← Bool.not_eq_true, List.contains_iff_mem] at h
    rcases List.mem_cons.1 h1 with h4 | h4 <;> rcases List.mem_cons.1 h2 with h5 | h5
    · rw [h4, h5]
    · rw [h4] at h3; exact (h.1 (List.mem_map.2 ⟨z, h5, h3.symm⟩)).elim
    · rw [h5] at h3; exact (h.1 (List.mem_map.2 ⟨y, h4, h3⟩)).elim
    · exact nodup_inj h.2 h4 h5 h3
theorem flSel_get {p : Nat → Bool} : ∀ {l : List (Nat × Nat × Blk)}, nodup (l.map fun y => y.2.1) = true → ∀ {b : Nat} {x : Blk}, get (flSel p l) b = some x ↔ ∃ i, (i, b, x) ∈ l ∧ p i = true
  | [], _, b, x => by simp [flSel, get_nil]
  | (i0, b0, x0) :: l, h, b, x => by
    have h0 := h
    simp only [List.map_cons, nodup, Bool.and_eq_true, Bool.not_eq_true', ← Bool.not_eq_true, List.contains_iff_mem] at h
    simp only [flSel]
    split
    · rename_i hp
      simp only [get_cons]
      split
      · rename_i hb
        constructor
        · intro e; cases e; exact ⟨i0, by simp [hb], hp⟩
        · rintro ⟨i, h1, _⟩
          have := nodup_inj h0 h1 (z := (i0, b0, x0)) (by simp) hb.symm
          cases this; rfl
      · rename_i hb
        rw [flSel_get h.2]
        constructor
        · rintro ⟨i, h1, h2⟩; exact ⟨i, by simp [h1], h2⟩
        · rintro ⟨i, h1, h2⟩
          rcases List.mem_cons.1 h1 with e | h1
          · cases e; exact absurd rfl hb
          · exact ⟨i, h1, h2⟩
    · rename_i hp
      rw [flSel_get h.2]
      constructor
      · rintro ⟨i, h1, h2⟩; exact ⟨i, by simp [h1], h2⟩
      · rintro ⟨i, h1, h2⟩
        rcases List.mem_cons.1 h1 with e | h1
        · cases e; exact absurd h2 hp
        · exact ⟨i, h1, h2⟩
structure DInv (A : Amb) (I : Itp) (P : Program) (ops : Array Oper) (g : G) (d : Dr) (listed : Array Bool) (a : Act) (w : World) : Prop where
  sr : SRel A I P (Lagging ops d.done listed) g { d.s with mem := flSel (fun i => listed.getD i false) d.fl ++ d.s.mem } a w
  size : listed.size = ops.size
  sub : ∀ i, listed.getD i false = true → i ∈ d.done
  qs : ∀ i ∈ d.done, listed.getD i false = false → (∀ b x, (i, b, x) ∉ d.fl) → i ∈ d.qs
  lag : ∀ i o, i ∈ d.done → listed.getD i false = false → (∀ b x, (i, b, x) ∉ d.fl) → ops[i]? = some o → LagOk A I P g ops d.s o
  fdone : ∀ i b x, (i, b, x) ∈ d.fl → i ∈ d.done ∧ i < ops.size ∧ b < d.s.nb ∧ get d.s.mem b = none
  fkey : nodup (d.fl.map fun y => y.2.1) = true
  fidx : nodup (d.fl.map fun y => y.1) = true
  fwait : ∀ i b x o, (i, b, x) ∈ d.fl → listed.getD i false = false → ops[i]? = some o → g.φ b = none ∧ ∃ v, FlOk I P g ops d.s o b v x ∧ ∀ t, o.dst = some t → t < d.s.nt ∧ get d.s.tmps t = some v
  bar : ∀ i, i ∈ d.done → listed.getD i false = false → isBar ops i = false
  dec : Decs I g d.dec
  dcl : Closed ops (· ∈ d.done)
  lcl : Closed ops (fun i => listed.getD i false = true)
theorem SRel.weaken {X Y : Nat → Prop} {s : St} (h : SRel A I P X g s a w) (hXY : ∀ t, X t → Y t) : SRel A I P Y g s a w :=
  ⟨h.m, fun t v ht hy => h.t t v ht fun hx => hy (hXY t hx), h.nt, h.d, h.nv, h.nb⟩
theorem getD_set {l : Array Bool} {j i : Nat} (hj : j < l.size) : (l.setIfInBounds j true).getD i false = if i = j then true else l.getD i false := by
  by_cases h : i = j
  · subst h; simp [Array.getD_eq_getD_getElem?, hj]
  · rw [if_neg h]; simp [Array.getD_eq_getD_getElem?, Array.getElem?_setIfInBounds_ne (Ne.symm h)]
theorem lt_of_getElem? {j : Nat} {o : Oper} (ho : ops[j]? = some o) : j < ops.size := (Array.getElem?_eq_some_iff.1 ho).1
theorem LagOk.tmps {s s' : St} {o : Oper} (h : LagOk A I P g ops s o) (hm : s'.mem = s.mem) (hn : s'.nt = s.nt) (hr : ∀ t ∈ readsOf ops o, get s'.tmps t = get s.tmps t) (hd : ∀ t, o.dst = some t → get s'.tmps t = get s.tmps t) :
    LagOk A I P g ops s' o := by
  refine ⟨fun t ht => by rw [hn]; exact h.1 t ht, fun g' w he hm' a ha => ?_⟩
  obtain ⟨h1, h2⟩ := h.2 g' w he (by rw [← hm]; exact hm') a fun t ht u hu => ha t ht u (by rw [hr t ht]; exact hu)
  refine ⟨fun hw r => ?_, fun hw t u ht hu => h2 hw t u ht (by rw [← hd t ht]; exact hu)⟩
  obtain ⟨x, h3, h4⟩ := h1 hw r
  exact ⟨x, h3, fun t u ht hu => h4 t u ht (by rw [← hd t ht]; exact hu)⟩
theorem FlOk.tmps {s s' : St} {o : Oper} {b : Nat} {v : AV} {x : Blk} (h : FlOk I P g ops s o b v x) (hr : ∀ t ∈ readsOf ops o, get s'.tmps t = get s.tmps t) : FlOk I P g ops s' o b v x :=
  fun g' he a ha => h g' he a fun t ht u hu => ha t ht u (by rw [hr t ht]; exact hu)
theorem DInv.reads {d : Dr} {listed : Array Bool} (h : DInv A I P ops g d listed a w) {j : Nat} {o : Oper} (ho : ops[j]? = some o)
    (ha : ∀ e ∈ o.after.toList, Region.binds .any e = true → listed.getD e.on false = true) : ∀ t ∈ readsOf ops o, ¬ Lagging ops d.done listed t := by
  rintro t ht ⟨i, oi, h1, h2, h3, h4⟩
  have hb := notBar (h.bar i h1 h2) h3 h4 ho ht
  obtain ⟨o', ho', e, h5, h6, h7⟩ := before_bit hb
  rw [ho] at ho'; cases ho'
  have h8 := ha e h5 h6
  rcases h7 with rfl | h7
  · rw [h8] at h2; cases h2
  · have := h.lcl _ h8 _ h7
    simp only at this
    rw [this] at h2; cases h2
theorem DInv.reads' {d : Dr} {listed : Array Bool} (h : DInv A I P ops g d listed a w) {j : Nat} {o : Oper} (ho : ops[j]? = some o)
    (ha : ∀ e ∈ o.after.toList, Region.binds .any e = true → listed.getD e.on false = true) : Reads I g ops o d.s.tmps a := fun t ht v hv => h.sr.t t v hv (h.reads ho ha t ht)
theorem DInv.listed_cl {d : Dr} {listed : Array Bool} (h : DInv A I P ops g d listed a w) {j : Nat} {o : Oper} (ho : ops[j]? = some o)
    (ha : ∀ e ∈ o.after.toList, Region.binds .any e = true → listed.getD e.on false = true) : Closed ops fun i => (listed.setIfInBounds j true).getD i false = true := by
  have hj : j < listed.size := by rw [h.size]; exact lt_of_getElem? ho
  have := h.lcl.add ho ha
  intro i hi k hk
  rw [getD_set hj] at hi ⊢
  have h1 := this i (by
    split at hi
    · rename_i e; exact .inl e
    · exact .inr hi) k hk
  rcases h1 with rfl | h1
  · simp
  · split
    · rfl
    · exact h1
theorem DInv.mem_sub {d : Dr} {listed : Array Bool} (h : DInv A I P ops g d listed a w) : MRel A I P g d.s.mem w :=
  h.sr.m.sub fun c y hc => by
    rw [get_app]
    split
    · rename_i z hz
      obtain ⟨i, h1, _⟩ := (flSel_get h.fkey).1 hz
      rw [(h.fdone i c z h1).2.2.2] at hc; cases hc
    · exact hc
theorem DInv.catch_up {d : Dr} {listed : Array Bool} (_hD : DrawOk ops) (h : DInv A I P ops g d listed a w) {j : Nat} {o : Oper} (ho : ops[j]? = some o) (hj : j ∈ d.done) (hfl : ∀ b x, (j, b, x) ∉ d.fl)
    (ha : ∀ e ∈ o.after.toList, Region.binds .any e = true → listed.getD e.on false = true) (hnt : ∀ t, o.dst = some t → t < d.s.nt) {x : Value}
    (hx : ∀ t v, o.dst = some t → get d.s.tmps t = some v → Rel I g v x) : DInv A I P ops g d (listed.setIfInBounds j true) (a.put o.dst x) w := by
  have hjl : j < listed.size := by rw [h.size]; exact lt_of_getElem? ho
  have hsel : flSel (fun i => (listed.setIfInBounds j true).getD i false) d.fl = flSel (fun i => listed.getD i false) d.fl :=
    flSel_congr fun i b x hm => by rw [getD_set hjl, if_neg (fun e : i = j => hfl b x (e ▸ hm))]
  refine ⟨⟨by rw [hsel]; exact h.sr.m, fun t v hv ht => ?_, ?_, ?_, h.sr.nv, h.sr.nb⟩, by simpa using h.size, fun i hi => ?_, fun i hi hl => ?_, fun i oi hi hl hf hoi => ?_, h.fdone, h.fkey, h.fidx, fun i b y oi hm hl hoi => ?_, fun i hi hl => ?_, h.dec, h.dcl, h.listed_cl ho ha⟩
  · by_cases hd : o.dst = some t
    · refine ⟨x, ?_, hx t v hd hv⟩
      have hsz : t < a.tmps.size := by have := h.sr.nt; simp only at this; rw [this]; exact hnt t hd
      simp [Act.put, hd, hsz]
    · have hnl : ¬ Lagging ops d.done listed t := by
        rintro ⟨i, oi, h1, h2, h3, h4⟩
        by_cases hij : i = j
        · subst hij; rw [ho] at h3; cases h3; exact hd h4
        · exact ht ⟨i, oi, h1, by rw [getD_set hjl, if_neg hij]; exact h2, h3, h4⟩
      obtain ⟨y, h1, h2⟩ := h.sr.t t v hv hnl
      refine ⟨y, ?_, h2⟩
      cases hdd : o.dst with
      | none => simpa [Act.put] using h1
      | some t' =>
        have : t' ≠ t := fun e => hd (by rw [hdd, e])
        simp [Act.put, Array.getElem?_setIfInBounds_ne this, h1]
  · have := h.sr.nt
    cases hdd : o.dst <;> simpa [Act.put] using this
  · have := h.sr.d
    cases hdd : o.dst <;> simpa [Act.put] using this
  · rw [getD_set hjl] at hi
    split at hi
    · rename_i e; subst e; exact hj
    · exact h.sub i hi
  · rw [getD_set hjl] at hl
    split at hl
    · cases hl
    · exact h.qs i hi hl
  · rw [getD_set hjl] at hl
    split at hl
    · cases hl
    · exact h.lag i oi hi hl hf hoi
  · rw [getD_set hjl] at hl
    split at hl
    · cases hl
    · exact h.fwait i b y oi hm hl hoi
  · rw [getD_set hjl] at hl
    split at hl
    · cases hl
    · exact h.bar i hi hl
theorem DInv.catch_float {d : Dr} {listed : Array Bool} (h : DInv A I P ops g d listed a w) {j : Nat} {o : Oper} (ho : ops[j]? = some o) (hj : j ∈ d.done) (hjf : listed.getD j false = false)
    (ha : ∀ e ∈ o.after.toList, Region.binds .any e = true → listed.getD e.on false = true) {b : Nat} {x : Blk} (hm : (j, b, x) ∈ d.fl) {obj : Obj} {val : Value} {p : PB} (hpb : p.blk = w.heap.size)
    (hval : ∀ t v, o.dst = some t → get d.s.tmps t = some v → Rel I (g.place b p) v val) (hdst : ∀ t, o.dst = some t → t < d.s.nt)
    (hx : BRel I P (g.place b p) b (fun i => (w.alloc obj).heap[i]?) x) :
    DInv A I P ops (g.place b p) d (listed.setIfInBounds j true) (a.put o.dst val) (w.alloc obj) := by
  have hjl : j < listed.size := by rw [h.size]; exact lt_of_getElem? ho
  obtain ⟨_, _, hbnb, hbm⟩ := h.fdone j b x hm
  obtain ⟨hφ, _⟩ := h.fwait j b x o hm hjf ho
  have hext := G.place_ext (p := p) hφ
  have hext0 : g.Ext0 (g.place b p) := ⟨rfl, Nat.le_refl _, hext.some⟩
  have huniq : ∀ {i : Nat} {z : Blk}, (i, b, z) ∈ d.fl → i = j := fun {i z} hi => by
    have := nodup_inj h.fkey hi hm rfl
    cases this; rfl
  have hsel0 : get (flSel (fun i => listed.getD i false) d.fl ++ d.s.mem) b = none := by
    rw [get_app]
    split
    · rename_i z hz
      obtain ⟨i, h1, h2⟩ := (flSel_get h.fkey).1 hz
      have := huniq h1; subst this
      rw [hjf] at h2; cases h2
    · exact hbm
  have hnb : b < g.nb := by rw [h.sr.nb]; exact hbnb
  have hm1 := h.sr.m.place (o := obj) (x := x) (p := p) hnb hφ hsel0 hpb hx
  refine ⟨⟨hm1.sub fun c y hc => ?_, fun t v hv ht => ?_, ?_, ?_, h.sr.nv, h.sr.nb⟩, by simpa using h.size, fun i hi => ?_, fun i hi hl => ?_, fun i oi hi hl hf hoi => ?_, h.fdone, h.fkey, h.fidx, fun i c y oi hmi hl hoi => ?_, fun i hi hl => ?_, fun c b hc => h.dec c b hc, h.dcl, h.listed_cl ho ha⟩
  · simp only at hc
    rw [get_app] at hc
    simp only [get_cons]
    split at hc
    · rename_i z hz
      cases hc
      obtain ⟨i, h1, h2⟩ := (flSel_get h.fkey).1 hz
      rw [getD_set hjl] at h2
      by_cases hij : i = j
      · subst hij
        have := nodup_inj h.fidx h1 hm rfl
        cases this
        rw [if_pos rfl]
      · rw [if_neg hij] at h2
        have hbc : b ≠ c := fun e => hij (huniq (e ▸ h1))
        rw [if_neg hbc, get_app, (flSel_get h.fkey).2 ⟨i, h1, h2⟩]
    · rename_i hz
      have hbc : b ≠ c := fun e => by subst e; rw [hbm] at hc; cases hc
      rw [if_neg hbc, get_app]
      split
      · rename_i z hz'
        obtain ⟨i, h1, h2⟩ := (flSel_get h.fkey).1 hz'
        rw [(h.fdone i c z h1).2.2.2] at hc; cases hc
      · exact hc
  · by_cases hd : o.dst = some t
    · have h1 := hdst t hd
      have hv : get d.s.tmps t = some v := hv
      have hsz : t < a.tmps.size := by have := h.sr.nt; simp only at this; rw [this]; exact h1
      exact ⟨val, by simp [Act.put, hd, hsz], hval t v hd hv⟩
    · have hnl : ¬ Lagging ops d.done listed t := by
        rintro ⟨i, oi, h1, h2, h3, h4⟩
        by_cases hij : i = j
        · subst hij; rw [ho] at h3; cases h3; exact hd h4
        · exact ht ⟨i, oi, h1, by rw [getD_set hjl, if_neg hij]; exact h2, h3, h4⟩
      obtain ⟨y, h1, h2⟩ := h.sr.t t v hv hnl
      refine ⟨y, ?_, h2.ext hext⟩
      cases hdd : o.dst with
      | none => simpa [Act.put] using h1
      | some t' =>
        have : t' ≠ t := fun e => hd (by rw [hdd, e])
        simp [Act.put, Array.getElem?_setIfInBounds_ne this, h1]
  · have := h.sr.nt
    cases hdd : o.dst <;> simpa [Act.put] using this
  · have := h.sr.d.ext hext
    cases hdd : o.dst <;> simpa [Act.put] using this
  · rw [getD_set hjl] at hi
    split at hi
    · rename_i e; subst e; exact hj
    · exact h.sub i hi
  · rw [getD_set hjl] at hl
    split at hl
    · cases hl
    · exact h.qs i hi hl
  · rw [getD_set hjl] at hl
    split at hl
    · cases hl
    · exact (h.lag i oi hi hl hf hoi).ext hext0
  · rw [getD_set hjl] at hl
    split at hl
    · cases hl
    · rename_i hij
      obtain ⟨h1, v, h2, h3⟩ := h.fwait i c y oi hmi hl hoi
      have hcb : c ≠ b := fun e => hij (huniq (e ▸ hmi))
      exact ⟨by simp [G.place, hcb, h1], v, h2.ext hext, h3⟩
  · rw [getD_set hjl] at hl
    split at hl
    · cases hl
    · exact h.bar i hi hl
theorem setT_spec {s s' : St} {dst : Option Tmp} {v : AV} (h : setT s dst v = some s') :
    s'.mem = s.mem ∧ s'.nt = s.nt ∧ s'.defers = s.defers ∧ s'.nv = s.nv ∧ s'.nb = s.nb ∧ (∀ t, dst = some t → t < s.nt) ∧ ∀ t, get s'.tmps t = if dst = some t then some v else get s.tmps t := by
  rw [setT_eq] at h
  cases dst with
  | none => simp at h; subst h; simp
  | some d =>
    simp only at h
    split at h
    · rename_i hd
      simp at h; subst h
      refine ⟨rfl, rfl, rfl, rfl, rfl, fun t ht => by cases ht; exact hd, fun t => ?_⟩
      rw [get_putT]
      by_cases ht : d = t
      · subst ht; simp
      · rw [if_neg ht, if_neg (by simp; exact ht)]
    · cases h
theorem mem_restL {m : Ns} {l : List Nat} {i : Nat} : i ∈ restL m l ↔ i ∈ l ∧ i ∉ m := by
  rw [restL_eq, List.mem_filter, Ns.mem_iff]; simp
theorem needOf_bit {j : Nat} : ∀ {l : List Edge}, (needOf l).testBit j = true ↔ ∃ e ∈ l, Region.binds .any e = true ∧ e.on = j
  | [] => by simp [needOf]
  | e :: l => by
    simp only [needOf]
    split
    · rename_i hb
      show ((needOf l) ||| (1 <<< e.on)).testBit j = true ↔ _
      rw [Nat.testBit_or, Bool.or_eq_true, needOf_bit, Nat.one_shiftLeft, Nat.testBit_two_pow, decide_eq_true_eq]
      constructor
      · rintro (⟨e', h1, h2⟩ | h)
        · exact ⟨e', by simp [h1], h2⟩
        · exact ⟨e, by simp, hb, h⟩
      · rintro ⟨e', h1, h2⟩
        rcases List.mem_cons.1 h1 with rfl | h1
        · exact .inr h2.2
        · exact .inl ⟨e', h1, h2⟩
    · rename_i hb
      rw [needOf_bit]
      constructor
      · rintro ⟨e', h1, h2⟩; exact ⟨e', by simp [h1], h2⟩
      · rintro ⟨e', h1, h2⟩
        rcases List.mem_cons.1 h1 with rfl | h1
        · exact absurd h2.1 hb
        · exact ⟨e', h1, h2⟩
theorem afterOk_iff {done : Ns} {l : List Edge} : afterOk done l = true ↔ ∀ e ∈ l, Region.binds .any e = true → e.on ∈ done := by
  have h0 : afterOk done l = true ↔ (needOf l) &&& (show Nat from done) = needOf l := by
    unfold afterOk
    rw [Nat.beq_eq]; rfl
  rw [h0]
  constructor
  · intro h e he hb
    rw [Ns.mem_iff, Ns.has_eq]
    have h1 := needOf_bit.2 ⟨e, he, hb, rfl⟩
    rw [← h, Nat.testBit_and, Bool.and_eq_true] at h1
    exact h1.2
  · intro h
    apply Nat.eq_of_testBit_eq
    intro j
    rw [Nat.testBit_and]
    cases hj : (needOf l).testBit j with
    | false => rfl
    | true =>
      obtain ⟨e, he, hb, rfl⟩ := needOf_bit.1 hj
      have := h e he hb
      rw [Ns.mem_iff, Ns.has_eq] at this
      rw [Bool.true_and]; exact this
theorem readyA_spec {o : Oper} {done : Ns} : readyA o done = true ↔ ∀ e ∈ o.after.toList, Region.binds .any e = true → e.on ∈ done := afterOk_iff
theorem DInv.ahead {d : Dr} {listed : Array Bool} (hG : GOk kn.globs A) (hD : DrawOk ops) (h : DInv A I P ops g d listed a w) {i : Nat} {o : Oper} (ho : ops[i]? = some o) (hi : i ∉ d.done) (hrd : readyA o d.done = true) (hbar : isBar ops i = false)
    {v : AV} {s' : St} (hset : setT d.s o.dst v = some s') {out : Out} (hout : outD P kn ops d o = some out) (hh : Holds I g s' o out) :
    DInv A I P ops g { d with s := s', done := d.done.add i, qs := i :: d.qs } listed a w := by
  obtain ⟨h1, h2, h3, h4, h5, h6, h7⟩ := setT_spec hset
  have hnl : listed.getD i false = false := by
    cases hl : listed.getD i false with
    | false => rfl
    | true => exact absurd (h.sub i hl) hi
  have hown : ∀ t ∈ readsOf ops o, get s'.tmps t = get d.s.tmps t := fun t ht => by
    rw [h7 t, if_neg]
    intro e
    have := hD.before_lt (notBar hbar ho e ho ht)
    omega
  have hst : ∀ {k : Nat} {ok : Oper}, k ∈ d.done → ops[k]? = some ok → ∀ t ∈ readsOf ops ok, get s'.tmps t = get d.s.tmps t := fun {k ok} hk hok t ht => by
    rw [h7 t, if_neg]
    intro e
    exact hi (h.dcl k hk i (notBar hbar ho e hok ht))
  have hdst : ∀ {k : Nat} {ok : Oper}, k ∈ d.done → ops[k]? = some ok → ∀ t, ok.dst = some t → get s'.tmps t = get d.s.tmps t := fun {k ok} hk hok t ht => by
    rw [h7 t, if_neg]
    intro e
    have := hD.inj ho hok e ht
    subst this; exact hi hk
  refine ⟨⟨by rw [h1]; exact h.sr.m, fun t u hu ht => ?_, by show a.tmps.size = s'.nt; rw [h2]; exact h.sr.nt, by show DRel I g s'.defers a.defers; rw [h3]; exact h.sr.d, by show g.env.length = s'.nv; rw [h4]; exact h.sr.nv, by show g.nb = s'.nb; rw [h5]; exact h.sr.nb⟩, h.size, fun k hk => Ns.mem_add.2 (.inr (h.sub k hk)), fun k hk hl hf => ?_, fun k ok hk hl hf hok => ?_, fun k b x hm => ?_, h.fkey, h.fidx, fun k b x ok hm hl hok => ?_, fun k hk hl => ?_, h.dec, ?_, h.lcl⟩
  · have hne : o.dst ≠ some t := fun e => ht ⟨i, o, Ns.mem_add.2 (.inl rfl), hnl, ho, e⟩
    have hu : get s'.tmps t = some u := hu
    rw [h7 t, if_neg hne] at hu
    exact h.sr.t t u hu fun ⟨k, ok, hk1, hk2, hk3, hk4⟩ => ht ⟨k, ok, Ns.mem_add.2 (.inr hk1), hk2, hk3, hk4⟩
  · rcases Ns.mem_add.1 hk with rfl | hk
    · simp
    · exact List.mem_cons_of_mem _ (h.qs k hk hl hf)
  · rcases Ns.mem_add.1 hk with rfl | hk
    · rw [ho] at hok; cases hok
      exact LagOk.of_out (s := s') hG h1 h.dec hout hown hh
    · exact (h.lag k ok hk hl hf hok).tmps h1 h2 (hst hk hok) (hdst hk hok)
  · obtain ⟨h8, h9, h10, h11⟩ := h.fdone k b x hm
    exact ⟨Ns.mem_add.2 (.inr h8), h9, by show b < s'.nb; rw [h5]; exact h10, by show get s'.mem b = none; rw [h1]; exact h11⟩
  · obtain ⟨h8, vv, h9, h10⟩ := h.fwait k b x ok hm hl hok
    have hk := (h.fdone k b x hm).1
    exact ⟨h8, vv, h9.tmps (hst hk hok), fun t ht => ⟨by show t < s'.nt; rw [h2]; exact (h10 t ht).1, by show get s'.tmps t = _; rw [hdst hk hok t ht]; exact (h10 t ht).2⟩⟩
  · rcases Ns.mem_add.1 hk with rfl | hk
    · exact hbar
    · exact h.bar k hk hl
  · intro k hk j hj
    have := (h.dcl.add ho (readyA_spec.1 hrd)) k (Ns.mem_add.1 hk) j hj
    exact Ns.mem_add.2 this
theorem MRel.pass (h : MRel A I P g M w) : MRel A I P (g.lay none) M w :=
  (h.lay_none (x := .rows [] .zt (.lit 0) false true) (fun _ _ h => h) ⟨fun _ _ => 0, 0, rfl, rfl, Int.le_refl _, .inr ⟨rfl, rfl, by simp [G.lay]⟩⟩).sub fun b y hb => by
    simp only [get_cons]
    rw [if_neg (fun e => by have := h.lt b y hb; omega)]
    exact hb
theorem DInv.float {d : Dr} {listed : Array Bool} (hD : DrawOk ops) (h : DInv A I P ops g d listed a w) {i : Nat} {o : Oper} (ho : ops[i]? = some o) (hi : i ∉ d.done) (hrd : readyA o d.done = true) (hbar : isBar ops i = false)
    {s' : St} {v : AV} (hset : setT { d.s with nb := d.s.nb + 1 } o.dst v = some s') {x : Blk} (hf : FlOk I P g ops d.s o d.s.nb v x) :
    DInv A I P ops (g.lay none) { d with s := s', done := d.done.add i, fl := (i, d.s.nb, x) :: d.fl } listed a w := by
  obtain ⟨h1, h2, h3, h4, h5, h6, h7⟩ := setT_spec hset
  simp only at h1 h2 h3 h4 h5 h6 h7
  have hnl : listed.getD i false = false := by
    cases hl : listed.getD i false with
    | false => rfl
    | true => exact absurd (h.sub i hl) hi
  have hown : ∀ t ∈ readsOf ops o, get s'.tmps t = get d.s.tmps t := fun t ht => by
    rw [h7 t, if_neg]
    intro e
    have := hD.before_lt (notBar hbar ho e ho ht)
    omega
  have hst : ∀ {k : Nat} {ok : Oper}, k ∈ d.done → ops[k]? = some ok → ∀ t ∈ readsOf ops ok, get s'.tmps t = get d.s.tmps t := fun {k ok} hk hok t ht => by
    rw [h7 t, if_neg]
    intro e
    exact hi (h.dcl k hk i (notBar hbar ho e hok ht))
  have hdst : ∀ {k : Nat} {ok : Oper}, k ∈ d.done → ops[k]? = some ok → ∀ t, ok.dst = some t → get s'.tmps t = get d.s.tmps t := fun {k ok} hk hok t ht => by
    rw [h7 t, if_neg]
    intro e
    have := hD.inj ho hok e ht
    subst this; exact hi hk
  have hwf := h.sr.m.wf
  have hle := g.lay_le none
  have hext := hle.ext hwf
  have hnb := h.sr.nb
  simp only at hnb
  have hext0 : g.Ext0 (g.lay none) := ⟨rfl, by simp [G.lay], fun hb => hle.some hwf hb⟩
  have hsel : flSel (fun i => listed.getD i false) ((i, d.s.nb, x) :: d.fl) = flSel (fun i => listed.getD i false) d.fl := by
    simp only [flSel, hnl, Bool.false_eq_true, if_false]
  refine ⟨⟨by dsimp only; rw [hsel, h1]; exact h.sr.m.pass, fun t u hu ht => ?_, by show a.tmps.size = s'.nt; rw [h2]; exact h.sr.nt, by show DRel I (g.lay none) s'.defers a.defers; rw [h3]; exact h.sr.d.le hle hwf, by show g.env.length = s'.nv; rw [h4]; exact h.sr.nv, by show g.nb + 1 = s'.nb; rw [h5, hnb]⟩, h.size, fun k hk => Ns.mem_add.2 (.inr (h.sub k hk)), fun k hk hl hf' => ?_, fun k ok hk hl hf' hok => ?_, fun k b y hm => ?_, ?_, ?_, fun k b y ok hm hl hok => ?_, fun k hk hl => ?_, h.dec.le hle, ?_, h.lcl⟩
  · have hne : o.dst ≠ some t := fun e => ht ⟨i, o, Ns.mem_add.2 (.inl rfl), hnl, ho, e⟩
    have hu : get s'.tmps t = some u := hu
    rw [h7 t, if_neg hne] at hu
    exact h.sr.t.le hle hwf t u hu fun ⟨k, ok, hk1, hk2, hk3, hk4⟩ => ht ⟨k, ok, Ns.mem_add.2 (.inr hk1), hk2, hk3, hk4⟩
  · rcases Ns.mem_add.1 hk with rfl | hk
    · exact absurd (by simp) (hf' d.s.nb x)
    · exact h.qs k hk hl fun b y hm => hf' b y (by simp [hm])
  · rcases Ns.mem_add.1 hk with rfl | hk
    · exact absurd (by simp) (hf' d.s.nb x)
    · exact ((h.lag k ok hk hl (fun b y hm => hf' b y (by simp [hm])) hok).ext hext0).tmps h1 h2 (hst hk hok) (hdst hk hok)
  · rcases List.mem_cons.1 hm with e | hm
    · cases e
      refine ⟨Ns.mem_add.2 (.inl rfl), lt_of_getElem? ho, by show d.s.nb < s'.nb; rw [h5]; omega, ?_⟩
      show get s'.mem d.s.nb = none
      rw [h1]
      cases hg : get d.s.mem d.s.nb with
      | none => rfl
      | some z => have := h.mem_sub.lt _ z hg; omega
    · obtain ⟨h8, h9, h10, h11⟩ := h.fdone k b y hm
      exact ⟨Ns.mem_add.2 (.inr h8), h9, by show b < s'.nb; rw [h5]; omega, by show get s'.mem b = none; rw [h1]; exact h11⟩
  · simp only [List.map_cons, nodup, Bool.and_eq_true, Bool.not_eq_true', ← Bool.not_eq_true, List.contains_iff_mem]
    refine ⟨fun hm => ?_, h.fkey⟩
    obtain ⟨⟨k, b, y⟩, h8, h9⟩ := List.mem_map.1 hm
    have := (h.fdone k b y h8).2.2.1
    simp only at h9
    omega
  · simp only [List.map_cons, nodup, Bool.and_eq_true, Bool.not_eq_true', ← Bool.not_eq_true, List.contains_iff_mem]
    refine ⟨fun hm => ?_, h.fidx⟩
    obtain ⟨⟨k, b, y⟩, h8, h9⟩ := List.mem_map.1 hm
    simp only at h9
    exact hi (h9 ▸ (h.fdone k b y h8).1)
  · rcases List.mem_cons.1 hm with e | hm
    · cases e
      rw [ho] at hok; cases hok
      exact ⟨by simp [G.lay, hnb], v, (hf.ext hext).tmps hown, fun t ht => ⟨by show t < s'.nt; rw [h2]; exact h6 t ht, by show get s'.tmps t = _; rw [h7 t, if_pos ht]⟩⟩
    · obtain ⟨h8, vv, h9, h10⟩ := h.fwait k b y ok hm hl hok
      obtain ⟨hk, _, hb, _⟩ := h.fdone k b y hm
      exact ⟨by simp only [G.lay]; rw [if_neg (by omega)]; exact h8, vv, (h9.ext hext).tmps (hst hk hok), fun t ht => ⟨by show t < s'.nt; rw [h2]; exact (h10 t ht).1, by show get s'.tmps t = _; rw [hdst hk hok t ht]; exact (h10 t ht).2⟩⟩
  · rcases Ns.mem_add.1 hk with rfl | hk
    · exact hbar
    · exact h.bar k hk hl
  · intro k hk j hj
    have := (h.dcl.add ho (readyA_spec.1 hrd)) k (Ns.mem_add.1 hk) j hj
    exact Ns.mem_add.2 this
theorem recheck_spec {d : Dr} {bf : Nat} : ∀ {l : List Nat} {ps : List PE}, recheck P kn ops d bf l = some ps → (∀ p ∈ ps, p.den I g.env) → g.env.length = d.s.nv → g.nb = d.s.nb → g.wf →
    ∀ q ∈ l, bf.testBit q = false → ∀ o, ops[q]? = some o → ∃ out, outD P kn ops d o = some out ∧ Holds I g d.s o out
  | [], _, _, _, _, _, _, q, hq, _, _, _ => by simp at hq
  | q0 :: l, ps, h, hp, hnv, hnb, hwf, q, hq, hb, o, ho => by
    simp only [recheck] at h
    split at h
    · rename_i hb0
      rcases List.mem_cons.1 hq with rfl | hq
      · rw [hb] at hb0; cases hb0
      · exact recheck_spec h hp hnv hnb hwf q hq hb o ho
    · split at h
      · rename_i o0 ho0
        split at h
        · rename_i ps' h1 h2
          have hps : ps' = ps ∧ ∀ t, o0.dst = some t → t < d.s.nt ∧ get d.s.tmps t = some .undef := by
            split at h
            · rename_i hn; simp at h; exact ⟨h, fun t ht => by rw [hn] at ht; cases ht⟩
            · rename_i t0 hn
              split at h
              · rename_i hu
                split at h
                · rename_i hlt
                  simp at h
                  exact ⟨h, fun t ht => by rw [hn] at ht; cases ht; exact ⟨hlt, hu⟩⟩
                · cases h
              · cases h
          obtain ⟨rfl, hund⟩ := hps
          rcases List.mem_cons.1 hq with rfl | hq
          · rw [ho0] at ho; cases ho
            exact ⟨.skip, h1, hund⟩
          · exact recheck_spec h2 hp hnv hnb hwf q hq hb o ho
        · rename_i v p ps' h1 h2
          have hps : p ++ ps' = ps ∧ ∀ t, o0.dst = some t → t < d.s.nt ∧ ∃ u, get d.s.tmps t = some u ∧ Fix.le { nv := d.s.nv, nb := d.s.nb, kb := d.s.nb, σ := [], ρ := [] } u v = true := by
            split at h
            · rename_i hn; simp at h; exact ⟨h, fun t ht => by rw [hn] at ht; cases ht⟩
            · rename_i t0 hn
              split at h
              · rename_i u hu
                split at h
                · rename_i hlt
                  simp at h
                  exact ⟨h, fun t ht => by rw [hn] at ht; cases ht; exact ⟨hlt.1, u, hu, hlt.2⟩⟩
                · cases h
              · cases h
          obtain ⟨rfl, hval⟩ := hps
          rcases List.mem_cons.1 hq with rfl | hq
          · rw [ho0] at ho; cases ho
            refine ⟨.val v p, h1, fun p' hp' => hp p' (by simp [hp']), fun t ht => ?_⟩
            obtain ⟨h3, u, h4, h5⟩ := hval t ht
            refine ⟨h3, u, h4, fun g' x he hx => ?_⟩
            have hnv' : g'.env.length = d.s.nv := by rw [he.env]; exact hnv
            have hnb' := he.nb
            have hf : Fix.Fits I { nv := d.s.nv, nb := d.s.nb, kb := d.s.nb, σ := [], ρ := [] } g' [] := ⟨rfl, by simp; omega, Nat.le_refl _⟩
            refine (Fix.le_rel hf h5 hx).le ?_ ?_
            · refine ⟨⟨[], by simp [Fix.view, ← hnv']⟩, by simp [Fix.view]; omega, fun b hb => ?_⟩
              simp only [Fix.view] at hb ⊢
              simp [Fix.img, hb]
            · intro b hb
              simp only [Fix.view] at hb ⊢
              simp [Fix.img, Nat.not_lt.2 hb]
          · exact recheck_spec h2 (fun p' hp' => hp p' (by simp [hp'])) hnv hnb hwf q hq hb o ho
        · cases h
      · cases h
theorem firstQ_spec {d : Dr} : ∀ {l : List Nat} {i : Nat} {o : Oper} {x : Out}, firstQ P kn ops d l = some (i, o, x) → i ∈ l ∧ ops[i]? = some o ∧ readyA o d.done = true ∧ isBar ops i = false ∧ outD P kn ops d o = some x
  | [], i, o, x, h => by simp [firstQ] at h
  | i0 :: l, i, o, x, h => by
    simp only [firstQ] at h
    split at h
    · rename_i o0 ho0
      split at h
      · rename_i hr
        simp only [Bool.and_eq_true, Bool.not_eq_true'] at hr
        split at h
        · rename_i x0 hx
          simp at h
          obtain ⟨rfl, rfl, rfl⟩ := h
          exact ⟨by simp, ho0, hr.1, hr.2, hx⟩
        · obtain ⟨h1, h2⟩ := firstQ_spec h; exact ⟨by simp [h1], h2⟩
      · obtain ⟨h1, h2⟩ := firstQ_spec h; exact ⟨by simp [h1], h2⟩
    · obtain ⟨h1, h2⟩ := firstQ_spec h; exact ⟨by simp [h1], h2⟩
theorem firstF_spec {d : Dr} : ∀ {l : List Nat} {i : Nat} {o : Oper} {v : AV} {x : Blk}, firstF P kn ops d l = some (i, o, v, x) → i ∈ l ∧ ops[i]? = some o ∧ isWant (wantedD ops d o) = true ∧ isBar ops i = false ∧ floatOf P kn d.s o.op = some (v, x)
  | [], i, o, v, x, h => by simp [firstF] at h
  | i0 :: l, i, o, v, x, h => by
    simp only [firstF] at h
    split at h
    · rename_i o0 ho0
      split at h
      · rename_i hr
        simp only [Bool.and_eq_true, Bool.not_eq_true'] at hr
        split at h
        · rename_i v0 x0 hx
          simp at h
          obtain ⟨rfl, rfl, rfl, rfl⟩ := h
          exact ⟨by simp, ho0, hr.1, hr.2, hx⟩
        · obtain ⟨h1, h2⟩ := firstF_spec h; exact ⟨by simp [h1], h2⟩
      · obtain ⟨h1, h2⟩ := firstF_spec h; exact ⟨by simp [h1], h2⟩
    · obtain ⟨h1, h2⟩ := firstF_spec h; exact ⟨by simp [h1], h2⟩
theorem readyL_inv {done : Ns} : ∀ {l : List Nat} {j : Nat}, j ∈ readyL ops done l → j ∈ l ∧ ∃ o, ops[j]? = some o ∧ readyA o done = true
  | [], _, h => by simp [readyL] at h
  | i :: l, j, h => by
    simp only [readyL] at h
    split at h
    · rename_i o ho
      split at h
      · rename_i hr
        rcases List.mem_cons.1 h with rfl | h
        · exact ⟨by simp, o, ho, hr⟩
        · obtain ⟨h1, h2⟩ := readyL_inv h; exact ⟨by simp [h1], h2⟩
      · obtain ⟨h1, h2⟩ := readyL_inv h; exact ⟨by simp [h1], h2⟩
    · obtain ⟨h1, h2⟩ := readyL_inv h; exact ⟨by simp [h1], h2⟩
theorem readyL_spec {done : Ns} : ∀ {l : List Nat} {j : Nat} {o : Oper}, j ∈ l → ops[j]? = some o → readyA o done = true → j ∈ readyL ops done l
  | [], _, _, h, _, _ => by simp at h
  | i :: l, j, o, h, ho, hr => by
    simp only [readyL]
    rcases List.mem_cons.1 h with rfl | h
    · rw [ho]; simp [hr]
    · have := readyL_spec h ho hr
      split
      · split
        · exact List.mem_cons_of_mem _ this
        · exact this
      · exact this
theorem bothL_vc {f : Nat → Tree} {env : List D} : ∀ {l : List Nat}, (bothL f l).vc I env → ∀ i ∈ l, (f i).vc I env
  | [], _, i, hi => by simp at hi
  | [j], h, i, hi => by simp at hi; subst hi; exact h
  | j :: k :: l, h, i, hi => by
    rcases List.mem_cons.1 hi with rfl | hi
    · exact h.1
    · exact bothL_vc h.2 i hi
end Go.Sx
end
namespace Go.Sx
open Go
variable {A : Amb} {I : Itp} {P : Program} {g : G} {X : Nat → Prop} {ts : Tmps} {a : Act} {M : Mem} {w : World} {ops : Array Oper}
theorem operE_wp {cx : Cx} {e : Eng} (hE : EngSound I cx e) {s : St} {o : Oper} {k : St → Tree} {r : Option Nat} {n : Nat} {Q : Exit → Act → World → Prop} (hG : GOk cx.kn.globs A) (hs : SRel A I cx.P X g s a w)
    (hx : ∀ t, .tmp t ∈ o.op.operands.toList → ¬ X t) (h : (operE cx e s o k).vc I g.env) : o.wpIn (FW r) n cx.P a w (NPost A I cx.P X g k) Q := by
  unfold operE at h
  rw [loudF_eq] at h
  split at h
  · rename_i v s1 ps hq
    split at h
    · rename_i s' hset; exact loud_wp hs hx hq hset h
    · exact h.elim
  · split at h
    · rename_i f l hq; exact call_wp hE hG hs hx hq h
    · split at h
      · rename_i v ps hq
        split at h
        · rename_i s' hset; exact quiet_wp hG hs hx hq hset h
        · exact h.elim
      · exact h.elim
theorem mem_readsT : ∀ {l : List Operand} {t : Nat}, .tmp t ∈ l → t ∈ readsT l
  | x :: l, t, h => by
    rcases List.mem_cons.1 h with h | h
    · subst h; simp [readsT]
    · have := mem_readsT h
      cases x <;> simp [readsT, this]
  | [], _, h => by simp at h
theorem Oper.wpIn_frame {F : Fence} {o : Oper} {n : Nat} {K : Act → World → Prop} {Q : Exit → Act → World → Prop} (hh : o.wpIn F n P a w K Q) :
    o.wpIn F n P a w (fun a' w' => K a' w' ∧ ∃ x, a'.tmps = (a.put o.dst x).tmps) Q := by
  unfold Oper.wpIn at *
  refine ⟨hh.1, ?_⟩
  have hh := hh.2
  generalize (o.semAt F.round a.eval).run P w = r at *
  cases r with
  | ok x w' =>
    cases x <;> simp only [Oper.uponIn] at hh ⊢ <;>
      first
        | exact ⟨hh, _, rfl⟩
        | exact ⟨hh, undef, by cases o.dst <;> rfl⟩
        | exact ⟨hh.1, CallsIn.mono hh.2 (fun e w'' he => by cases e <;> first | exact ⟨he, _, rfl⟩ | exact he)⟩
        | exact ⟨hh.1, RowsIn.mono hh.2 (fun _ _ he => ⟨he, _, rfl⟩)⟩
        | exact ⟨hh.1, RoundIn.mono hh.2 (fun e w'' he => by cases e <;> first | exact ⟨he, _, rfl⟩ | exact he)⟩
  | halt x w' => cases x <;> simp only [Oper.uponIn] at hh ⊢ <;> exact hh
theorem frameT_spec {old new ts : Tmps} {dst : Option Tmp} (h : frameT old dst new = some ts) :
    ∀ t, (dst = some t → get ts t = get new t) ∧ (dst ≠ some t → get ts t = get old t) := by
  unfold frameT at h
  intro t
  cases dst with
  | none => simp at h; subst h; simp
  | some d =>
    simp only at h
    split at h
    · rename_i v hv
      simp at h; subst h
      refine ⟨fun e => by cases e; rw [get_putT, if_pos rfl, hv], fun e => by rw [get_putT, if_neg (fun e' => e (by rw [e']))]⟩
    · cases h
theorem forceNs {α : Type} {m : Ns} {i : Nat} {f : Nat → α} : forceN (m.add i) f = f (m.add i) := forceN_eq
theorem drawGo_wp {cx : Cx} {e : Eng} (hE : EngSound I cx e) (hG : GOk cx.kn.globs A) (hD : DrawOk ops) {k : St → Tree} {r : Option Nat} {n : Nat} {Q : Exit → Act → World → Prop} {g0 : G}
    (hQ : ∀ g s a w, g0.Le g → SRel A I cx.P (fun _ => False) g s a w → (k s).vc I g.env → Q .normal a w) :
    ∀ (m fuel : Nat) (g : G) (d : Dr) (listed : Array Bool) (a : Act) (w : World) (cov : List Nat), g0.Le g → (drawGo cx e ops fuel d k).vc I g.env → DInv A I cx.P ops g d listed a w → (∀ i b x, (i, b, x) ∈ d.fl → g0.nb ≤ b) →
      cov.length ≤ m → (∀ i, i < ops.size → listed.getD i false = false → i ∈ cov) → wpAnyIn (FW r) n cx.P .any ops Q m listed a w := by
  -- all have been listed
  have fin : ∀ (fuel : Nat) (g : G) (d : Dr) (listed : Array Bool) (a : Act) (w : World), g0.Le g → (drawGo cx e ops fuel d k).vc I g.env → DInv A I cx.P ops g d listed a w →
      Region.ready .any ops listed = [] → Q .normal a w := by
    intro fuel g d listed a w hg h hI hr
    have hall : ∀ i, i < ops.size → listed.getD i false = true := by
      intro i
      induction i using Nat.strongRecOn with
      | _ i ih =>
        intro hi
        cases hl : listed.getD i false with
        | true => rfl
        | false =>
          exfalso
          have : i ∈ Region.ready .any ops listed := by
            rw [mem_ready]
            refine ⟨?_, ops[i], by simp [hi], fun ed he hb => ih ed.on (hD.edge i ops[i] (by simp [hi]) ed (by simpa using he) hb) (Nat.lt_trans (hD.edge i ops[i] (by simp [hi]) ed (by simpa using he) hb) hi)⟩
            rw [Array.getD_eq_getD_getElem?] at hl ⊢
            have : i < listed.size := by rw [hI.size]; exact hi
            simp only [Array.getElem?_eq_getElem this, Option.getD_some] at hl ⊢
            exact hl
          rw [hr] at this
          cases this
    cases fuel with
    | zero => exact h.elim
    | succ f =>
      unfold drawGo at h
      have hnil : restL d.done (List.range ops.size) = [] := by
        rw [restL_eq, List.filter_eq_nil_iff]
        intro i hi
        simp [Ns.mem_iff.1 (hI.sub i (hall i (List.mem_range.1 hi)))]
      rw [hnil] at h
      have hsel : flAll d.fl = flSel (fun i => listed.getD i false) d.fl := flAll_sel fun i b x hm => hall i (hI.fdone i b x hm).2.1
      dsimp only at h
      rw [hsel] at h
      exact hQ g _ a w hg (hI.sr.weaken fun t ⟨i, o, _, h1, h2, _⟩ => by rw [hall i (lt_of_getElem? h2)] at h1; cases h1) h
  intro m
  induction m with
  | zero =>
    intro fuel g d listed a w cov hg h hI hfl0 hlen hcov
    have hr : Region.ready .any ops listed = [] := by
      rw [List.eq_nil_iff_forall_not_mem]
      intro i hi
      obtain ⟨h1, o, h2, _⟩ := mem_ready.1 hi
      have hi := lt_of_getElem? h2
      have : listed.getD i false = false := by
        rw [Array.getD_eq_getD_getElem?] at h1 ⊢
        have : i < listed.size := by rw [hI.size]; exact hi
        simp only [Array.getElem?_eq_getElem this, Option.getD_some] at h1 ⊢
        exact h1
      have := hcov i hi this
      have hc : cov = [] := List.length_eq_zero_iff.1 (by omega)
      rw [hc] at this; cases this
    exact ⟨hr, fin fuel g d listed a w hg h hI hr⟩
  | succ m ih =>
    intro fuel g d listed a w cov hg h hI hfl0 hlen hcov
    refine ⟨fin fuel g d listed a w hg h hI, fun j hj => ?_⟩
    obtain ⟨hjl, o, hjo, hja⟩ := mem_ready.1 hj
    have hjs := lt_of_getElem? hjo
    have hjsz : j < listed.size := by rw [hI.size]; exact hjs
    have hjl' : listed.getD j false = false := by
      rw [Array.getD_eq_getD_getElem?] at hjl ⊢
      simp only [Array.getElem?_eq_getElem hjsz, Option.getD_some] at hjl ⊢
      exact hjl
    have hja' : ∀ ed ∈ o.after.toList, Region.binds .any ed = true → listed.getD ed.on false = true := fun ed he hb => hja ed (by simpa using he) hb
    have hcov' : ∀ i, i < ops.size → (listed.setIfInBounds j true).getD i false = false → i ∈ cov.filter (· ≠ j) := by
      intro i hi hl
      rw [getD_set hjsz] at hl
      split at hl
      · cases hl
      · rename_i hij
        simp [hcov i hi hl, hij]
    have hlen' : (cov.filter (· ≠ j)).length ≤ m := by
      have hm := hcov j hjs hjl'
      have : (cov.filter (· ≠ j)).length < cov.length := by
        have h1 := List.length_filter_lt_length_iff_exists (p := (· ≠ j)) (l := cov)
        exact h1.2 ⟨j, hm, by simp⟩
      omega
    unfold wpOpIn
    rw [hjo]
    simp only
    -- the executor goes on till the operation is its own next, or is behind it
    clear hlen hcov
    induction fuel generalizing d g with
    | zero => exact h.elim
    | succ f ihf =>
      by_cases hjd : j ∈ d.done
      · by_cases hjfl : ∃ b x, (j, b, x) ∈ d.fl
        · -- it floated
          obtain ⟨b, x, hm⟩ := hjfl
          obtain ⟨hφ, v, hok, hdv⟩ := hI.fwait j b x o hm hjl' hjo
          obtain ⟨h1, h2⟩ := hok g ⟨⟨[], by simp⟩, fun h => h⟩ a (hI.reads' hjo hja')
          obtain ⟨obj, val, p, hpb, h3, hvr, h4⟩ := h2 (FW r).round w hφ
          rw [if_pos h1]
          refine ⟨fun _ _ => trivial, ?_⟩
          rw [h3]
          refine ih (f + 1) (g.place b p) d _ _ _ _ ⟨hg.env, hg.nb, fun c hc => ?_⟩ h (hI.catch_float hjo hjd hjl' hja' hm hpb (fun t u ht hu => by rw [(hdv t ht).2] at hu; cases hu; exact hvr) (fun t ht => (hdv t ht).1) h4) hfl0 hlen' hcov'
          have := hfl0 j b x hm
          simp only [G.place]
          rw [if_neg (by omega)]
          exact hg.φ c hc
        · -- it lagged
          have hjfl' : ∀ b x, (j, b, x) ∉ d.fl := fun b x hm => hjfl ⟨b, x, hm⟩
          obtain ⟨h1, h2⟩ := hI.lag j o hjd hjl' hjfl' hjo
          obtain ⟨h3, h4⟩ := h2 g w (.refl g) hI.mem_sub a (hI.reads' hjo hja')
          split
          · rename_i hw
            obtain ⟨x, h5, h6⟩ := h3 hw (FW r).round
            refine ⟨fun _ _ => trivial, ?_⟩
            rw [h5]
            exact ih (f + 1) g d _ _ w _ hg h (hI.catch_up hD hjo hjd hjfl' hja' h1 h6) hfl0 hlen' hcov'
          · rename_i hw
            have hw : Region.wanted o (yielded ops a.tmps) = false := by simpa using hw
            exact ⟨fun _ _ => trivial, ih (f + 1) g d _ _ w _ hg h (hI.catch_up hD hjo hjd hjfl' hja' h1 (h4 hw)) hfl0 hlen' hcov'⟩
      · have hjrem : j ∈ restL d.done (List.range ops.size) := mem_restL.2 ⟨List.mem_range.2 hjs, hjd⟩
        unfold drawGo at h
        split at h
        · rename_i hnil; rw [hnil] at hjrem; cases hjrem
        rename_i l hl0
        split at h
        · -- a quiet operation ahead
          rename_i i oi x hfq
          obtain ⟨h1, h2, h3, hbar, h4⟩ := firstQ_spec hfq
          have hid : i ∉ d.done := (mem_restL.1 h1).2
          cases x with
          | skip =>
            simp only at h
            split at h
            · rename_i s' hset
              obtain ⟨_, e2, _, _, _, e6, e7⟩ := setT_spec hset
              rw [forceNs] at h
              exact ihf _ _ hg h (hI.ahead hG hD h2 hid h3 hbar hset h4 fun t ht => ⟨by rw [e2]; exact e6 t ht, by rw [e7 t, if_pos ht]⟩) hfl0
            · exact h.elim
          | val v ps =>
            simp only at h
            split at h
            · rename_i s' hset
              obtain ⟨_, e2, _, _, _, e6, e7⟩ := setT_spec hset
              obtain ⟨hp, hk⟩ := mkAsserts_vc h
              rw [forceNs] at hk
              exact ihf _ _ hg hk (hI.ahead hG hD h2 hid h3 hbar hset h4 ⟨hp, fun t ht => ⟨by rw [e2]; exact e6 t ht, v, by rw [e7 t, if_pos ht], fun _ _ _ hx => hx⟩⟩) hfl0
            · exact h.elim
          | dec c =>
            simp only at h
            obtain ⟨hp, hk⟩ := mkAsserts_vc h
            obtain ⟨nn, hnn⟩ := hp (.sort false c) (by simp)
            obtain ⟨hk1, hk2⟩ := hk
            have hdec : ∀ b : Bool, b = decide (nn ≠ 0) → DInv A I cx.P ops g { d with dec := (c, b) :: d.dec } listed a w := fun b hb =>
              ⟨hI.sr, hI.size, hI.sub, hI.qs, hI.lag, hI.fdone, hI.fkey, hI.fidx, hI.fwait, hI.bar, fun c' b' hc' => by
                simp only [getE] at hc'
                split at hc'
                · rename_i ec
                  simp at hc'; subst hc'; subst ec
                  exact ⟨nn, hnn, hb⟩
                · exact hI.dec c' b' hc', hI.dcl, hI.lcl⟩
            by_cases hz : nn = 0
            · subst hz
              exact ihf _ _ hg (hk2 hnn) (hdec false (by simp)) hfl0
            · exact ihf _ _ hg (hk1 nn hnn hz) (hdec true (by simp [hz])) hfl0
        · -- an operation that does more
          have hjr : readyA o d.done = true := readyA_spec.2 fun ed he hb => hI.sub _ (hja' ed he hb)
          split at h
          · exact h.elim
          split at h
          · -- a block ahead
            rename_i i oi v x hff
            obtain ⟨h1, h2, h3, hbar, h4⟩ := firstF_spec hff
            obtain ⟨h5, o2, ho2, hrd2⟩ := readyL_inv h1
            rw [h2] at ho2; cases ho2
            have hid : i ∉ d.done := (mem_restL.1 h5).2
            split at h
            · rename_i s' hset
              rw [forceNs] at h
              refine ihf (g.lay none) _ (hg.trans (g.lay_le none)) h (hI.float hD h2 hid hrd2 hbar hset (floatOf_ok hI.dec h3 h4)) fun k b y hm => ?_
              rcases List.mem_cons.1 hm with e | hm
              · cases e
                have h6 := hI.sr.nb
                simp only at h6
                rw [← h6]; exact hg.nb
              · exact hfl0 k b y hm
            · exact h.elim
          rename_i hffn
          have hb := bothL_vc h j (by
            first
              | exact readyL_spec hjrem hjo hjr
              | exact (readyL_spec (hl0 ▸ hjrem) hjo hjr))
          rw [hjo] at hb
          simp only at hb
          split at hb
          rotate_left
          · exact hb.elim
          rename_i hwant
          have hrd := hI.reads' hjo hja'
          have hwt : Region.wanted o (yielded ops a.tmps) = true := by
            unfold isWant at hwant
            split at hwant
            · rename_i hw; exact (wantedD_sound hI.dec hrd).1 hw
            · cases hwant
          rw [if_pos hwt]
          have hbl : ∀ {i : Nat}, (before ops j).testBit i = true → listed.getD i false = true := fun {i} hb => by
            obtain ⟨o', ho', ed, h5, h6, h7⟩ := before_bit hb
            rw [hjo] at ho'; cases ho'
            have h8 := hja' ed h5 h6
            rcases h7 with rfl | h7
            · exact h8
            · exact hI.lcl _ h8 _ h7
          have hnbs : g.nb = d.s.nb := hI.sr.nb
          have hjf : ∀ {i : Nat} {b : Nat} {x : Blk}, (i, b, x) ∈ d.fl → i ≠ j := fun {i b x} hm e => hjd (e ▸ (hI.fdone i b x hm).1)
          have hHM : ∀ b y, get (flSel (fun i => listed.getD i false) (flAfter (before ops j) d.fl)) b = some y → get (flBefore (before ops j) d.fl ++ d.s.mem) b = none := fun b y hb => by
            obtain ⟨i, h1, h2⟩ := (flSel_get (nodup_flAfter hI.fkey)).1 hb
            obtain ⟨h3, h4⟩ := mem_flAfter.1 h1
            rw [get_app, flBefore_sel]
            split
            · rename_i z hz
              obtain ⟨i', h5, h6⟩ := (flSel_get hI.fkey).1 hz
              have := nodup_inj hI.fkey h3 h5 rfl
              cases this
              simp only at h4; rw [h4] at h6; cases h6
            · exact (hI.fdone i b y h3).2.2.2
          have hMH : MRel A I cx.P g ((flBefore (before ops j) d.fl ++ d.s.mem) ++ flSel (fun i => listed.getD i false) (flAfter (before ops j) d.fl)) w := hI.sr.m.sub fun c y hc => by
            rw [get_app, get_app] at hc
            simp only
            rw [get_app]
            split at hc
            · rename_i z hz
              cases hc
              split at hz
              · rename_i u hu
                cases hz
                rw [flBefore_sel] at hu
                obtain ⟨i, h1, h2⟩ := (flSel_get hI.fkey).1 hu
                rw [(flSel_get hI.fkey).2 ⟨i, h1, hbl h2⟩]
              · split
                · rename_i u hu
                  obtain ⟨i, h1, h2⟩ := (flSel_get hI.fkey).1 hu
                  rw [(hI.fdone i c u h1).2.2.2] at hz; cases hz
                · exact hz
            · obtain ⟨i, h1, h2⟩ := (flSel_get (nodup_flAfter hI.fkey)).1 hc
              rw [(flSel_get hI.fkey).2 ⟨i, (mem_flAfter.1 h1).1, h2⟩]
          have hsM : SRel (ambOf (flBefore (before ops j) d.fl ++ d.s.mem) g w) I cx.P (Lagging ops d.done listed) g { d.s with mem := flBefore (before ops j) d.fl ++ d.s.mem } a w :=
            ⟨hMH.part, hI.sr.t, hI.sr.nt, hI.sr.d, hI.sr.nv, hI.sr.nb⟩
          refine Oper.wpIn_mono (fun a' w' hn => ?_) (Oper.wpIn_frame (operE_wp hE (hG.part hMH) hsM (fun t ht => hI.reads hjo hja' t (List.mem_append_right _ (mem_readsT ht))) hb))
          obtain ⟨⟨g', s1, hle, hs1, hk⟩, xv, hxv⟩ := hn
          dsimp only at hk
          split at hk
          · exact hk.elim
          rename_i hkeys
          have hkeys : keysOk g.nb (flBefore (before ops j) d.fl ++ d.s.mem) s1.mem = true := by rw [hnbs]; simpa using hkeys
          split at hk
          · exact hk.elim
          rename_i tsn hfr
          have hfs := frameT_spec hfr
          split at hk
          rotate_left
          · exact hk.elim
          rename_i ps hrc
          obtain ⟨hp, hk⟩ := mkAsserts_vc hk
          rw [forceNs] at hk
          have hwf := hI.sr.m.wf
          have hdec' := hI.dec.le hle
          have hmf := hMH.frame hHM hle hs1.m hkeys
          have hfree : ∀ {b : Nat}, b < g.nb → get (flBefore (before ops j) d.fl ++ d.s.mem) b = none → get s1.mem b = none := fun {b} hb hn => by
            cases hg : get s1.mem b with
            | none => rfl
            | some z =>
              have := List.all_eq_true.1 (keysOk_all hkeys) _ (get_key hg).2
              simp only at this
              rw [if_pos hb, hn] at this
              cases this
          have hflf : ∀ {i b : Nat} {x : Blk}, (i, b, x) ∈ flAfter (before ops j) d.fl → get s1.mem b = none := fun {i b x} hm => by
            obtain ⟨h3, h4⟩ := mem_flAfter.1 hm
            obtain ⟨_, _, h5, h6⟩ := hI.fdone i b x h3
            refine hfree (by omega) ?_
            rw [get_app, flBefore_sel]
            split
            · rename_i z hz
              obtain ⟨i', h7, h8⟩ := (flSel_get hI.fkey).1 hz
              have := nodup_inj hI.fkey h3 h7 rfl
              cases this
              simp only at h4; rw [h4] at h8; cases h8
            · exact h6
          have hsel : flSel (fun i => (listed.setIfInBounds j true).getD i false) (flAfter (before ops j) d.fl) = flSel (fun i => listed.getD i false) (flAfter (before ops j) d.fl) :=
            flSel_congr fun i b x hm => by rw [getD_set hjsz, if_neg (hjf (mem_flAfter.1 hm).1)]
          have hsz : a'.tmps.size = a.tmps.size := by rw [hxv]; cases o.dst <;> simp [Act.put]
          have hsr' : SRel A I cx.P (Lagging ops (d.done.add j) (listed.setIfInBounds j true)) g' { s1 with tmps := tsn, mem := flSel (fun i => (listed.setIfInBounds j true).getD i false) (flAfter (before ops j) d.fl) ++ s1.mem } a' w' := by
            refine ⟨hmf.sub fun c y hc => ?_, fun t v hv ht => ?_, hs1.nt, hs1.d, hs1.nv, hs1.nb⟩
            · simp only at hc
              rw [hsel, get_app] at hc
              rw [get_app]
              split at hc
              · rename_i z hz
                cases hc
                obtain ⟨i, h1, h2⟩ := (flSel_get (nodup_flAfter hI.fkey)).1 hz
                rw [hflf h1]
                exact hz
              · rw [hc]
            · have hv : get tsn t = some v := hv
              by_cases hd : o.dst = some t
              · rw [(hfs t).1 hd] at hv
                refine hs1.t t v hv ?_
                rintro ⟨i, oi, h1, h2, h3, h4⟩
                have := hD.inj hjo h3 hd h4
                subst this; exact hjd h1
              · rw [(hfs t).2 hd] at hv
                obtain ⟨y, h1, h2⟩ := hI.sr.t t v hv (by
                  rintro ⟨i, oi, h1, h2, h3, h4⟩
                  have hij : i ≠ j := fun e => hjd (e ▸ h1)
                  exact ht ⟨i, oi, Ns.mem_add.2 (.inr h1), by rw [getD_set hjsz, if_neg hij]; exact h2, h3, h4⟩)
                refine ⟨y, ?_, h2.le hle hwf⟩
                rw [hxv]
                cases hdd : o.dst with
                | none => simpa [Act.put] using h1
                | some t' =>
                  have : t' ≠ t := fun e => hd (by rw [hdd, e])
                  simp [Act.put, Array.getElem?_setIfInBounds_ne this, h1]
          have hsp := recheck_spec hrc hp hs1.nv hs1.nb hs1.m.wf
          refine ih f g' { d with s := { s1 with tmps := tsn }, done := d.done.add j, fl := flAfter (before ops j) d.fl } _ a' w' _ (hg.trans hle) hk ⟨hsr', by simpa using hI.size, ?_, ?_, ?_, ?_, nodup_flAfter hI.fkey, nodup_flAfter hI.fidx, ?_, ?_, hdec', ?_, hI.listed_cl hjo hja'⟩ (fun i b x hm => hfl0 i b x (mem_flAfter.1 hm).1) hlen' hcov'
          · intro i hi
            rw [getD_set hjsz] at hi
            split at hi
            · rename_i e; subst e; exact Ns.mem_add.2 (.inl rfl)
            · exact Ns.mem_add.2 (.inr (hI.sub i hi))
          · intro i hi hl hf
            rw [getD_set hjsz] at hl
            split at hl
            · cases hl
            · rename_i hij
              rcases Ns.mem_add.1 hi with e | hi
              · exact absurd e hij
              · refine hI.qs i hi hl fun b x hm => ?_
                cases hb : (before ops j).testBit i with
                | true => have := hbl hb; rw [this] at hl; cases hl
                | false => exact hf b x (mem_flAfter.2 ⟨hm, hb⟩)
          · intro i oi hi hl hf hoi
            rw [getD_set hjsz] at hl
            split at hl
            · cases hl
            rename_i hij
            rcases Ns.mem_add.1 hi with e | hi
            · exact absurd e hij
            have hnb : (before ops j).testBit i = false := by
              cases hb : (before ops j).testBit i with
              | false => rfl
              | true => have := hbl hb; rw [this] at hl; cases hl
            have hnf : ∀ b x, (i, b, x) ∉ d.fl := fun b x hm => hf b x (mem_flAfter.2 ⟨hm, hnb⟩)
            obtain ⟨out, h9, h10⟩ := hsp i (hI.qs i hi hl hnf) hnb oi hoi
            exact LagOk.of_out hG (d := { d with s := { s1 with tmps := tsn } }) rfl hdec' h9 (fun _ _ => rfl) h10
          · intro i b x hm
            obtain ⟨h3, h4⟩ := mem_flAfter.1 hm
            obtain ⟨h5, h6, h7, _⟩ := hI.fdone i b x h3
            refine ⟨Ns.mem_add.2 (.inr h5), h6, ?_, hflf hm⟩
            have := hle.nb
            have h8 : g'.nb = s1.nb := hs1.nb
            show b < s1.nb
            omega
          · intro i b x oi hm hl hoi
            obtain ⟨h3, h4⟩ := mem_flAfter.1 hm
            have hij := hjf h3
            rw [getD_set hjsz, if_neg hij] at hl
            obtain ⟨h5, vv, h6, h7⟩ := hI.fwait i b x oi h3 hl hoi
            obtain ⟨hid, _, hb, _⟩ := hI.fdone i b x h3
            have hst : ∀ t ∈ readsOf ops oi, get tsn t = get d.s.tmps t := fun t ht => (hfs t).2 fun e => by
              rcases hD.read i oi j o t hoi hjo e ht with h8 | h8 | h8
              · exact hjd (hI.dcl i hid j h8)
              · exact hij h8
              · have := hbl h8; rw [this] at hl; cases hl
            have hdst : ∀ t, oi.dst = some t → get tsn t = get d.s.tmps t := fun t ht => (hfs t).2 fun e => hij (hD.inj hoi hjo ht e)
            refine ⟨by rw [hle.φ b (by omega)]; exact h5, vv, (h6.ext (hle.ext hwf)).tmps hst, fun t ht => ⟨?_, by show get tsn t = _; rw [hdst t ht]; exact (h7 t ht).2⟩⟩
            have h8 : a'.tmps.size = s1.nt := hs1.nt
            have h9 : a.tmps.size = d.s.nt := hI.sr.nt
            show t < s1.nt
            rw [← h8, hsz, h9]; exact (h7 t ht).1
          · intro i hi hl
            rw [getD_set hjsz] at hl
            split at hl
            · cases hl
            rename_i hij
            rcases Ns.mem_add.1 hi with e | hi
            · exact absurd e hij
            · exact hI.bar i hi hl
          · intro i hi q hq
            have := (hI.dcl.add hjo (readyA_spec.1 hjr)) i (Ns.mem_add.1 hi) q hq
            exact Ns.mem_add.2 this
end Go.Sx
namespace Go.Sx
open Go
variable {A : Amb} {I : Itp} {P : Program} {g : G} {X : Nat → Prop} {ts : Tmps} {a : Act} {M : Mem} {w : World} {ops : Array Oper}
theorem Post.mono {g1 : G} {k : Ex → St → Tree} (h : g.Le g1) {e : Exit} (hp : Post A I P X g1 k e a w) : Post A I P X g k e a w := by
  obtain ⟨x, g', s', h1, h2, h3⟩ := hp
  exact ⟨x, g', s', h1, h.trans h2, h3⟩
theorem rangeEnd_post {l : Nat} {pl : PB} {k : Ex → St → Tree} {r : Option Nat} {n : Nat} {g2 : G} {a2 : Act} {v : Value} {w3 : World} (hle : g.Le g2) (hw2 : g2.wf) (hl : g2.φ l = some pl)
    (h : CPost A I P (fun _ => False) g2 a2 (fun _ s3 => rangeEnd l k s3) v w3) : rangePost (FW r) n P pl.blk (Post A I P (fun _ => False) g k) a2 (.returned v) w3 := by
  obtain ⟨av, g3, s3, hle3, _, hs3, hk⟩ := h
  have hl3 := hle3.some hw2 hl
  unfold rangeEnd at hk
  dsimp only at hk
  split at hk
  rotate_left
  · exact hk.elim
  rename_i st j fn' ix' nt' ts' d' hg
  split at hk
  · exact hk.elim
  rename_i hst
  obtain ⟨p', q, rl, rf, hp', hq, hh, hrf, h1, h2, h3, h4, h5, h6, h7, h8⟩ := hs3.m.blk l _ hg
  rw [hl3] at hp'; cases hp'
  have hlt := hs3.m.bnd l pl hl3
  have hm4 : MRel A I P g3 (put l (.loop .exhausted j fn' ix' nt' ts' d') s3.mem) (w3.putObj pl.blk (.loop { rl with state := .exhausted })) :=
    hs3.m.write hg rfl hl3 (by simp) (fun i hi => World.putObj_heap_other hi) ⟨pl, q, _, rf, hl3, hq, World.putObj_heap_same hlt, hrf, rfl, h2, h3, h4, h5, h6, h7, h8⟩
  have hs4 : SRel A I P (fun _ => False) g3 { s3 with mem := put l (.loop .exhausted j fn' ix' nt' ts' d') s3.mem } a2 (w3.putObj pl.blk (.loop { rl with state := .exhausted })) :=
    ⟨hm4, hs3.t, hs3.nt, hs3.d, hs3.nv, hs3.nb⟩
  refine ⟨_, _, run_endLoop hh (by rw [h1]; exact hst), ?_⟩
  rw [h2] at hs4 ⊢
  cases j with
  | none => exact ⟨.normal, g3, { s3 with mem := put l (.loop .exhausted none fn' ix' nt' ts' d') s3.mem }, rfl, hle.trans hle3, hs4, hk⟩
  | some j =>
    cases j with
    | ret => exact wpIn_ret ⟨.ret, g3, { s3 with mem := put l (.loop .exhausted (some .ret) fn' ix' nt' ts' d') s3.mem }, rfl, hle.trans hle3, hs4, hk⟩
    | exit id => exact wpIn_exit ⟨.exit id, g3, { s3 with mem := put l (.loop .exhausted (some (.exit id)) fn' ix' nt' ts' d') s3.mem }, rfl, hle.trans hle3, hs4, hk⟩
    | goto l => exact hk.elim
theorem rangeGo_wp {cx : Cx} {e : Eng} (hE : EngSound I cx e) (hG : GOk cx.kn.globs A) {fn : FuncId} {o gf : Nat} {cap : List AV} {d : Nat} {s1 : St} {k : Ex → St → Tree} {g1 : G} {a1 : Act} {w1 : World} {q : PB} {r : Option Nat} {n : Nat}
    {rf : RF} {rl : Loop} {cs : Array Value} (hrf : rfAt cx.P fn o = some rf) (hle : g.Le g1) (hs : SRel A I cx.P (fun _ => False) g1 s1 a1 w1) (hq : g1.φ d = some q) (h : (rangeGo e fn o gf cap d s1 k).vc I g1.env)
    (hcap : Rels I g1 cap cs.toList) (h1 : rl.state = .ready) (h2 : rl.pending = none) (h3 : rl.params.toList = rf.params) (h4 : rl.assign = rf.assign) (h5 : rl.body = rf.body) (h6 : rl.defers = q.blk) (h7 : rl.tmps = a1.tmps) :
    (∃ fn c, cx.P.funcs[gf]? = some fn ∧ fn.body = some c ∧ (fn.name == "runtime.NumGoroutine") = false) ∧
    Calls cx.P gf (#[Value.func (.yield w1.heap.size) #[] #[]] ++ cs) (w1.alloc (.loop rl)) (rangePost (FW r) n cx.P w1.heap.size (Post A I cx.P (fun _ => False) g k) a1) := by
  unfold rangeGo at h
  let pl : PB := ⟨w1.heap.size, 0, 0⟩
  have hle2 := g1.lay_le (some pl)
  have hl : (g1.lay (some pl)).φ s1.nb = some pl := by simp [G.lay, hs.nb]
  have hq2 := hle2.some hs.m.wf hq
  have hm2 : MRel A I cx.P (g1.lay (some pl)) ((g1.nb, .loop .ready none fn o s1.nt s1.tmps d) :: s1.mem) (w1.alloc (.loop rl)) :=
    hs.m.alloc (fun _ _ h => h) rfl ⟨pl, q, rl, rf, by simp [G.lay], hq2, heap_alloc_new w1 _, hrf, h1, h2, h3, h4, h5, h6, by rw [h7]; exact hs.nt, by rw [h7]; exact hs.t.le hle2 hs.m.wf⟩
  rw [hs.nb] at hm2
  have hs2 : SRel A I cx.P (fun _ => False) (g1.lay (some pl)) (newBlk s1 (.loop .ready none fn o s1.nt s1.tmps d)) a1 (w1.alloc (.loop rl)) := hs.lay hm2
  have hargs : Rels I (g1.lay (some pl)) ([.yld s1.nb] ++ cap) ([Value.func (.yield w1.heap.size) #[] #[]] ++ cs.toList) :=
    Rels.append ⟨⟨pl, hl, rfl⟩, trivial⟩ (hcap.le hle2 hs.m.wf)
  obtain ⟨h8, h9⟩ := hE.callf (g := g1.lay (some pl)) hG h hs2 hargs
  refine ⟨h8, ?_⟩
  have e : (#[Value.func (.yield w1.heap.size) #[] #[]] ++ cs) = ([Value.func (.yield w1.heap.size) #[] #[]] ++ cs.toList).toArray := by simp
  rw [e]
  refine h9.mono fun e w' he => ?_
  obtain ⟨v, rfl, hv⟩ := he
  exact rangeEnd_post (hle.trans hle2) hs2.m.wf hl hv
theorem range_wp {cx : Cx} {e : Eng} (hE : EngSound I cx e) (hG : GOk cx.kn.globs A) {fn : FuncId} {rnd r : Option Nat} {bid o : Nat} {f : Operand} {ps : Array Tmp} {ac bc : Code} {s : St} {k : Ex → St → Tree}
    (h : (execStep cx e fn rnd bid o (.rangeFunc f ps ac bc) s k).vc I g.env) (hs : SRel A I cx.P (fun _ => False) g s a w) (hr : RndRel g rnd r) (hc : COK cx.P fn o (.rangeFunc f ps ac bc)) (n : Nat) :
    (Code.rangeFunc f ps ac bc).wpIn (FW r) n cx.P (Post A I cx.P (fun _ => False) g k) a w := by
  simp only [execStep] at h
  split at h
  rotate_left
  · exact h.elim
  rename_i gf cap hev
  have hrf : rfAt cx.P fn o = some { params := ps.toList, assign := ac, body := bc } := by
    have := hc 0 _ (by simp [rfs]; rfl)
    simpa using this
  obtain ⟨cs, hx, hcap⟩ : Rel I g (.func gf cap) (a.eval f) := evalOp_rel hs.t hev fun _ _ h => h
  have hres : ∀ (l : Nat) (w1 : World), (resolve a.eval (rangeCall f l) 0).run cx.P w1 = .ok { target := .fn (.func gf) cs, args := #[Value.func (.yield l) #[] #[]] } w1 := by
    intro l w1
    have e : resolve a.eval (rangeCall f l) 0 = Deferred.ofValue (a.eval f) #[Value.func (.yield l) #[] #[]] := by
      have e2 : a.eval (.const (.func (.yield l) #[] #[])) = Value.func (.yield l) #[] #[] := rfl
      simp only [resolve, List.map_toArray, List.map_cons, List.map_nil, e2]
    rw [e, hx]
    simp [Deferred.ofValue]
  refine wpIn_rangeFunc fun fn' _ => ?_
  split at h
  · -- an outermost loop
    cases r with
    | some r => exact hr.elim
    | none =>
    let q : PB := ⟨w.heap.size, 0, 0⟩
    have hle1 := g.lay_le (some q)
    have hm1 : MRel A I cx.P (g.lay (some q)) ((g.nb, .dfr true) :: s.mem) (w.alloc (.deferred (some []))) :=
      hs.m.alloc (fun _ _ h => h) rfl ⟨q, by simp [G.lay], heap_alloc_new w _⟩
    rw [hs.nb] at hm1
    have hs1 : SRel A I cx.P (fun _ => False) (g.lay (some q)) { newBlk s (.dfr true) with defers := .blk s.nb :: s.defers } { a with defers := [{ target := .collected w.heap.size, args := #[] }] ++ a.defers } (w.alloc (.deferred (some []))) :=
      ⟨hm1, hs.t.le hle1 hs.m.wf, hs.nt, ⟨⟨q, by simp [G.lay, hs.nb], rfl⟩, hs.d.le hle1 hs.m.wf⟩, hs.nv, by simp [G.lay, newBlk, hs.nb]⟩
    obtain ⟨⟨fnn, c, h1, h2, h3⟩, h4⟩ := rangeGo_wp (r := none) (n := n) (g := g) (rl := { state := .ready, pending := none, fn := fn', tmps := a.tmps, params := ps, assign := ac, body := bc, defers := w.heap.size })
      hE hG hrf hle1 hs1 (q := q) (by simp [G.lay, hs.nb]) h (hcap.le hle1 hs.m.wf) rfl rfl rfl rfl rfl rfl rfl
    obtain ⟨W, hW⟩ : ∃ W, (w.alloc (.deferred (some []))).alloc (.loop { state := .ready, pending := none, fn := fn', tmps := a.tmps, params := ps, assign := ac, body := bc, defers := w.heap.size }) = W := ⟨_, rfl⟩
    rw [hW] at h4
    have e : (w.alloc (.deferred (some []))).heap.size = w.heap.size + 1 := by simp
    rw [e] at h4
    refine ⟨w.heap.size + 1, [{ target := .collected w.heap.size, args := #[] }], W, _, W, gf, #[Value.func (.yield (w.heap.size + 1)) #[] #[]] ++ cs, W, by rw [← hW]; exact run_enterLoop_outer _ _ _ _ _, hres _ _, fun _ _ => trivial, ?_, fun h => by simp [FW, Fence.wide] at h, ?_⟩
    · have := run_callFunc (w := W) h1 h2 h3 (#[Value.func (.yield (w.heap.size + 1)) #[] #[]] ++ cs)
      simpa [invoke] using this
    · rw [callsIn_FW]; exact h4
  · -- a loop within a round
    rename_i l0
    cases r with
    | none => exact hr.elim
    | some r =>
    obtain ⟨p0, hp0, rfl⟩ := hr
    split at h
    rotate_left
    · exact h.elim
    rename_i d hg0
    obtain ⟨p', q, rl0, rf0, hp', hq, hh, _, _, _, _, _, _, h6, _, _⟩ := hs.m.blk l0 _ hg0
    rw [hp0] at hp'; cases hp'
    obtain ⟨⟨fnn, c, h1, h2, h3⟩, h4⟩ := rangeGo_wp (r := some p0.blk) (n := n) (g := g) (rl := { state := .ready, pending := none, fn := fn', tmps := a.tmps, params := ps, assign := ac, body := bc, defers := rl0.defers })
      hE hG hrf (.refl g) hs hq h hcap rfl rfl rfl rfl rfl h6 rfl
    obtain ⟨W, hW⟩ : ∃ W, w.alloc (.loop { state := .ready, pending := none, fn := fn', tmps := a.tmps, params := ps, assign := ac, body := bc, defers := rl0.defers }) = W := ⟨_, rfl⟩
    rw [hW] at h4
    refine ⟨w.heap.size, [], W, _, W, gf, #[Value.func (.yield w.heap.size) #[] #[]] ++ cs, W, by rw [← hW]; exact run_enterLoop_inner hh _ _ _ _ _, hres _ _, fun _ _ => trivial, ?_, fun h => by simp [FW, Fence.wide] at h, ?_⟩
    · have := run_callFunc (w := W) h1 h2 h3 (#[Value.func (.yield w.heap.size) #[] #[]] ++ cs)
      simpa [invoke] using this
    · rw [callsIn_FW]; simpa using h4
theorem exec_sound {cx : Cx} {e : Eng} (hE : EngSound I cx e) (hG : GOk cx.kn.globs A) {fn : FuncId} {rnd r : Option Nat} {bid o : Nat} {c : Code} {s : St} {k : Ex → St → Tree}
    (h : (execStep cx e fn rnd bid o c s k).vc I g.env) (hs : SRel A I cx.P (fun _ => False) g s a w) (hr : RndRel g rnd r) (hc : COK cx.P fn o c) (n : Nat) :
    c.wpIn (FW r) n cx.P (Post A I cx.P (fun _ => False) g k) a w := by
  cases c with
  | skip => exact wpIn_skip ⟨.normal, g, s, rfl, .refl _, hs, h⟩
  | label l => exact wpIn_label ⟨.normal, g, s, rfl, .refl _, hs, h⟩
  | ret => exact wpIn_ret ⟨.ret, g, s, rfl, .refl _, hs, h⟩
  | exit id => exact wpIn_exit ⟨.exit id, g, s, rfl, .refl _, hs, h⟩
  | seq x y =>
    simp only [execStep] at h
    have hcx : COK cx.P fn o x := fun i rf hi => hc i rf (by
      simp only [rfs]
      rw [List.getElem?_append_left]
      · exact hi
      · rcases Nat.lt_or_ge i (rfs x).length with h | h
        · exact h
        · rw [List.getElem?_eq_none (by simpa using h)] at hi; cases hi)
    have hcy : COK cx.P fn (o + (rfs x).length) y := fun i rf hi => by
      have := hc ((rfs x).length + i) rf (by
        simp only [rfs]
        rw [List.getElem?_append_right (by omega)]
        simpa using hi)
      rw [← Nat.add_assoc] at this
      exact this
    refine wpIn_seq (wpIn_mono (hE.exec hG h hs hr hcx n) fun ex a1 w1 hp => ?_)
    obtain ⟨x1, g1, s1, rfl, hle, hs1, hk⟩ := hp
    cases x1 with
    | normal => exact wpIn_mono (hE.exec hG hk hs1 (hr.le hle hs.m.wf) hcy n) fun ex a2 w2 hp => hp.mono hle
    | ret => exact ⟨.ret, g1, s1, rfl, hle, hs1, hk⟩
    | exit id => exact ⟨.exit id, g1, s1, rfl, hle, hs1, hk⟩
    | goto l => exact ⟨.goto l, g1, s1, rfl, hle, hs1, hk⟩
  | block id b =>
    simp only [execStep] at h
    refine wpIn_block (wpIn_mono (hE.exec hG h hs hr (fun i rf hi => hc i rf (by simpa [rfs] using hi)) n) fun ex a1 w1 hp => ?_)
    obtain ⟨x1, g1, s1, rfl, hle, hs1, hk⟩ := hp
    cases x1 with
    | normal => exact ⟨.normal, g1, s1, rfl, hle, hs1, hk⟩
    | ret => exact ⟨.ret, g1, s1, rfl, hle, hs1, hk⟩
    | exit id' =>
      dsimp only at hk
      simp only [Ex.toX, Exit.inBlock]
      split at hk
      · rename_i he; rw [if_pos he]; exact ⟨.normal, g1, s1, rfl, hle, hs1, hk⟩
      · rename_i he; rw [if_neg he]; exact ⟨.exit id', g1, s1, rfl, hle, hs1, hk⟩
    | goto l => exact ⟨.goto l, g1, s1, rfl, hle, hs1, hk⟩
  | cond c x y =>
    simp only [execStep] at h
    have hcx : COK cx.P fn o x := fun i rf hi => hc i rf (by
      simp only [rfs]
      rw [List.getElem?_append_left]
      · exact hi
      · rcases Nat.lt_or_ge i (rfs x).length with h | h
        · exact h
        · rw [List.getElem?_eq_none (by simpa using h)] at hi; cases hi)
    have hcy : COK cx.P fn (o + (rfs x).length) y := fun i rf hi => by
      have := hc ((rfs x).length + i) rf (by
        simp only [rfs]
        rw [List.getElem?_append_right (by omega)]
        simpa using hi)
      rw [← Nat.add_assoc] at this
      exact this
    split at h
    · rename_i m hev
      obtain ⟨m', h1, h2⟩ : Rel I g (.bool (.lit m)) (a.eval c) := evalOp_rel hs.t hev fun _ _ h => h
      simp [E.den] at h1; subst h1
      split at h
      · rename_i hm
        subst hm
        exact wpIn_cond_false (by simpa using h2) (hE.exec hG h hs hr hcy n)
      · rename_i hm
        exact wpIn_cond_true (by simpa [hm] using h2) (hE.exec hG h hs hr hcx n)
    · rename_i q _ hev
      obtain ⟨m, h1, h2⟩ : Rel I g (.bool q) (a.eval c) := evalOp_rel hs.t hev fun _ _ h => h
      obtain ⟨h3, h4⟩ := h
      by_cases hm : m = 0
      · subst hm
        exact wpIn_cond_false (by simpa using h2) (hE.exec hG (h4 h1) hs hr hcy n)
      · exact wpIn_cond_true (by simpa [hm] using h2) (hE.exec hG (h3 m h1 hm) hs hr hcx n)
    · exact h.elim
  | loop b => exact (hE.loop hG h hs hr (fun i rf hi => hc i rf (by simpa [rfs] using hi)) n).wp
  | region id ops dr =>
    cases dr with
    | false =>
      simp only [execStep] at h
      split at h
      · exact h.elim
      rename_i hdf
      have hd : r = none ∨ ∀ (i : Nat) (o : Oper), ops[i]? = some o → isDefer o.op = false := by
        cases rnd with
        | none => cases r with
          | none => exact .inl rfl
          | some _ => exact hr.elim
        | some b =>
          right
          intro i o ho
          simp only [Option.isSome_some, Bool.true_and, Bool.not_eq_true] at hdf
          rw [Array.any_eq_false'] at hdf
          cases hb : isDefer o.op with
          | false => rfl
          | true => exact absurd hb (hdf o (Array.mem_of_getElem? ho))
      exact wpIn_region (runOps_wp hE hG hd hs h fun g' a' w' hle hn => by
        obtain ⟨g2, s2, h1, h2, h3⟩ := hn
        exact ⟨.normal, g2, s2, rfl, hle.trans h1, h2, h3⟩)
    | true =>
      simp only [execStep] at h
      split at h
      rotate_left
      · exact h.elim
      rename_i hcond
      simp only [Bool.and_eq_true] at hcond
      have hD := drawOk_spec hcond.1
      have hs' : SRel A I cx.P (fun _ => False) g s a { w with drawn := w.drawn + 1 } := ⟨hs.m.heap_eq rfl, hs.t, hs.nt, hs.d, hs.nv, hs.nb⟩
      refine wpIn_region_any hcond.2 ?_
      refine drawGo_wp hE hG hD (g0 := g) (k := fun s' => k .normal s') (fun g' s' a' w' h1 h2 h3 => ⟨.normal, g', s', rfl, h1, h2, h3⟩) ops.size _ g _ _ a _ (List.range ops.size) (.refl g) h ?_ (fun i b x hm => by simp at hm) (by simp) (fun i hi _ => by simpa using hi)
      refine ⟨hs'.weaken fun t h => h.elim, by simp, fun i hi => ?_, fun i hi => absurd hi Ns.not_none, fun i o hi => absurd hi Ns.not_none, fun i b x hm => by simp at hm, rfl, rfl, fun i b x o hm => by simp at hm, fun i hi => absurd hi Ns.not_none, fun c b hc => by simp [getE] at hc, fun i hi => absurd hi Ns.not_none, fun i hi => ?_⟩
      · exfalso
        simp only [Array.getD_eq_getD_getElem?, Array.getElem?_replicate] at hi
        split at hi <;> simp at hi
      · exfalso
        simp only [Array.getD_eq_getD_getElem?, Array.getElem?_replicate] at hi
        split at hi <;> simp at hi
  | rangeFunc f ps x y => exact range_wp hE hG h hs hr hc n
  | _ => exact h.elim
theorem loop_sound {cx : Cx} {e : Eng} (hE : EngSound I cx e) (hG : GOk cx.kn.globs A) {fn : FuncId} {rnd r : Option Nat} {bid o : Nat} {c : Code} {s : St} {k : Ex → St → Tree}
    (h : (loopStep cx e fn rnd bid o c s k).vc I g.env) (hs : SRel A I cx.P (fun _ => False) g s a w) (hr : RndRel g rnd r) (hc : COK cx.P fn o c) (n : Nat) :
    LoopWp (FW r) n cx.P c (Post A I cx.P (fun _ => False) g k) a w := by
  unfold loopStep at h
  split at h
  · exact loopHead_wp hE hG h hs hr hc n
  · refine LoopWp.round (wpIn_mono (hE.exec hG h hs hr hc n) fun ex a1 w1 hp => ?_)
    obtain ⟨x1, g1, s1, rfl, hle, hs1, hk⟩ := hp
    cases x1 with
    | normal =>
      have hs1 : SRel A I cx.P (fun _ => False) g1 { s1 with tmps := keepL s.tmps s1.tmps, mem := gcR s.nb { s1 with tmps := keepL s.tmps s1.tmps } } a1 w1 := { hs1 with t := fun t v h1 h2 => hs1.t t v (get_keepL h1) h2, m := hs1.m.sub fun b y hb => gcR_get (s := { s1 with tmps := keepL s.tmps s1.tmps }) hb }
      have := hE.loop hG hk hs1 (hr.le hle hs.m.wf) hc n
      intro b k' cs h1 h2 h3
      obtain ⟨e', a', w', hq, harr⟩ := this b k' cs h1 h2 h3
      exact ⟨e', a', w', hq.mono hle, harr⟩
    | ret => exact ⟨.ret, g1, s1, rfl, hle, hs1, hk⟩
    | exit id => exact ⟨.exit id, g1, s1, rfl, hle, hs1, hk⟩
    | goto l => exact ⟨.goto l, g1, s1, rfl, hle, hs1, hk⟩
theorem eng_sound {cx : Cx} (hC : ∀ c ∈ cx.cs, COk I cx.P cx.kn.globs c) : ∀ n, EngSound I cx (eng cx n)
  | 0 => ⟨fun _ h => h.elim, fun _ h => h.elim, fun _ h => h.elim, fun _ h => h.elim⟩
  | n + 1 =>
    have hE := eng_sound hC n
    ⟨fun hG h hs hr hc => exec_sound hE hG h hs hr hc, fun hG h hs hr hc => loop_sound hE hG h hs hr hc, fun hG h hs hf ha => callv_sound hE hG hC h hs hf ha, fun hG h hs ha => callF_sound hE hG hC h hs ha⟩
end Go.Sx
namespace Go.Sx
open Go
variable {A : Amb} {I : Itp} {P : Program} {g : G} {X : Nat → Prop} {ts : Tmps} {a : Act} {M : Mem} {w : World} {ops : Array Oper}
theorem finish0_sound {c : Contract} {v : AV} {s : St} {g2 : G} {x : Value} {w' : World} (hso : Sorts c.sorts g.env) (hnb : g.nb = c.nb) (hle : g.Le g2) (h : (finish0 c v s).vc I g2.env)
    (hm : MRel A I P g2 s.mem w') (hv : Rel I g2 v x) :
    ∃ outs g', Sorts c.outs outs ∧ g'.env = g.env ++ outs ∧ g'.nb = c.nb + c.fresh.length ∧ (∀ b, b < c.nb → g'.φ b = g.φ b) ∧ Rel I g' c.res x ∧ MRel A I P g' (c.mods ++ c.fresh) w' ∧ ∀ p ∈ c.post, p.den I g'.env := by
  unfold finish0 at h
  simp only at h
  split at h
  · exact h.elim
  rename_i hcond
  simp only [Bool.or_eq_true, Bool.not_eq_true', decide_eq_false_iff_not, not_or, Bool.not_eq_false, Decidable.not_not] at hcond
  obtain ⟨hle', hlen⟩ := hcond
  generalize hu : matchSt c.sorts.length c.nb c.outs.length c.fresh.length { tmps := [(0, c.res)], nt := 0, defers := [], mem := c.mods ++ c.fresh, nv := c.sorts.length, nb := c.nb } { tmps := [(0, v)], nt := 0, defers := [], mem := s.mem, nv := c.sorts.length, nb := c.nb } = u at *
  have hu1 : u.nv = c.sorts.length := by rw [← hu]; rfl
  have hu2 : u.nb = c.nb := by rw [← hu]; rfl
  have hu3 : u.kb = c.nb + c.fresh.length := by rw [← hu]; rfl
  obtain ⟨hps, _⟩ := mkAsserts_vc h
  obtain ⟨ds, hds, hdso⟩ := sortPs_sorts hlen (fun p hp => hps p (by simp [hp]))
  obtain ⟨⟨xs, hxs⟩, hgnb, hgφ⟩ := hle
  have hnv := hso.length
  have hfit : u.Fits I g2 ds := ⟨hds, by rw [hu1, hxs]; simp; omega, by omega⟩
  have htake : g2.env.take u.nv = g.env := by rw [hu1, hxs, ← hnv, List.take_left']; rfl
  simp only [Fix.leS, Bool.and_eq_true, beq_iff_eq] at hle'
  obtain ⟨⟨⟨⟨_, _⟩, hleT⟩, hleM⟩, hok⟩ := hle'
  have henv : (u.view g2 ds).env = g.env ++ ds := by simp [Fix.view, htake]
  refine ⟨ds, u.view g2 ds, hdso, henv, by simp [Fix.view, hu3], fun b hb => ?_, ?_, Fix.mrel hfit hm hleM hok, fun p hp => ?_⟩
  · have : u.img b = some b := by unfold Fix.img; rw [if_pos (by omega)]
    rw [Fix.view_φ this, hgφ b (by omega)]
  · have h0 : TRel I g2 (fun _ => False) [(0, v)] #[x] := fun t v' hv' _ => by
      simp only [get_cons] at hv'
      split at hv'
      · rename_i he; subst he; simp at hv'; subst hv'; exact ⟨_, rfl, hv⟩
      · cases hv'
    obtain ⟨y, hy, hr⟩ := Fix.leT_rel hfit hleT h0 0 c.res (by simp [get_cons]) (fun h => h)
    simp at hy; subst hy
    exact hr
  · have := PE.subst_den (n := c.sorts.length) hds (by rw [hxs]; simp; omega) (hps (p.subst c.sorts.length u.σ) (by simp; exact .inr ⟨p, hp, rfl⟩))
    rw [← hu1] at this
    simpa [Fix.view] using this
theorem le_tt {env : List D} {a b : E} (h : (PE.tt (mkBin .le a b)).den I env) : ∃ x y, a.den I env = some (.i x) ∧ b.den I env = some (.i y) ∧ x ≤ y := by
  obtain ⟨z, h1, h2⟩ := h
  unfold mkBin at h1
  split at h1
  · rename_i x y
    refine ⟨x, y, rfl, rfl, ?_⟩
    simp only [E.den, Option.some.injEq, D.i.injEq, BO.ev] at h1
    by_cases hxy : x ≤ y
    · exact hxy
    · simp [hxy] at h1; omega
  · simp only [E.den] at h1
    split at h1
    · rename_i x y hx hy
      refine ⟨x, y, hx, hy, ?_⟩
      simp only [Option.some.injEq, D.i.injEq, BO.ev] at h1
      by_cases hxy : x ≤ y
      · exact hxy
      · simp [hxy] at h1; omega
    · cases h1
theorem MRel.weak {b : Nat} {x y : Blk} (h : MRel A I P g M w) (hb : get M b = some x) (hy : BRel I P g b (fun i => w.heap[i]?) y) (hw : y.wr = x.wr) : MRel A I P g (put b y M) w where
  wf := h.wf
  blk := fun c z hc => by
    rw [get_put] at hc
    split at hc
    · rename_i e; subst e; cases hc; exact hy
    · exact h.blk c z hc
  lt := fun c z hc => by
    rw [get_put] at hc
    split at hc
    · rename_i e; subst e; exact h.lt b x hb
    · exact h.lt c z hc
  inj := fun c d z z' p q hc hd hz hp hq e => by
    rw [get_put] at hc hd
    have h1 : ∃ z, get M c = some z ∧ z.wr = true := by
      split at hc
      · rename_i e; subst e; cases hc; exact ⟨x, hb, hw ▸ hz⟩
      · exact ⟨z, hc, hz⟩
    have h2 : ∃ z, get M d = some z := by
      split at hd
      · rename_i e; subst e; exact ⟨x, hb⟩
      · exact ⟨z', hd⟩
    obtain ⟨z1, h1, h1w⟩ := h1
    obtain ⟨z2, h2⟩ := h2
    exact h.inj c d z1 z2 p q h1 h2 h1w hp hq e
  bnd := h.bnd
  own := fun c z p hc hz hp => by
    rw [get_put] at hc
    split at hc
    · rename_i e; subst e; cases hc; exact h.own b x p hb (hw ▸ hz) hp
    · exact h.own c z p hc hz hp
  size := h.size
  keep := h.keep
  same := h.same
theorem trimM_rel {u : Fix} : ∀ {l M : Mem}, MRel A I P g M w → (∀ p ∈ (trimM u l M).2, p.den I g.env) → MRel A I P g (trimM u l M).1 w
  | [], _, hm, _ => hm
  | x :: l, M, hm, hp => by
    simp only [trimM] at hp ⊢
    split
    · rename_i c y ps ht
      rw [ht] at hp
      simp only [List.mem_append] at hp
      refine trimM_rel ?_ fun p h => hp p (.inr h)
      unfold trim1 at ht
      split at ht
      · split at ht
        · split at ht
          · rename_i ks t n' wr nl hg
            split at ht
            · split at ht
              · cases ht
              · split at ht
                · rename_i row
                  simp only [Option.some.injEq, Prod.mk.injEq] at ht
                  obtain ⟨rfl, rfl, rfl⟩ := ht
                  refine hm.weak hg ?_ rfl
                  obtain ⟨f1, f2, k0, e1, e2, e3, e4⟩ := hp _ (.inl List.mem_cons_self)
                  obtain ⟨f, N, k1, k2, k3, k4⟩ := hm.blk _ _ hg
                  rw [k1] at e2; cases e2
                  rw [k2] at e3; cases e3
                  refine ⟨f1, _, e1, k2, k3, ?_⟩
                  rcases k4 with ⟨p, cs, T, fr, q1, q2, q3, q4⟩ | ⟨q1, q2, q3⟩
                  · exact .inl ⟨p, cs, T, fr, q1, q2, fun r j k hr hj => by
                      rw [e4 r j (by omega) (by omega) (List.getElem?_eq_some_iff.1 hj).1]
                      exact q3 r j k hr hj, q4⟩
                  · exact .inr ⟨q1, q2, q3⟩
                · cases ht
            · simp only [Option.some.injEq, Prod.mk.injEq] at ht
              obtain ⟨rfl, rfl, rfl⟩ := ht
              refine hm.weak hg ?_ rfl
              obtain ⟨z, a, h1, h2, h3⟩ := le_tt (hp _ (.inl List.mem_cons_self))
              obtain ⟨a', m, h4, h5, h6⟩ := le_tt (hp _ (.inl (List.mem_cons_of_mem _ List.mem_cons_self)))
              simp only [E.den, Option.some.injEq, D.i.injEq] at h1
              subst h1
              rw [h4] at h2; cases h2
              obtain ⟨f, N, k1, k2, k3, k4⟩ := hm.blk _ _ hg
              rw [k2] at h5; cases h5
              refine ⟨f, a, k1, h4, h3, ?_⟩
              rcases k4 with ⟨p, cs, T, fr, q1, q2, q3, q4⟩ | ⟨q1, q2, q3⟩
              · exact .inl ⟨p, cs, T, fr, q1, q2, fun r j k hr hj => q3 r j k (by omega) hj, fun hw => by
                  obtain ⟨e1, e2, e3⟩ := q4 hw
                  exact ⟨e1, e2, Nat.le_trans (Nat.mul_le_mul_right _ (by omega)) e3⟩⟩
              · exact .inr ⟨q1, by omega, q3⟩
          · cases ht
        · cases ht
      · split at ht
        · split at ht
          · rename_i l ks t n m wr hg
            split at ht
            · cases ht
            · split at ht
              · cases ht
              · simp only [Option.some.injEq, Prod.mk.injEq] at ht
                obtain ⟨rfl, rfl, rfl⟩ := ht
                refine hm.weak hg ?_ rfl
                obtain ⟨f1, f2, k0, e1, e2, e3, e4⟩ := hp _ (.inl List.mem_cons_self)
                obtain ⟨p, cs, T, fr, f, q1, q2, q3, q4, q5, q6, q7⟩ := hm.blk _ _ hg
                rw [q3] at e2; cases e2
                simp only [E.den, Option.some.injEq, D.i.injEq] at e3
                subst e3
                exact ⟨p, cs, T, fr, f1, q1, q2, e1, q4, fun r j k hr hj => by
                  rw [e4 r j (by omega) (by omega) (List.getElem?_eq_some_iff.1 hj).1]
                  exact q5 r j k hr hj, q6, q7⟩
          · cases ht
        · cases ht
      · cases ht
    · rename_i ht
      rw [ht] at hp
      exact trimM_rel hm hp
theorem finish_sound {c : Contract} {v : AV} {s : St} {g2 : G} {x : Value} {w' : World} (hso : Sorts c.sorts g.env) (hnb : g.nb = c.nb) (hle : g.Le g2) (h : (finish c v s).vc I g2.env)
    (hm : MRel A I P g2 s.mem w') (hv : Rel I g2 v x) :
    ∃ outs g', Sorts c.outs outs ∧ g'.env = g.env ++ outs ∧ g'.nb = c.nb + c.fresh.length ∧ (∀ b, b < c.nb → g'.φ b = g.φ b) ∧ Rel I g' c.res x ∧ MRel A I P g' (c.mods ++ c.fresh) w' ∧ ∀ p ∈ c.post, p.den I g'.env := by
  unfold finish at h
  obtain ⟨hp, h'⟩ := mkAsserts_vc h
  exact finish0_sound hso hnb hle h' (trimM_rel hm hp) hv
theorem verify_sound {cx : Cx} (hC : ∀ c ∈ cx.cs, COk I cx.P cx.kn.globs c) {fuel : Nat} {c : Contract} (h : ∀ ds, Sorts c.sorts ds → (verify cx fuel c).vc I ds) : COk I cx.P cx.kn.globs c := by
  intro g w xs hso hnb hG hm ha hpre
  have hv := h g.env hso
  unfold verify at hv
  split at hv
  rotate_left
  · exact hv.elim
  split at hv
  rotate_left
  · exact hv.elim
  have hb := assumes_vc hv hpre
  have hE := eng_sound hC fuel
  have hE' : EngSound I { cx with cs := [] } (eng cx fuel) := ⟨hE.exec, hE.loop, hE.callv, hE.callf⟩
  have hs : SRel (c.amb g w) I cx.P (fun _ => False) g { tmps := [], nt := 0, defers := [], mem := c.mem, nv := c.sorts.length, nb := c.nb } { tmps := #[], defers := [] } w :=
    ⟨hm, fun t v ht _ => by simp [get_nil] at ht, rfl, trivial, hso.length, hnb⟩
  obtain ⟨_, hcall⟩ := callF_sound hE' hG (fun c hc => by simp at hc) hb hs ha
  refine hcall.mono fun e w' he => ?_
  obtain ⟨v, rfl, av, g2, s2, hle, hrel, hs2, hk⟩ := he
  obtain ⟨outs, g', h1, h2, h3, h4, h5, h6, h7⟩ := finish_sound hso hnb hle hk hs2.m hrel
  exact ⟨v, outs, g', rfl, h1, h2, h3, h4, h5, h6, h7⟩
end Go.Sx
noncomputable section
namespace Go.Sx
open Go
variable {I : Itp} {P : Program}
end Go.Sx
end
noncomputable section
namespace Go.Sx
open Go
variable {I : Itp}
def E.sortOf (fs : Nat → Option Bool) (ss : List Bool) : E → Option Bool
  | .lit _ => some false
  | .var i => ss[i]?
  | .bin _ a b => if a.sortOf fs ss = some false ∧ b.sortOf fs ss = some false then some false else none
  | .wrap _ a => if a.sortOf fs ss = some false then some false else none
  | .zt => some true
  | .kt _ => some true
  | .bt _ => some true
  | .sel t r _ => if t.sortOf fs ss = some true ∧ r.sortOf fs ss = some false then some false else none
  | .upd t r _ v => if t.sortOf fs ss = some true ∧ r.sortOf fs ss = some false ∧ v.sortOf fs ss = some false then some true else none
  | .cat t n u => if t.sortOf fs ss = some true ∧ n.sortOf fs ss = some false ∧ u.sortOf fs ss = some true then some true else none
  | .sh t n => if t.sortOf fs ss = some true ∧ n.sortOf fs ss = some false then some true else none
  | .teq t n u m => if (t.sortOf fs ss = some true ∧ n.sortOf fs ss = some false) ∧ u.sortOf fs ss = some true ∧ m.sortOf fs ss = some false then some false else none
  | .fn j a b c d => if (a.sortOf fs ss).isSome ∧ (b.sortOf fs ss).isSome ∧ (c.sortOf fs ss).isSome ∧ (d.sortOf fs ss).isSome then fs j else none
def D.is : Bool → D → Prop
  | true, .t _ => True
  | false, .i _ => True
  | _, _ => False
theorem D.is_i {d : D} (h : d.is false) : ∃ n, d = .i n := by cases d with | i n => exact ⟨n, rfl⟩ | t f => exact h.elim
theorem D.is_t {d : D} (h : d.is true) : ∃ f, d = .t f := by cases d with | i n => exact h.elim | t f => exact ⟨f, rfl⟩
def Itp.tot (I : Itp) (fs : Nat → Option Bool) : Prop := ∀ j s, fs j = some s → ∀ a b c d, ∃ x, I.ap j a b c d = some x ∧ x.is s
theorem Sorts.get : ∀ {ss : List Bool} {env : List D} {i : Nat} {b : Bool}, Sorts ss env → ss[i]? = some b → ∃ d, env[i]? = some d ∧ d.is b
  | true :: l, .t f :: m, 0, b, _, h => by simp at h; subst h; exact ⟨_, rfl, trivial⟩
  | false :: l, .i f :: m, 0, b, _, h => by simp at h; subst h; exact ⟨_, rfl, trivial⟩
  | true :: l, .t f :: m, i + 1, b, hs, h => by simpa using Sorts.get (ss := l) (env := m) (i := i) hs (by simpa using h)
  | false :: l, .i f :: m, i + 1, b, hs, h => by simpa using Sorts.get (ss := l) (env := m) (i := i) hs (by simpa using h)
  | [], [], _, _, _, h => by simp at h
  | [], _ :: _, _, _, h, _ => h.elim
  | true :: _, [], _, _, h, _ => h.elim
  | false :: _, [], _, _, h, _ => h.elim
  | true :: _, .i _ :: _, _, _, h, _ => h.elim
  | false :: _, .t _ :: _, _, _, h, _ => h.elim
theorem Sorts.app : ∀ {ss : List Bool} {env : List D} {b : Bool} {d : D}, Sorts ss env → d.is b → Sorts (ss ++ [b]) (env ++ [d])
  | [], [], true, .t _, _, _ => trivial
  | [], [], false, .i _, _, _ => trivial
  | [], [], true, .i _, _, h => h.elim
  | [], [], false, .t _, _, h => h.elim
  | true :: l, .t _ :: m, _, _, hs, h => Sorts.app (ss := l) (env := m) hs h
  | false :: l, .i _ :: m, _, _, hs, h => Sorts.app (ss := l) (env := m) hs h
  | [], _ :: _, _, _, h, _ => h.elim
  | true :: _, [], _, _, h, _ => h.elim
  | false :: _, [], _, _, h, _ => h.elim
  | true :: _, .i _ :: _, _, _, h, _ => h.elim
  | false :: _, .t _ :: _, _, _, h, _ => h.elim
theorem E.sortOf_den {fs : Nat → Option Bool} (hI : I.tot fs) {ss : List Bool} {env : List D} (hs : Sorts ss env) : ∀ {e : E} {b : Bool}, e.sortOf fs ss = some b → ∃ d, e.den I env = some d ∧ d.is b := by
  intro e
  induction e with
  | lit n => intro b h; simp only [E.sortOf, Option.some.injEq] at h; subst h; exact ⟨_, rfl, trivial⟩
  | zt => intro b h; simp only [E.sortOf, Option.some.injEq] at h; subst h; exact ⟨_, rfl, trivial⟩
  | kt row => intro b h; simp only [E.sortOf, Option.some.injEq] at h; subst h; exact ⟨_, rfl, trivial⟩
  | bt b' => intro b h; simp only [E.sortOf, Option.some.injEq] at h; subst h; exact ⟨_, rfl, trivial⟩
  | var i => intro b h; exact hs.get h
  | bin o x y ihx ihy =>
    intro b h
    simp only [E.sortOf] at h
    split at h
    · rename_i hc
      cases h
      obtain ⟨d1, h1, k1⟩ := ihx hc.1
      obtain ⟨d2, h2, k2⟩ := ihy hc.2
      obtain ⟨n1, rfl⟩ := D.is_i k1
      obtain ⟨n2, rfl⟩ := D.is_i k2
      exact ⟨.i (o.ev n1 n2), by simp [E.den, h1, h2], trivial⟩
    · cases h
  | wrap k x ihx =>
    intro b h
    simp only [E.sortOf] at h
    split at h
    · rename_i hc
      cases h
      obtain ⟨d1, h1, k1⟩ := ihx hc
      obtain ⟨n1, rfl⟩ := D.is_i k1
      exact ⟨.i (k.wrap n1), by simp [E.den, h1], trivial⟩
    · cases h
  | sel t r c iht ihr =>
    intro b h
    simp only [E.sortOf] at h
    split at h
    · rename_i hc
      cases h
      obtain ⟨d1, h1, k1⟩ := iht hc.1
      obtain ⟨d2, h2, k2⟩ := ihr hc.2
      obtain ⟨f, rfl⟩ := D.is_t k1
      obtain ⟨n2, rfl⟩ := D.is_i k2
      exact ⟨.i (f n2 c), by simp [E.den, h1, h2], trivial⟩
    · cases h
  | upd t r c v iht ihr ihv =>
    intro b h
    simp only [E.sortOf] at h
    split at h
    · rename_i hc
      cases h
      obtain ⟨d1, h1, k1⟩ := iht hc.1
      obtain ⟨d2, h2, k2⟩ := ihr hc.2.1
      obtain ⟨d3, h3, k3⟩ := ihv hc.2.2
      obtain ⟨f, rfl⟩ := D.is_t k1
      obtain ⟨n2, rfl⟩ := D.is_i k2
      obtain ⟨n3, rfl⟩ := D.is_i k3
      exact ⟨.t (tupd f n2 c n3), by simp only [E.den, h1, h2, h3], trivial⟩
    · cases h
  | cat t n u iht ihr ihv =>
    intro b h
    simp only [E.sortOf] at h
    split at h
    · rename_i hc
      cases h
      obtain ⟨d1, h1, k1⟩ := iht hc.1
      obtain ⟨d2, h2, k2⟩ := ihr hc.2.1
      obtain ⟨d3, h3, k3⟩ := ihv hc.2.2
      obtain ⟨f, rfl⟩ := D.is_t k1
      obtain ⟨n2, rfl⟩ := D.is_i k2
      obtain ⟨f3, rfl⟩ := D.is_t k3
      exact ⟨.t (tcat f n2 f3), by simp only [E.den, h1, h2, h3], trivial⟩
    · cases h
  | sh t n iht ihn =>
    intro b h
    simp only [E.sortOf] at h
    split at h
    · rename_i hc
      cases h
      obtain ⟨d1, h1, k1⟩ := iht hc.1
      obtain ⟨d2, h2, k2⟩ := ihn hc.2
      obtain ⟨f, rfl⟩ := D.is_t k1
      obtain ⟨n2, rfl⟩ := D.is_i k2
      exact ⟨.t fun r c => f (r + n2) c, by simp [E.den, h1, h2], trivial⟩
    · cases h
  | teq t n u m iht ihn ihu ihm =>
    intro b h
    simp only [E.sortOf] at h
    split at h
    · rename_i hc
      cases h
      obtain ⟨d1, h1, k1⟩ := iht hc.1.1
      obtain ⟨d2, h2, k2⟩ := ihn hc.1.2
      obtain ⟨d3, h3, k3⟩ := ihu hc.2.1
      obtain ⟨d4, h4, k4⟩ := ihm hc.2.2
      obtain ⟨f, rfl⟩ := D.is_t k1
      obtain ⟨n2, rfl⟩ := D.is_i k2
      obtain ⟨f3, rfl⟩ := D.is_t k3
      obtain ⟨n4, rfl⟩ := D.is_i k4
      exact ⟨.i (strEq f n2 f3 n4), by simp only [E.den, h1, h2, h3, h4], trivial⟩
    · cases h
  | fn j x y z u ihx ihy ihz ihu =>
    intro b h
    simp only [E.sortOf] at h
    split at h
    · rename_i hc
      obtain ⟨h1, h2, h3, h4⟩ := hc
      obtain ⟨b1, h1⟩ := Option.isSome_iff_exists.1 h1
      obtain ⟨b2, h2⟩ := Option.isSome_iff_exists.1 h2
      obtain ⟨b3, h3⟩ := Option.isSome_iff_exists.1 h3
      obtain ⟨b4, h4⟩ := Option.isSome_iff_exists.1 h4
      obtain ⟨d1, g1, _⟩ := ihx h1
      obtain ⟨d2, g2, _⟩ := ihy h2
      obtain ⟨d3, g3, _⟩ := ihz h3
      obtain ⟨d4, g4, _⟩ := ihu h4
      obtain ⟨x, hx, hx'⟩ := hI j b h d1 d2 d3 d4
      exact ⟨x, by simp only [E.den, g1, g2, g3, g4]; exact hx, hx'⟩
    · cases h
def PE.tf : Bool → E → PE
  | true, e => .tt e
  | false, e => .ff e
def flip1 (o : BO) (a b : E) : PE :=
  match o with
  | .lt => .tt (.bin .le b a)
  | .le => .tt (.bin .lt b a)
  | .eq => .tt (.bin .ne a b)
  | .ne => .tt (.bin .eq a b)
  | o => .ff (.bin o a b)
def E.flat (s : Bool) : E → List PE
  | .bin o a b =>
    if s = true ∧ o = .and then a.flat true ++ b.flat true
    else if s = false ∧ o = .or then a.flat false ++ b.flat false
    else if o = .eq ∧ b = .lit 0 then a.flat (!s)
    else if o = .ne ∧ b = .lit 0 then a.flat s
    else if s = true then [.tt (.bin o a b)] else [flip1 o a b]
  | e => [.tf s e]
theorem tt_bin {env : List D} {o : BO} {a b : E} : (PE.tt (.bin o a b)).den I env ↔ ∃ x y, a.den I env = some (.i x) ∧ b.den I env = some (.i y) ∧ o.ev x y ≠ 0 := by
  constructor
  · rintro ⟨n, h1, h2⟩
    simp only [E.den] at h1
    split at h1
    · rename_i x y hx hy; simp only [Option.some.injEq, D.i.injEq] at h1; exact ⟨x, y, hx, hy, by rw [h1]; exact h2⟩
    · cases h1
  · rintro ⟨x, y, hx, hy, h⟩
    exact ⟨o.ev x y, by simp [E.den, hx, hy], h⟩
theorem ff_bin {env : List D} {o : BO} {a b : E} : (PE.ff (.bin o a b)).den I env ↔ ∃ x y, a.den I env = some (.i x) ∧ b.den I env = some (.i y) ∧ o.ev x y = 0 := by
  constructor
  · intro h1
    simp only [PE.den, E.den] at h1
    split at h1
    · rename_i x y hx hy; simp only [Option.some.injEq, D.i.injEq] at h1; exact ⟨x, y, hx, hy, h1⟩
    · cases h1
  · rintro ⟨x, y, hx, hy, h⟩
    simp [PE.den, E.den, hx, hy, h]
theorem tt_i {env : List D} {a : E} : (PE.tt a).den I env ↔ ∃ x, a.den I env = some (.i x) ∧ x ≠ 0 := Iff.rfl
theorem ff_i {env : List D} {a : E} : (PE.ff a).den I env ↔ a.den I env = some (.i 0) := Iff.rfl
theorem flip1_den {env : List D} {o : BO} {a b : E} : (flip1 o a b).den I env ↔ (PE.ff (.bin o a b)).den I env := by
  have key : ∀ (o' : BO) (h : ∀ x y, o'.ev x y ≠ 0 ↔ o.ev x y = 0), (PE.tt (.bin o' a b)).den I env ↔ (PE.ff (.bin o a b)).den I env := by
    intro o' h
    rw [tt_bin, ff_bin]
    constructor
    · rintro ⟨x, y, h1, h2, h3⟩; exact ⟨x, y, h1, h2, (h x y).1 h3⟩
    · rintro ⟨x, y, h1, h2, h3⟩; exact ⟨x, y, h1, h2, (h x y).2 h3⟩
  have key2 : ∀ (o' : BO) (h : ∀ x y, o'.ev y x ≠ 0 ↔ o.ev x y = 0), (PE.tt (.bin o' b a)).den I env ↔ (PE.ff (.bin o a b)).den I env := by
    intro o' h
    rw [tt_bin, ff_bin]
    constructor
    · rintro ⟨x, y, h1, h2, h3⟩; exact ⟨y, x, h2, h1, (h y x).1 h3⟩
    · rintro ⟨x, y, h1, h2, h3⟩; exact ⟨y, x, h2, h1, (h x y).2 h3⟩
  cases o with
  | lt => exact key2 .le fun x y => by simp only [BO.ev]; split <;> split <;> simp <;> omega
  | le => exact key2 .lt fun x y => by simp only [BO.ev]; split <;> split <;> simp <;> omega
  | eq => exact key .ne fun x y => by simp only [BO.ev]; split <;> simp
  | ne => exact key .eq fun x y => by simp only [BO.ev]; split <;> simp
  | _ => exact Iff.rfl
theorem E.flat_den {env : List D} : ∀ {e : E} {s : Bool}, (∀ q ∈ e.flat s, q.den I env) ↔ (PE.tf s e).den I env := by
  intro e
  induction e with
  | bin o a b iha ihb =>
    intro s
    simp only [E.flat]
    split
    · rename_i h
      obtain ⟨rfl, rfl⟩ := h
      have h1 := iha (s := true)
      have h2 := ihb (s := true)
      simp only [PE.tf] at h1 h2 ⊢
      rw [tt_bin]
      simp only [List.mem_append, or_imp, forall_and, h1, h2, tt_i, BO.ev]
      constructor
      · rintro ⟨⟨x, h3, h4⟩, ⟨y, h5, h6⟩⟩; exact ⟨x, y, h3, h5, by simp [h4, h6]⟩
      · rintro ⟨x, y, h3, h5, h6⟩
        have : x ≠ 0 ∧ y ≠ 0 := by by_cases h : x ≠ 0 ∧ y ≠ 0; exact h; simp [h] at h6
        exact ⟨⟨x, h3, this.1⟩, ⟨y, h5, this.2⟩⟩
    split
    · rename_i h
      obtain ⟨rfl, rfl⟩ := h
      have h1 := iha (s := false)
      have h2 := ihb (s := false)
      simp only [PE.tf] at h1 h2 ⊢
      rw [ff_bin]
      simp only [List.mem_append, or_imp, forall_and, h1, h2, ff_i, BO.ev]
      constructor
      · rintro ⟨h3, h4⟩; exact ⟨0, 0, h3, h4, by simp⟩
      · rintro ⟨x, y, h3, h5, h6⟩
        have : x = 0 ∧ y = 0 := by
          by_cases hx : x = 0
          · by_cases hy : y = 0
            · exact ⟨hx, hy⟩
            · simp [hy] at h6
          · simp [hx] at h6
        obtain ⟨rfl, rfl⟩ := this
        exact ⟨h3, h5⟩
    split
    · rename_i h
      obtain ⟨rfl, rfl⟩ := h
      rw [iha]
      cases s with
      | true =>
        simp only [PE.tf, Bool.not_true]
        rw [tt_bin, ff_i]
        constructor
        · intro h; exact ⟨0, 0, h, rfl, by simp [BO.ev]⟩
        · rintro ⟨x, y, h1, h2, h3⟩
          simp only [E.den, Option.some.injEq, D.i.injEq] at h2
          subst h2
          have : x = 0 := by by_cases h : x = 0; exact h; simp [BO.ev, h] at h3
          subst this; exact h1
      | false =>
        simp only [PE.tf, Bool.not_false]
        rw [ff_bin, tt_i]
        constructor
        · rintro ⟨x, h, h0⟩; exact ⟨x, 0, h, rfl, by simp [BO.ev, h0]⟩
        · rintro ⟨x, y, h1, h2, h3⟩
          simp only [E.den, Option.some.injEq, D.i.injEq] at h2
          subst h2
          exact ⟨x, h1, fun h => by simp [BO.ev, h] at h3⟩
    split
    · rename_i h
      obtain ⟨rfl, rfl⟩ := h
      rw [iha]
      cases s with
      | true =>
        simp only [PE.tf]
        rw [tt_bin, tt_i]
        constructor
        · rintro ⟨x, h, h0⟩; exact ⟨x, 0, h, rfl, by simp [BO.ev, h0]⟩
        · rintro ⟨x, y, h1, h2, h3⟩
          simp only [E.den, Option.some.injEq, D.i.injEq] at h2
          subst h2
          exact ⟨x, h1, fun h => by simp [BO.ev, h] at h3⟩
      | false =>
        simp only [PE.tf]
        rw [ff_bin, ff_i]
        constructor
        · intro h; exact ⟨0, 0, h, rfl, by simp [BO.ev]⟩
        · rintro ⟨x, y, h1, h2, h3⟩
          simp only [E.den, Option.some.injEq, D.i.injEq] at h2
          subst h2
          have : x = 0 := by by_cases h : x = 0; exact h; simp [BO.ev, h] at h3
          subst this; exact h1
    split
    · rename_i h; subst h; simp [PE.tf]
    · rename_i h
      have : s = false := by simpa using h
      subst this
      simpa [PE.tf] using flip1_den
  | _ => intro s; simp [E.flat]
def PE.flat : PE → List PE
  | .tt e => e.flat true
  | .ff e => e.flat false
  | p => [p]
theorem PE.flat_den {env : List D} {p : PE} : (∀ q ∈ p.flat, q.den I env) ↔ p.den I env := by
  cases p with
  | tt e => exact E.flat_den
  | ff e => exact E.flat_den
  | _ => simp [PE.flat]
theorem PE.den_more {env xs : List D} {p : PE} (h : p.den I env) : p.den I (env ++ xs) := by
  cases p with
  | tt e => obtain ⟨n, h1, h2⟩ := h; exact ⟨n, E.den_more h1, h2⟩
  | ff e => exact E.den_more (e := e) h
  | rng k e => obtain ⟨n, h1, h2⟩ := h; exact ⟨n, E.den_more h1, h2⟩
  | same a b => obtain ⟨d, h1, h2⟩ := h; exact ⟨d, E.den_more h1, E.den_more h2⟩
  | pr j l => obtain ⟨ds, h1, h2⟩ := h; exact ⟨ds, dens_more h1, h2⟩
  | sort b e => cases b with
    | true => obtain ⟨d, h1⟩ := h; exact ⟨d, E.den_more h1⟩
    | false => obtain ⟨d, h1⟩ := h; exact ⟨d, E.den_more h1⟩
  | col t c lo hi => obtain ⟨f, h1, h2⟩ := h; exact ⟨f, E.den_more h1, h2⟩
  | agr t u n w => obtain ⟨f, g, k, h1, h2, h3, h4⟩ := h; exact ⟨f, g, k, E.den_more h1, E.den_more h2, E.den_more h3, h4⟩
  | byt t n => obtain ⟨f, k, h1, h2, h3⟩ := h; exact ⟨f, k, E.den_more h1, E.den_more h2, h3⟩
def litIs (s : Bool) : PE → Bool
  | .tt (.lit n) => s && n != 0
  | .ff (.lit n) => s && n == 0
  | _ => false
theorem litIs_den {env : List D} {p : PE} (h : litIs true p = true) : p.den I env := by
  unfold litIs at h
  split at h
  · exact ⟨_, rfl, by simpa using h⟩
  · rename_i n; have : n = 0 := by simpa using h
    subst this; rfl
  · cases h
def known (fs : Nat → Option Bool) (ss : List Bool) (K : List PE) (p : PE) : Bool :=
  match p with
  | .sort b e => decide (e.sortOf fs ss = some b) || K.contains (.sort b e)
  | .same a b => (decide (a = b) && (a.sortOf fs ss).isSome) || K.contains (.same a b)
  | p => p.flat.all fun q => K.contains q || litIs true q
theorem known_den {fs : Nat → Option Bool} (hI : I.tot fs) {ss : List Bool} {env : List D} (hs : Sorts ss env) {K : List PE} (hK : ∀ p ∈ K, p.den I env) {p : PE} (h : known fs ss K p = true) : p.den I env := by
  have gen : ∀ p : PE, (p.flat.all fun q => K.contains q || litIs true q) = true → p.den I env := by
    intro p h
    rw [← PE.flat_den]
    intro q hq
    have := List.all_eq_true.1 h q hq
    simp only [Bool.or_eq_true, List.contains_iff_mem] at this
    rcases this with h1 | h1
    · exact hK q h1
    · exact litIs_den h1
  cases p with
  | sort b e =>
    simp only [known, Bool.or_eq_true, decide_eq_true_eq, List.contains_iff_mem] at h
    rcases h with h | h
    · obtain ⟨d, h1, h2⟩ := E.sortOf_den hI hs h
      cases b with
      | true => obtain ⟨f, rfl⟩ := D.is_t h2; exact ⟨f, h1⟩
      | false => obtain ⟨f, rfl⟩ := D.is_i h2; exact ⟨f, h1⟩
    · exact hK _ h
  | same a b =>
    simp only [known, Bool.or_eq_true, Bool.and_eq_true, decide_eq_true_eq, List.contains_iff_mem] at h
    rcases h with ⟨rfl, h⟩ | h
    · obtain ⟨b, h⟩ := Option.isSome_iff_exists.1 h
      obtain ⟨d, h1, _⟩ := E.sortOf_den hI hs h
      exact ⟨d, h1, h1⟩
    · exact hK _ h
  | tt e => exact gen _ h
  | ff e => exact gen _ h
  | rng k e => exact gen _ h
  | pr j l => exact gen _ h
  | byt t n => exact gen _ h
  | col t c lo hi => exact gen _ h
  | agr t u n w => exact gen _ h
def Tree.isOk : Tree → Bool
  | .ok => true
  | _ => false
theorem Tree.isOk_vc {t : Tree} {env : List D} (h : t.isOk = true) : t.vc I env := by cases t <;> first | trivial | cases h
def mkBin2 (o : BO) (a b : E) : E :=
  match o with
  | .add => mkAdd a b
  | o => mkBin o a b
def E.sub (σ : List E) : E → E
  | .lit n => .lit n
  | .var i => (σ[i]?).getD .zt
  | .bin o a b => mkBin2 o (a.sub σ) (b.sub σ)
  | .wrap k a => mkWrap k (a.sub σ)
  | .zt => .zt
  | .kt row => .kt row
  | .bt b => .bt b
  | .sel t r c => mkSel (t.sub σ) (r.sub σ) c
  | .upd t r c v => .upd (t.sub σ) (r.sub σ) c (v.sub σ)
  | .cat t n u => .cat (t.sub σ) (n.sub σ) (u.sub σ)
  | .sh t n => .sh (t.sub σ) (n.sub σ)
  | .teq t n u m => .teq (t.sub σ) (n.sub σ) (u.sub σ) (m.sub σ)
  | .fn j a b c d => .fn j (a.sub σ) (b.sub σ) (c.sub σ) (d.sub σ)
theorem mkBin_den {env : List D} {o : BO} {a b : E} {x y : Int} (ha : a.den I env = some (.i x)) (hb : b.den I env = some (.i y)) : (mkBin o a b).den I env = some (.i (o.ev x y)) := by
  unfold mkBin
  split
  · simp only [E.den, Option.some.injEq, D.i.injEq] at ha hb; subst ha hb; rfl
  · simp only [E.den, ha, hb]
theorem mkAdd_den' {env : List D} {a b : E} {x y : Int} (ha : a.den I env = some (.i x)) (hb : b.den I env = some (.i y)) : (mkAdd a b).den I env = some (.i (x + y)) := by
  unfold mkAdd
  split
  · simp only [E.den, Option.some.injEq, D.i.injEq] at ha hb; subst ha hb; rfl
  · simp only [E.den, Option.some.injEq, D.i.injEq] at ha; subst ha; simpa using hb
  · simp only [E.den, Option.some.injEq, D.i.injEq] at hb; subst hb; simpa using ha
  · rename_i a' p q _
    obtain ⟨u, v, h1, h2, rfl⟩ := den_add_inv ha
    simp [E.den] at h2 hb
    subst h2; subst hb
    split
    · rw [h1]; congr 2; omega
    · simp only [E.den, h1, BO.ev]; congr 2; omega
  · simp only [E.den, ha, hb, BO.ev]
theorem mkBin2_den {env : List D} {o : BO} {a b : E} {x y : Int} (ha : a.den I env = some (.i x)) (hb : b.den I env = some (.i y)) : (mkBin2 o a b).den I env = some (.i (o.ev x y)) := by
  unfold mkBin2
  split
  · exact mkAdd_den' ha hb
  · exact mkBin_den ha hb
theorem mkWrap_den' {env : List D} {k : IntKind} {a : E} {x : Int} (ha : a.den I env = some (.i x)) : (mkWrap k a).den I env = some (.i (k.wrap x)) := by
  unfold mkWrap
  split
  · simp only [E.den, Option.some.injEq, D.i.injEq] at ha; subst ha; rfl
  · simp only [E.den, ha]
theorem dens_at {env' : List D} : ∀ {σ : List E} {env : List D}, dens I env' σ = some env → ∀ {i : Nat} {d : D}, env[i]? = some d → ∃ e, σ[i]? = some e ∧ e.den I env' = some d
  | [], env, h, i, d, hd => by simp only [dens, Option.some.injEq] at h; subst h; simp at hd
  | e :: σ, env, h, i, d, hd => by
    simp only [dens] at h
    split at h
    · rename_i d0 ds h1 h2
      cases h
      cases i with
      | zero => simp at hd; subst hd; exact ⟨e, rfl, h1⟩
      | succ i => simpa using dens_at h2 (i := i) (by simpa using hd)
    · cases h
theorem E.sub_den {σ : List E} {env env' : List D} (hσ : dens I env' σ = some env) : ∀ {e : E} {d : D}, e.den I env = some d → (e.sub σ).den I env' = some d := by
  intro e
  induction e with
  | lit n => intro d h; exact h
  | zt => intro d h; exact h
  | kt row => intro d h; exact h
  | bt b => intro d h; exact h
  | var i =>
    intro d h
    obtain ⟨e, h1, h2⟩ := dens_at hσ h
    simp only [E.sub, h1]; exact h2
  | bin o a b iha ihb =>
    intro d h
    simp only [E.den] at h
    split at h
    · rename_i x y h1 h2; cases h; exact mkBin2_den (iha h1) (ihb h2)
    · cases h
  | wrap k a ih =>
    intro d h
    simp only [E.den] at h
    split at h
    · rename_i x h1; cases h; exact mkWrap_den' (ih h1)
    · cases h
  | sel t r c iht ihr =>
    intro d h
    simp only [E.den] at h
    split at h
    · rename_i x y h1 h2; cases h; exact den_mkSel (iht h1) (ihr h2)
    · cases h
  | upd t r c v iht ihr ihv =>
    intro d h
    simp only [E.den] at h
    split at h
    · rename_i x y z h1 h2 h3; cases h; simp only [E.sub, E.den, iht h1, ihr h2, ihv h3]
    · cases h
  | cat t n u iht ihn ihu =>
    intro d h
    simp only [E.den] at h
    split at h
    · rename_i x y z h1 h2 h3; cases h; simp only [E.sub, E.den, iht h1, ihn h2, ihu h3]
    · cases h
  | sh t n iht ihn =>
    intro d h
    simp only [E.den] at h
    split at h
    · rename_i x y h1 h2; cases h; simp only [E.sub, E.den, iht h1, ihn h2]
    · cases h
  | teq t n u m iht ihn ihu ihm =>
    intro d h
    simp only [E.den] at h
    split at h
    · rename_i x y z v h1 h2 h3 h4; cases h; simp only [E.sub, E.den, iht h1, ihn h2, ihu h3, ihm h4]
    · cases h
  | fn j a b c d iha ihb ihc ihd =>
    intro x h
    simp only [E.den] at h
    split at h
    · rename_i x1 x2 x3 x4 h1 h2 h3 h4; simp only [E.sub, E.den, iha h1, ihb h2, ihc h3, ihd h4]; exact h
    · cases h
theorem dens_sub {σ : List E} {env env' : List D} (hσ : dens I env' σ = some env) : ∀ {l : List E} {ds : List D}, dens I env l = some ds → dens I env' (l.map (E.sub σ)) = some ds
  | [], _, h => h
  | e :: l, ds, h => by
    simp only [dens] at h
    split at h
    · rename_i d ds' h1 h2
      cases h
      simp only [List.map_cons, dens, E.sub_den hσ h1, dens_sub hσ h2]
    · cases h
def PE.sub (σ : List E) : PE → PE
  | .tt e => .tt (e.sub σ)
  | .ff e => .ff (e.sub σ)
  | .rng k e => .rng k (e.sub σ)
  | .same a b => .same (a.sub σ) (b.sub σ)
  | .pr j l => .pr j (l.map (E.sub σ))
  | .sort b e => .sort b (e.sub σ)
  | .byt t n => .byt (t.sub σ) (n.sub σ)
  | .col t c lo hi => .col (t.sub σ) c lo hi
  | .agr t u n w => .agr (t.sub σ) (u.sub σ) (n.sub σ) w
theorem PE.sub_den {σ : List E} {env env' : List D} (hσ : dens I env' σ = some env) : ∀ {p : PE}, p.den I env → (p.sub σ).den I env'
  | .tt _, ⟨n, h1, h2⟩ => ⟨n, E.sub_den hσ h1, h2⟩
  | .ff e, h => E.sub_den (e := e) hσ h
  | .rng _ _, ⟨n, h1, h2⟩ => ⟨n, E.sub_den hσ h1, h2⟩
  | .same _ _, ⟨d, h1, h2⟩ => ⟨d, E.sub_den hσ h1, E.sub_den hσ h2⟩
  | .pr _ _, ⟨ds, h1, h2⟩ => ⟨ds, dens_sub hσ h1, h2⟩
  | .sort true _, ⟨f, h⟩ => ⟨f, E.sub_den hσ h⟩
  | .sort false _, ⟨f, h⟩ => ⟨f, E.sub_den hσ h⟩
  | .col _ _ _ _, ⟨f, h1, h2⟩ => ⟨f, E.sub_den hσ h1, h2⟩
  | .agr _ _ _ _, ⟨f, g, k, h1, h2, h3, h4⟩ => ⟨f, g, k, E.sub_den hσ h1, E.sub_den hσ h2, E.sub_den hσ h3, h4⟩
  | .byt _ _, ⟨f, k, h1, h2, h3⟩ => ⟨f, k, E.sub_den hσ h1, E.sub_den hσ h2, h3⟩
def PE.sorted (fs : Nat → Option Bool) (ss : List Bool) : PE → Bool
  | .tt e | .ff e | .rng _ e | .sort _ e | .col e _ _ _ => (e.sortOf fs ss).isSome
  | .same a b | .byt a b => (a.sortOf fs ss).isSome && (b.sortOf fs ss).isSome
  | .agr t u n _ => (t.sortOf fs ss).isSome && ((u.sortOf fs ss).isSome && (n.sortOf fs ss).isSome)
  | .pr _ l => l.all fun e => (e.sortOf fs ss).isSome
section
variable {fs : Nat → Option Bool} (hI : I.tot fs) {ss : List Bool} {σ : List E} {env env' : List D} (hs : Sorts ss env) (hσ : dens I env' σ = some env)
include hI hs hσ
theorem E.sub_back {e : E} {d : D} (h1 : (e.sortOf fs ss).isSome = true) (h2 : (e.sub σ).den I env' = some d) : e.den I env = some d := by
  obtain ⟨b, hb⟩ := Option.isSome_iff_exists.1 h1
  obtain ⟨d', h3, _⟩ := E.sortOf_den hI hs hb
  have := E.sub_den hσ h3
  rw [this] at h2; cases h2; exact h3
theorem dens_back : ∀ {l : List E} {ds : List D}, (l.all fun e => (e.sortOf fs ss).isSome) = true → dens I env' (l.map (E.sub σ)) = some ds → dens I env l = some ds
  | [], _, _, h => h
  | e :: l, ds, hl, h => by
    simp only [List.all_cons, Bool.and_eq_true] at hl
    simp only [List.map_cons, dens] at h
    split at h
    · rename_i d ds' h1 h2
      cases h
      simp only [dens, E.sub_back hI hs hσ hl.1 h1, dens_back hl.2 h2]
    · cases h
theorem PE.sub_back {p : PE} (h1 : p.sorted fs ss = true) (h2 : (p.sub σ).den I env') : p.den I env := by
  cases p with
  | tt e => obtain ⟨n, h3, h4⟩ := h2; exact ⟨n, E.sub_back hI hs hσ h1 h3, h4⟩
  | ff e => exact E.sub_back hI hs hσ h1 h2
  | rng k e => obtain ⟨n, h3, h4⟩ := h2; exact ⟨n, E.sub_back hI hs hσ h1 h3, h4⟩
  | same a b =>
    simp only [PE.sorted, Bool.and_eq_true] at h1
    obtain ⟨d, h3, h4⟩ := h2
    exact ⟨d, E.sub_back hI hs hσ h1.1 h3, E.sub_back hI hs hσ h1.2 h4⟩
  | pr j l => obtain ⟨ds, h3, h4⟩ := h2; exact ⟨ds, dens_back hI hs hσ h1 h3, h4⟩
  | sort b e => cases b with
    | true => obtain ⟨n, h3⟩ := h2; exact ⟨n, E.sub_back hI hs hσ h1 h3⟩
    | false => obtain ⟨n, h3⟩ := h2; exact ⟨n, E.sub_back hI hs hσ h1 h3⟩
  | col t c lo hi => obtain ⟨f, h3, h4⟩ := h2; exact ⟨f, E.sub_back hI hs hσ h1 h3, h4⟩
  | agr t u n w =>
    simp only [PE.sorted, Bool.and_eq_true] at h1
    obtain ⟨f, g, k, h3, h4, h5, h6⟩ := h2
    exact ⟨f, g, k, E.sub_back hI hs hσ h1.1 h3, E.sub_back hI hs hσ h1.2.1 h4, E.sub_back hI hs hσ h1.2.2 h5, h6⟩
  | byt t m =>
    simp only [PE.sorted, Bool.and_eq_true] at h1
    obtain ⟨f, k, h3, h4, h5⟩ := h2
    exact ⟨f, k, E.sub_back hI hs hσ h1.1 h3, E.sub_back hI hs hσ h1.2 h4, h5⟩
end
def isVar : E → Bool
  | .var _ => true
  | _ => false
def defined (σ : List E) : PE → List E
  | .same (.var i) e => if ((σ[i]?).map isVar) = some true then σ.set i (e.sub σ) else σ
  | _ => σ
theorem dens_set {env' : List D} {e : E} {d : D} : ∀ {σ : List E} {env : List D} {i : Nat}, dens I env' σ = some env → env[i]? = some d → e.den I env' = some d → dens I env' (σ.set i e) = some env
  | [], env, i, h, hi, _ => by simp only [dens, Option.some.injEq] at h; subst h; simp at hi
  | e0 :: σ, env, i, h, hi, he => by
    simp only [dens] at h
    split at h
    · rename_i d0 ds h1 h2
      cases h
      cases i with
      | zero => simp at hi; subst hi; simp only [List.set_cons_zero, dens, he, h2]
      | succ i => simp only [List.set_cons_succ, dens, h1, dens_set h2 (by simpa using hi) he]
    · cases h
theorem defined_den {σ : List E} {env env' : List D} (hσ : dens I env' σ = some env) {p : PE} (hp : p.den I env) : dens I env' (defined σ p) = some env := by
  unfold defined
  split
  · split
    · obtain ⟨d, h1, h2⟩ := hp
      exact dens_set hσ h1 (E.sub_den hσ h2)
    · exact hσ
  · exact hσ
def Tree.tidy (fs : Nat → Option Bool) : List Bool → List E → List Bool → List PE → Tree → Tree
  | _, _, _, _, .ok => .ok
  | _, _, _, _, .fail n => .fail n
  | ss, σ, ss', K, .assert p t => if p.sorted fs ss then
      let q := p.sub σ
      if known fs ss' K q then t.tidy fs ss σ ss' K else .assert q (t.tidy fs ss σ ss' (q.flat ++ K))
    else .fail 200
  | ss, σ, ss', K, .assume p t =>
    let q := p.sub σ
    if known fs ss' K q then t.tidy fs ss σ ss' K else
    let t' := t.tidy fs ss (defined σ p) ss' (q.flat ++ K)
    if t'.isOk then .ok else .assume q t'
  | ss, σ, ss', K, .branch e a b => if e.sortOf fs ss = some false then
      let c := e.sub σ
      if known fs ss' K (.tt c) then a.tidy fs ss σ ss' K else if known fs ss' K (.ff c) then b.tidy fs ss σ ss' K else
      let a' := a.tidy fs ss σ ss' (c.flat true ++ K)
      let b' := b.tidy fs ss σ ss' (c.flat false ++ K)
      if a'.isOk && b'.isOk then .ok else .branch c a' b'
    else .fail 201
  | ss, σ, ss', K, .both a b =>
    let a' := a.tidy fs ss σ ss' K
    let b' := b.tidy fs ss σ ss' K
    if a'.isOk then b' else if b'.isOk then a' else .both a' b'
  | ss, σ, ss', K, .havoc s t =>
    let t' := t.tidy fs (ss ++ [s]) (σ ++ [.var ss'.length]) (ss' ++ [s]) K
    if t'.isOk then .ok else .havoc s t'
theorem dens_app1 {env' : List D} {e : E} {d : D} (he : e.den I env' = some d) : ∀ {σ : List E} {env : List D}, dens I env' σ = some env → dens I env' (σ ++ [e]) = some (env ++ [d])
  | [], env, h => by simp only [dens, Option.some.injEq] at h; subst h; simp [dens, he]
  | e0 :: σ, env, h => by
    simp only [dens] at h
    split at h
    · rename_i d0 ds h1 h2
      cases h
      simp only [List.cons_append, dens, h1, dens_app1 he h2]
    · cases h
theorem Tree.tidy_vc {fs : Nat → Option Bool} (hI : I.tot fs) : ∀ {t : Tree} {ss : List Bool} {σ : List E} {ss' : List Bool} {K : List PE} {env env' : List D}, Sorts ss env → Sorts ss' env' → dens I env' σ = some env → (∀ p ∈ K, p.den I env') →
    (t.tidy fs ss σ ss' K).vc I env' → t.vc I env := by
  intro t
  have addK : ∀ {K : List PE} {p : PE} {env : List D}, (∀ p ∈ K, p.den I env) → p.den I env → ∀ q ∈ p.flat ++ K, q.den I env := fun hK hp q hq => by
    rcases List.mem_append.1 hq with h | h
    · exact PE.flat_den.2 hp q h
    · exact hK q h
  induction t with
  | ok => intros; trivial
  | fail n => intro _ _ _ _ _ _ _ _ _ _ h; exact h
  | assert p t ih =>
    intro ss σ ss' K env env' hs hs' hσ hK h
    simp only [Tree.tidy] at h
    split at h
    · rename_i hsr
      split at h
      · rename_i hk
        exact ⟨PE.sub_back hI hs hσ hsr (known_den hI hs' hK hk), ih hs hs' hσ hK h⟩
      · exact ⟨PE.sub_back hI hs hσ hsr h.1, ih hs hs' hσ (addK hK h.1) h.2⟩
    · exact h.elim
  | assume p t ih =>
    intro ss σ ss' K env env' hs hs' hσ hK h hp
    simp only [Tree.tidy] at h
    have hq := PE.sub_den hσ hp
    split at h
    · exact ih hs hs' hσ hK h
    split at h
    · rename_i hk; exact ih hs hs' (defined_den hσ hp) (addK hK hq) (Tree.isOk_vc hk)
    · exact ih hs hs' (defined_den hσ hp) (addK hK hq) (h hq)
  | branch e a b iha ihb =>
    intro ss σ ss' K env env' hs hs' hσ hK h
    simp only [Tree.tidy] at h
    split at h
    rotate_left
    · exact h.elim
    split at h
    · rename_i hk
      obtain ⟨m, h1, h2⟩ := known_den hI hs' hK hk
      exact ⟨fun _ _ _ => iha hs hs' hσ hK h, fun h3 => by rw [E.sub_den hσ h3] at h1; cases h1; exact (h2 rfl).elim⟩
    split at h
    · rename_i hk
      have h1 : (e.sub σ).den I env' = some (.i 0) := known_den hI hs' hK hk
      exact ⟨fun n h2 h3 => by rw [E.sub_den hσ h2] at h1; cases h1; exact (h3 rfl).elim, fun _ => ihb hs hs' hσ hK h⟩
    have hT : ∀ n, e.den I env = some (.i n) → n ≠ 0 → ∀ q ∈ (e.sub σ).flat true ++ K, q.den I env' := fun n h1 h2 => addK (p := .tt (e.sub σ)) hK ⟨n, E.sub_den hσ h1, h2⟩
    have hF : e.den I env = some (.i 0) → ∀ q ∈ (e.sub σ).flat false ++ K, q.den I env' := fun h1 => addK (p := .ff (e.sub σ)) hK (E.sub_den hσ h1)
    split at h
    · rename_i hk
      simp only [Bool.and_eq_true] at hk
      exact ⟨fun n h1 h2 => iha hs hs' hσ (hT n h1 h2) (Tree.isOk_vc hk.1), fun h1 => ihb hs hs' hσ (hF h1) (Tree.isOk_vc hk.2)⟩
    · exact ⟨fun n h1 h2 => iha hs hs' hσ (hT n h1 h2) (h.1 n (E.sub_den hσ h1) h2), fun h1 => ihb hs hs' hσ (hF h1) (h.2 (E.sub_den hσ h1))⟩
  | both a b iha ihb =>
    intro ss σ ss' K env env' hs hs' hσ hK h
    simp only [Tree.tidy] at h
    split at h
    · rename_i hk; exact ⟨iha hs hs' hσ hK (Tree.isOk_vc hk), ihb hs hs' hσ hK h⟩
    split at h
    · rename_i hk; exact ⟨iha hs hs' hσ hK h, ihb hs hs' hσ hK (Tree.isOk_vc hk)⟩
    · exact ⟨iha hs hs' hσ hK h.1, ihb hs hs' hσ hK h.2⟩
  | havoc s t ih =>
    intro ss σ ss' K env env' hs hs' hσ hK h
    simp only [Tree.tidy] at h
    have go : ∀ d : D, d.is s → (∀ q ∈ K, q.den I (env' ++ [d])) ∧ dens I (env' ++ [d]) (σ ++ [.var ss'.length]) = some (env ++ [d]) := fun d _ =>
      ⟨fun q hq => PE.den_more (hK q hq), dens_app1 (by simp only [E.den, ← hs'.length, List.getElem?_concat_length]) (dens_more hσ)⟩
    cases s with
    | true =>
      intro f
      obtain ⟨hK', hσ'⟩ := go (.t f) trivial
      split at h
      · rename_i hk; exact ih (hs.app (b := true) trivial) (hs'.app (b := true) (d := .t f) trivial) hσ' hK' (Tree.isOk_vc hk)
      · exact ih (hs.app (b := true) trivial) (hs'.app (b := true) (d := .t f) trivial) hσ' hK' (h f)
    | false =>
      intro f
      obtain ⟨hK', hσ'⟩ := go (.i f) trivial
      split at h
      · rename_i hk; exact ih (hs.app (b := false) trivial) (hs'.app (b := false) (d := .i f) trivial) hσ' hK' (Tree.isOk_vc hk)
      · exact ih (hs.app (b := false) trivial) (hs'.app (b := false) (d := .i f) trivial) hσ' hK' (h f)
def tidied (fs : Nat → Option Bool) (cx : Cx) (fuel : Nat) (c : Contract) : Tree := (verify cx fuel c).tidy fs c.sorts (varsFrom 0 c.sorts.length) c.sorts []
theorem tidied_sound {fs : Nat → Option Bool} (hI : I.tot fs) {cx : Cx} (hC : ∀ c ∈ cx.cs, COk I cx.P cx.kn.globs c) {fuel : Nat} {c : Contract} (h : ∀ ds, Sorts c.sorts ds → (tidied fs cx fuel c).vc I ds) : COk I cx.P cx.kn.globs c :=
  verify_sound hC fun ds hd => by
    have h1 := dens_vars (I := I) (env := []) (outs := ds) ds.length (Nat.le_refl _)
    simp only [List.nil_append, List.length_nil, List.take_length] at h1
    rw [hd.length] at h1
    exact Tree.tidy_vc hI hd hd h1 (by simp) (h ds hd)
theorem tidied_ok {fs : Nat → Option Bool} (hI : I.tot fs) {cx : Cx} (hC : ∀ c ∈ cx.cs, COk I cx.P cx.kn.globs c) {fuel : Nat} {c : Contract} (h : (tidied fs cx fuel c).isOk = true) : COk I cx.P cx.kn.globs c :=
  tidied_sound hI hC fun _ _ => Tree.isOk_vc h
def noFs : Nat → Option Bool := fun _ => none
theorem tot_none (I : Itp) : I.tot noFs := fun _ _ h => by cases h
end Go.Sx
noncomputable section
namespace Go.Sx
open Go
variable {f : Nat → D → D → D → D → Option D} {p q : Nat → List D → Prop} {P : Program} {g : G} {A : Amb}
theorem E.den_pr (env : List D) : ∀ e : E, e.den ⟨f, p⟩ env = e.den ⟨f, q⟩ env := by
  intro e
  induction e with
  | lit n => rfl
  | zt => rfl
  | kt row => rfl
  | bt b => rfl
  | var i => rfl
  | bin o a b iha ihb => simp only [E.den, iha, ihb]
  | wrap k a ih => simp only [E.den, ih]
  | sel t r c iht ihr => simp only [E.den, iht, ihr]
  | upd t r c v iht ihr ihv => simp only [E.den, iht, ihr, ihv]
  | cat t n u iht ihn ihu => simp only [E.den, iht, ihn, ihu]
  | sh t n iht ihn => simp only [E.den, iht, ihn]
  | teq t n u m iht ihn ihu ihm => simp only [E.den, iht, ihn, ihu, ihm]
  | fn j a b c d iha ihb ihc ihd => simp only [E.den, iha, ihb, ihc, ihd]; rfl
mutual
theorem Rel.pr : ∀ {v : AV} {x : Value}, Rel ⟨f, p⟩ g v x → Rel ⟨f, q⟩ g v x := by
  intro v x h
  have he : ∀ (e : E) (d : D), e.den ⟨f, p⟩ g.env = some d → e.den ⟨f, q⟩ g.env = some d := fun e d h => by rw [← E.den_pr (p := p)]; exact h
  match v with
  | .any => simp [Rel]
  | .undef => simpa [Rel] using h
  | .bool e => obtain ⟨n, h1, h2⟩ := h; exact ⟨n, he _ _ h1, h2⟩
  | .int k e => obtain ⟨n, h1, h2⟩ := h; exact ⟨n, he _ _ h1, h2⟩
  | .nilptr => simpa [Rel] using h
  | .ptr b r s k => obtain ⟨n, p', h1, h2⟩ := h; exact ⟨n, p', he _ _ h1, h2⟩
  | .nilslice => simpa [Rel] using h
  | .slice b lo n s nl => obtain ⟨l, m, h1, h2, h3⟩ := h; exact ⟨l, m, he _ _ h1, he _ _ h2, h3⟩
  | .func fn l => obtain ⟨cs, h1, h2⟩ := h; exact ⟨cs, h1, Rels.pr h2⟩
  | .yld b => exact h
  | .nilfunc => simpa [Rel] using h
  | .agg l => obtain ⟨cs, h1, h2⟩ := h; exact ⟨cs, h1, Rels.pr h2⟩
  | .tup l => obtain ⟨cs, h1, h2⟩ := h; exact ⟨cs, h1, Rels.pr h2⟩
  | .big l ks t n m => obtain ⟨tf, xs, ys, zs, h1, h2, h3, h4, h5⟩ := h; exact ⟨tf, xs, ys, zs, he _ _ h1, h2, Rels.pr h3, Rels.pr h4, h5⟩
  | .cap0 => simpa [Rel] using h
  | .empty => simpa [Rel] using h
  | .asl b k n s => simpa [Rel] using h
  | .bfunc fn l m => obtain ⟨ms, cs, h1, h2, h3⟩ := h; exact ⟨ms, cs, h1, Rels.pr h2, Rels.pr h3⟩
  | .gptr b k => simpa [Rel] using h
  | .str l => simpa [Rel] using h
  | .strT t n => obtain ⟨tf, k, s, h1, h2, h3⟩ := h; exact ⟨tf, k, s, he _ _ h1, he _ _ h2, h3⟩
  | .capN => simpa [Rel] using h
  | .mref b => simpa [Rel] using h
  | .nilmap => simpa [Rel] using h
  | .nilif => simpa [Rel] using h
  | .sat e => obtain ⟨n, h1, h2⟩ := h; exact ⟨n, he _ _ h1, h2⟩
  | .ifo e => obtain ⟨n, h1, h2⟩ := h; exact ⟨n, he _ _ h1, h2⟩
theorem Rels.pr : ∀ {l : List AV} {xs : List Value}, Rels ⟨f, p⟩ g l xs → Rels ⟨f, q⟩ g l xs := by
  intro l xs h
  match l, xs with
  | [], [] => trivial
  | v :: l, x :: xs => exact ⟨Rel.pr h.1, Rels.pr h.2⟩
  | [], _ :: _ => simp [Rels] at h
  | _ :: _, [] => simp [Rels] at h
end
theorem BRel.pr {b : Nat} {H : Nat → Option Obj} : ∀ {x : Blk}, BRel ⟨f, p⟩ P g b H x → BRel ⟨f, q⟩ P g b H x
  | .cells l wr, ⟨pb, c, T, fr, h1, h2, h3, h4⟩ => ⟨pb, c, T, fr, h1, h2, fun i v hv => let ⟨x, a, b⟩ := h3 i v hv; ⟨x, a, Rel.pr b⟩, h4⟩
  | .rows ks t len wr nl, ⟨tf, n, h1, h2, h3⟩ => ⟨tf, n, by rw [← E.den_pr (p := p)]; exact h1, by rw [← E.den_pr (p := p)]; exact h2, h3⟩
  | .big l ks t n m wr, ⟨pb, c, T, fr, tf, h1, h2, h3, h4, h5, h6, h7⟩ =>
    ⟨pb, c, T, fr, tf, h1, h2, by rw [← E.den_pr (p := p)]; exact h3, fun i v hv => let ⟨x, a, b⟩ := h4 i v hv; ⟨x, a, Rel.pr b⟩, h5, fun i v hv => let ⟨x, a, b⟩ := h6 i v hv; ⟨x, a, Rel.pr b⟩, h7⟩
  | .loop st pend fn ix nt ts d, ⟨pb, qb, r, rf, h1, h2, h3, h4, h5, h6, h7, h8, h9, h10, h11, h12⟩ =>
    ⟨pb, qb, r, rf, h1, h2, h3, h4, h5, h6, h7, h8, h9, h10, h11, fun t v a b => let ⟨x, c, d⟩ := h12 t v a b; ⟨x, c, Rel.pr d⟩⟩
  | .dfr sh, h => h
  | .mp l m, ⟨pb, es, c, h1, h2, h3, h4⟩ => ⟨pb, es, c, h1, h2, Rels.pr h3, Rels.pr h4⟩
  | .smp _ _ _ _ _, ⟨pb, es, c, tf, h1, h2, h3, h4, h5⟩ => ⟨pb, es, c, tf, h1, h2, by rw [← E.den_pr (p := p)]; exact h3, by rw [← E.den_pr (p := p)]; exact h4, h5⟩
  | .iter _ _ _, ⟨pb, n, m, h1, h2, h3, h4, h5⟩ => ⟨pb, n, m, h1, h2, by rw [← E.den_pr (p := p)]; exact h3, by rw [← E.den_pr (p := p)]; exact h4, h5⟩
  | .bld _ _ _, ⟨pb, n, x, y, h1, h2, h3, h4, h5⟩ => ⟨pb, n, x, y, h1, h2, h3, by rw [← E.den_pr (p := p)]; exact h4, h5⟩
  | .byt _ _, ⟨n, h1, h2⟩ => ⟨n, by rw [← E.den_pr (p := p)]; exact h1, h2⟩
theorem MRel.pr {M : Mem} {w : World} (h : MRel A ⟨f, p⟩ P g M w) : MRel A ⟨f, q⟩ P g M w where
  wf := h.wf
  blk := fun b x hb => BRel.pr (h.blk b x hb)
  lt := h.lt
  inj := h.inj
  bnd := h.bnd
  own := h.own
  size := h.size
  keep := h.keep
  same := h.same
theorem dens_pr (env : List D) : ∀ l : List E, dens ⟨f, p⟩ env l = dens ⟨f, q⟩ env l
  | [] => rfl
  | e :: l => by simp only [dens, E.den_pr (p := p) (q := q) env e, dens_pr env l]
theorem PE.den_pr {env : List D} : ∀ {e : PE}, (∀ j l, e = .pr j l → ∀ ds, p j ds → q j ds) → e.den ⟨f, p⟩ env → e.den ⟨f, q⟩ env
  | .tt e, _, ⟨n, h1, h2⟩ => ⟨n, by rw [← E.den_pr (p := p)]; exact h1, h2⟩
  | .ff e, _, h => by have h : e.den ⟨f, p⟩ env = some (.i 0) := h; show e.den ⟨f, q⟩ env = some (.i 0); rw [← E.den_pr (p := p)]; exact h
  | .rng k e, _, ⟨n, h1, h2⟩ => ⟨n, by rw [← E.den_pr (p := p)]; exact h1, h2⟩
  | .same a b, _, ⟨d, h1, h2⟩ => ⟨d, by rw [← E.den_pr (p := p)]; exact h1, by rw [← E.den_pr (p := p)]; exact h2⟩
  | .pr j l, hj, ⟨ds, h1, h2⟩ => ⟨ds, by rw [← dens_pr (p := p)]; exact h1, hj j l rfl ds h2⟩
  | .sort true e, _, ⟨n, h1⟩ => ⟨n, by rw [← E.den_pr (p := p)]; exact h1⟩
  | .sort false e, _, ⟨n, h1⟩ => ⟨n, by rw [← E.den_pr (p := p)]; exact h1⟩
  | .col _ _ _ _, _, ⟨f, h1, h2⟩ => ⟨f, by rw [← E.den_pr (p := p)]; exact h1, h2⟩
  | .agr _ _ _ _, _, ⟨f, g, k, h1, h2, h3, h4⟩ => ⟨f, g, k, by rw [← E.den_pr (p := p)]; exact h1, by rw [← E.den_pr (p := p)]; exact h2, by rw [← E.den_pr (p := p)]; exact h3, h4⟩
  | .byt _ _, _, ⟨f, k, h1, h2, h3⟩ => ⟨f, k, by rw [← E.den_pr (p := p)]; exact h1, by rw [← E.den_pr (p := p)]; exact h2, h3⟩
theorem COk.pr {gl : List Glob} {c : Contract} {pre post : List PE} (h : COk ⟨f, p⟩ P gl c) (hpre : ∀ env, Sorts c.sorts env → (∀ e ∈ pre, e.den ⟨f, q⟩ env) → ∀ e ∈ c.pre, e.den ⟨f, p⟩ env)
    (hpost : ∀ env, (∀ e ∈ c.post, e.den ⟨f, p⟩ env) → ∀ e ∈ post, e.den ⟨f, q⟩ env) : COk ⟨f, q⟩ P gl { c with pre := pre, post := post } := by
  intro g w xs hso hnb hG hm ha hp
  refine (h g w xs hso hnb hG hm.pr (Rels.pr ha) (hpre _ hso hp)).mono fun e w' he => ?_
  obtain ⟨v, outs, g', h1, h2, h3, h4, h5, h6, h7, h8⟩ := he
  exact ⟨v, outs, g', h1, h2, h3, h4, h5, h6.pr, h7.pr, hpost _ h8⟩
theorem COk.weak {I : Itp} {gl : List Glob} {c : Contract} {post : List PE} (h : COk I P gl c)
    (hpost : ∀ env outs, Sorts c.sorts env → Sorts c.outs outs → (∀ e ∈ c.pre, e.den I env) → (∀ e ∈ c.post, e.den I (env ++ outs)) → ∀ e ∈ post, e.den I (env ++ outs)) : COk I P gl { c with post := post } := by
  intro g w xs hso hnb hG hm ha hp
  refine (h g w xs hso hnb hG hm ha hp).mono fun e w' he => ?_
  obtain ⟨v, outs, g', h1, h2, h3, h4, h5, h6, h7, h8⟩ := he
  exact ⟨v, outs, g', h1, h2, h3, h4, h5, h6, h7, by rw [h3] at h8 ⊢; exact hpost g.env outs hso h2 hp h8⟩
end Go.Sx
noncomputable section
namespace Go.Sx
open Go Go.ChangeShapes Go.WideShapes Go.ChangeAt Go.RowKit
structure Kept (W W' : World) : Prop where
  os : W'.os = W.os
  output : W'.output = W.output
  size : W.heap.size ≤ W'.heap.size
  old : ∀ i, i < W.heap.size → W'.heap[i]? = W.heap[i]?
theorem Kept.refl (W : World) : Kept W W := ⟨rfl, rfl, Nat.le_refl _, fun _ _ => rfl⟩
theorem Kept.keptBut {W W' : World} (h : Kept W W') (may : MemPlace → Prop) : W.keptBut W' may := by
  refine ⟨h.os, h.output, fun i hi => ?_⟩
  rw [h.old i hi]
  split
  · rename_i a b; cases b.symm.trans a; exact ⟨rfl, rfl, rfl, fun _ _ => rfl⟩
  · rename_i a b; cases b.symm.trans a; exact .inr ⟨rfl, rfl⟩
  · rfl
theorem Kept.sameAt {W W' : World} (h : Kept W W') {p : MemPlace} (hp : p.block < W.heap.size) : W.sameAt W' p := by
  cases p with
  | cell b off => simp only [World.sameAt, World.cell?]; rw [h.old b hp]
  | map b => exact h.old b hp
variable {H : Type} {enc : TypeId × Value → H} {P : Program}
theorem Kept.trodAll {W W' : World} (h : Kept W W') (hl : laidOutB P = true) : ∀ {ts : List TypeId} {vs : List Value} {ds : List (DataW H)} {ps : List MemPlace}, (∀ t ∈ ts, P.readableRec t = true ∧ t < P.types.size) →
    DataW.TrodAll enc P W 0 (fun _ => true) true ts vs ds ps → (∀ p ∈ ps, p.block < W.heap.size) → ∀ sp : Nat → Bool, (∀ p ∈ ps, sp p.block = true) → DataW.TrodAll enc P W' 0 sp true ts vs ds ps
  | [], _, _, _, _, ht, _, _, _ => by
    obtain ⟨rfl, rfl, rfl⟩ := trodAll_nil ht
    exact trodAll_mk0
  | t :: ts, _, _, _, hr, ht, hlt, sp, hs => by
    obtain ⟨v, vs', d, ds', p, q, rfl, rfl, rfl, h0, r0⟩ := trodAll_cons ht
    have hr0 := hr t (by simp)
    exact trodAll_cons_mk (WideElems.Trod_stays hl hr0.1 hr0.2 h0 (fun x hx => h.sameAt (hlt x (by simp [hx]))) (fun x hx => hs x (by simp [hx])))
      (Kept.trodAll h hl (fun t ht => hr t (by simp [ht])) r0 (fun p hp => hlt p (by simp [hp])) sp (fun p hp => hs p (by simp [hp])))
theorem law_post {f : Func} {s : ChangeSpec} {tb : TypeId} {apart fresh : Bool} {W W' : World} {args : Array Value} {ds gs : List (DataW H)} {before : List MemPlace}
    (hl : laidOutB P = true) (hrt : f.resultTypes = #[tb]) (hb : P.underlying tb = some .bool) (hv : s.vars = []) (hrd : ∀ t ∈ f.params.toList, P.readableRec t = true ∧ t < P.types.size)
    (hres : (s.fn H (ds ++ gs)).results = [.lit (.bool true)]) (hargs : (s.fn H (ds ++ gs)).args = ds) (hvs : (s.fn H (ds ++ gs)).vars = [])
    (hW : DataW.Whole enc P f.params.toList s.vars apart W args.toList ds gs before) (hk : Kept W W') : s.post enc P f apart fresh false false W args (.bool true) W' := by
  have hlt := hW.lt
  have hW0 := hW
  obtain ⟨p, q, hA, hV, rfl, hz, hn⟩ := hW
  rw [hv] at hV
  obtain ⟨rfl, rfl⟩ := trodVars_none hV
  simp only [List.append_nil] at hW0 hlt hres hargs hvs hz hn
  have hA' : ∀ sp : Nat → Bool, (∀ x ∈ p, sp x.block = true) → DataW.TrodAll enc P W' 0 sp true f.params.toList args.toList ds p := hk.trodAll hl hrd hA hlt
  have hR : ∀ (b : Nat) (sp : Nat → Bool) (hd : Bool), DataW.TrodAll enc P W' b sp hd f.resultTypes.toList ((Value.bool true).resultList f.resultTypes.size) [.lit (.bool true)] [] := fun b sp hd => by
    rw [hrt]; exact trodAll_mk1 (shut_bool hb true)
  refine ⟨ds, [], p, [], p, [], hW0, ?_, ?_, ?_, World.keptBut_mono (fun x hx => ⟨hx, .inr (.inl hx)⟩) (hk.keptBut _), fun h => by cases h⟩
  · simp only [List.append_nil, hres]; exact hR _ _ _
  · simp only [List.append_nil, hargs]
    exact hA' _ fun x hx => by simpa using hlt x hx
  · simp only [List.append_nil, hvs, hv]; rfl
end Go.Sx
end
namespace Go.Sx
open Go
theorem one_ne {P : Prop} [Decidable P] : ((if P then (1 : Int) else 0) ≠ 0) = P := by by_cases h : P <;> simp [h]
theorem one_eq {P : Prop} [Decidable P] : ((if P then (1 : Int) else 0) = 0) = ¬ P := by by_cases h : P <;> simp [h]
theorem zero_ne {P : Prop} [Decidable P] : ((if P then (0 : Int) else 1) ≠ 0) = ¬ P := by by_cases h : P <;> simp [h]
theorem zero_eq {P : Prop} [Decidable P] : ((if P then (0 : Int) else 1) = 0) = P := by by_cases h : P <;> simp [h]
theorem min_i64 : IntKind.i64.min = -9223372036854775808 := rfl
theorem max_i64 : IntKind.i64.max = 9223372036854775807 := rfl
theorem min_u8 : IntKind.u8.min = 0 := rfl
theorem max_u8 : IntKind.u8.max = 255 := rfl
theorem min_u16 : IntKind.u16.min = 0 := rfl
theorem max_u16 : IntKind.u16.max = 65535 := rfl
theorem min_u32 : IntKind.u32.min = 0 := rfl
theorem max_u32 : IntKind.u32.max = 4294967295 := rfl
theorem min_u64 : IntKind.u64.min = 0 := rfl
theorem max_u64 : IntKind.u64.max = 18446744073709551615 := rfl
theorem all_t {l : List Bool} {Q : List D → Prop} (h : ∀ T ds, Sorts l ds → Q (.t T :: ds)) : ∀ ds, Sorts (true :: l) ds → Q ds := by
  intro ds hs
  match ds, hs with
  | .t T :: ds, hs => exact h T ds hs
  | [], hs => exact hs.elim
  | .i _ :: _, hs => exact hs.elim
theorem all_i {l : List Bool} {Q : List D → Prop} (h : ∀ n ds, Sorts l ds → Q (.i n :: ds)) : ∀ ds, Sorts (false :: l) ds → Q ds := by
  intro ds hs
  match ds, hs with
  | .i n :: ds, hs => exact h n ds hs
  | [], hs => exact hs.elim
  | .t _ :: _, hs => exact hs.elim
theorem all_n {Q : List D → Prop} (h : Q []) : ∀ ds, Sorts [] ds → Q ds := by
  intro ds hs
  match ds, hs with
  | [], _ => exact h
  | _ :: _, hs => exact hs.elim
theorem cs_nil {I : Itp} {P : Program} {gl : List Glob} : ∀ c ∈ ([] : List Contract), COk I P gl c := fun _ h => by cases h
theorem cs_cons {I : Itp} {P : Program} {gl : List Glob} {c : Contract} {l : List Contract} (h : COk I P gl c) (hl : ∀ c ∈ l, COk I P gl c) : ∀ d ∈ c :: l, COk I P gl d := fun d hd => by
  rcases List.mem_cons.1 hd with rfl | hd
  · exact h
  · exact hl d hd
theorem ok_of {fs : Nat → Option Bool} {I : Itp} (hI : I.tot fs) {cx : Cx} {fuel : Nat} {c : Contract} {t : Tree} (hC : ∀ c ∈ cx.cs, COk I cx.P cx.kn.globs c) (ht : tidied fs cx fuel c = t) (h : ∀ ds, Sorts c.sorts ds → t.vc I ds) : COk I cx.P cx.kn.globs c :=
  tidied_sound hI hC fun ds hs => by rw [ht]; exact h ds hs
theorem quo64 {x : Int} (h0 : 0 ≤ x) (h1 : x < 1024) : bitsEv 6 .i64 x 64 = x / 64 := by
  have h2 : x.tdiv 64 = x / 64 := Int.tdiv_eq_ediv_of_nonneg h0
  simp only [bitsEv, h2, IntKind.wrap, IntKind.signed, IntKind.bits]
  have : x / 64 % 18446744073709551616 = x / 64 := Int.emod_eq_of_lt (by omega) (by omega)
  simp only [Int.reducePow, Bool.true_and, this]
  rw [if_neg]
  simp; omega
theorem bits_zero (x : Int) : bitsEv 0 .u64 (bitsEv 5 .u64 0 x) 1 = 0 := by
  have : bitsEv 5 .u64 0 x = 0 := by simp [bitsEv]
  rw [this]; rfl
end Go.Sx
noncomputable section
namespace Go.Sx
open Go Go.RowKit
variable {A : Amb} {I : Itp} {P : Program} {g : G} {M : Mem} {w w' : World} {gl : List Glob}
structure Stays (w w' : World) : Prop where
  os : w'.os = w.os
  output : w'.output = w.output
  size : w.heap.size ≤ w'.heap.size
  block : ∀ k, k < w.heap.size → w'.heap[k]? = w.heap[k]?
theorem Stays.refl (w : World) : Stays w w := ⟨rfl, rfl, Nat.le_refl _, fun _ _ => rfl⟩
def G.vars (g : G) (ds : List D) : G := { g with env := g.env ++ ds }
theorem MRel.stays (h : MRel A I P g M w) (hs : Stays w w') (ds : List D) : MRel A I P (g.vars ds) [] w' where
  wf := h.wf
  blk b x hb := by simp [get_nil] at hb
  lt b x hb := by simp [get_nil] at hb
  inj b c x y p q hb := by simp [get_nil] at hb
  bnd b p hb := Nat.lt_of_lt_of_le (h.bnd b p hb) hs.size
  own b x p hb := by simp [get_nil] at hb
  size := Nat.le_trans h.size hs.size
  keep i hi hX := by rw [hs.block i (Nat.lt_of_lt_of_le hi h.size)]; exact h.keep i hi hX
  same := ⟨by rw [hs.os]; exact h.same.1, by rw [hs.output]; exact h.same.2⟩
theorem COk.lib {c : Contract} (hmods : c.mods = []) (hfr : c.fresh = [])
    (H : ∀ (g : G) (w : World) (xs : List Value), Sorts c.sorts g.env → GOk gl (c.amb g w) → MRel (c.amb g w) I P g c.mem w → Rels I g c.args xs → (∀ p ∈ c.pre, p.den I g.env) →
      Calls P c.fn xs.toArray w fun e w' => ∃ v outs, e = .returned v ∧ Sorts c.outs outs ∧ Rel I (g.vars outs) c.res v ∧ Stays w w' ∧ (∀ p ∈ c.post, p.den I (g.env ++ outs))) : COk I P gl c := by
  intro g w xs hso hnb hG hm ha hp
  refine (H g w xs hso hG hm ha hp).mono fun e w' he => ?_
  obtain ⟨v, outs, rfl, h1, h2, h3, h4⟩ := he
  refine ⟨v, outs, g.vars outs, rfl, h1, rfl, ?_, fun _ _ => rfl, h2, ?_, h4⟩
  · rw [hfr]; exact hnb
  · rw [hmods, hfr]; exact hm.stays h3 outs
end Go.Sx
end
noncomputable section
namespace Go.Sx
open Go
inductive RowsV (W : World) (ks : List CK) : Value → Int → (Int → Nat → Int) → Prop
  | none (T : Int → Nat → Int) : RowsV W ks (.slice none 0 0) 0 T
  | some (b off len cap : Nat) (c : Array Value) (T : TypeId) (fr : Nat × Nat) (f : Int → Nat → Int) (hl : len ≤ cap) (hb : W.heap[b]? = some (.cells c T fr))
      (hc : ∀ r j : Nat, ∀ k : CK, r < len → ks[j]? = some k → c[off + r * ks.length + j]? = some (k.val (f r j))) : RowsV W ks (.slice (some ⟨b, off, none⟩) len cap) len f
structure RowIn where
  ks : List CK
  v : Value
  n : Int
  T : Int → Nat → Int
  iT : Nat
  iN : Nat
def RowIn.pb (x : RowIn) : Option PB := match x.v with
  | .slice (some a) _ cap => some { blk := a.block, base := a.off, tot := cap * x.ks.length }
  | _ => none
def givesM : Nat → List RowIn → Mem
  | _, [] => []
  | i, x :: l => (i, .rows x.ks (.var x.iT) (.var x.iN) false true) :: givesM (i + 1) l
theorem givesM_get : ∀ {l : List RowIn} {i b : Nat} {y : Blk}, get (givesM i l) b = some y → ∃ x, i ≤ b ∧ l[b - i]? = some x ∧ y = .rows x.ks (.var x.iT) (.var x.iN) false true
  | [], i, b, y, h => by simp [givesM, get_nil] at h
  | x :: l, i, b, y, h => by
    simp only [givesM, get_cons] at h
    split at h
    · rename_i e; subst e; cases h; exact ⟨x, Nat.le_refl _, by simp, rfl⟩
    · rename_i e
      obtain ⟨z, h1, h2, h3⟩ := givesM_get h
      refine ⟨z, by omega, ?_, h3⟩
      rw [show b - i = (b - (i + 1)) + 1 by omega]
      simpa using h2
theorem gives_rel {W : World} {I : Itp} {P : Program} (l : List RowIn) (env : List D) (hl : ∀ x ∈ l, RowsV W x.ks x.v x.n x.T ∧ env[x.iT]? = some (.t x.T) ∧ env[x.iN]? = some (.i x.n)) :
    ∃ g : G, g.env = env ∧ g.nb = l.length ∧ (∀ c : Contract, c.mem = givesM 0 l → MRel (c.amb g W) I P g c.mem W ∧ ∀ i, ¬ (c.amb g W).X i) ∧
      ∀ i x, l[i]? = some x → Rel I g (.slice i (.lit 0) (.var x.iN) x.ks.length true) x.v := by
  let g : G := { env := env, φ := fun i => (l[i]?).bind RowIn.pb, nb := l.length }
  refine ⟨g, rfl, rfl, fun c hc => ?_, fun i x hx => ?_⟩
  · have hX : ∀ i, ¬ (c.amb g W).X i := by
      rintro i ⟨b, y, p, h1, h2, _⟩
      rw [hc] at h1
      obtain ⟨x, _, _, rfl⟩ := givesM_get h1
      cases h2
    refine ⟨?_, hX⟩
    rw [hc]
    refine ⟨fun b hb => ?_, fun b y hy => ?_, fun b y hy => ?_, fun b c x y p q hx _ hw => ?_, fun b p hp => ?_, fun b x p hx hw => ?_, Nat.le_refl _, fun _ _ _ => rfl, rfl, rfl⟩
    · show (l[b]?).bind RowIn.pb = none
      rw [List.getElem?_eq_none hb]; rfl
    · obtain ⟨x, _, h2, rfl⟩ := givesM_get hy
      simp only [Nat.sub_zero] at h2
      obtain ⟨hv, hT, hN⟩ := hl x (List.mem_of_getElem? h2)
      obtain ⟨ks, v, n, T, iT, iN⟩ := x
      have hφ : g.φ b = RowIn.pb ⟨ks, v, n, T, iT, iN⟩ := by show (l[b]?).bind RowIn.pb = _; rw [h2]; rfl
      cases hv with
      | none T => exact ⟨_, 0, hT, hN, Int.le_refl _, .inr ⟨rfl, rfl, hφ⟩⟩
      | some b' off len cap c T' fr f hl hb hc =>
        refine ⟨_, (len : Int), hT, hN, Int.natCast_nonneg _, .inl ⟨_, c, T', fr, hφ, hb, fun r j k hr hj => ?_, fun h => by cases h⟩⟩
        exact hc r j k (by simpa using hr) hj
    · obtain ⟨x, _, h2, _⟩ := givesM_get hy
      simp only [Nat.sub_zero] at h2
      exact (List.getElem?_eq_some_iff.1 h2).1
    · obtain ⟨z, _, _, rfl⟩ := givesM_get hx
      cases hw
    · have hp : (l[b]?).bind RowIn.pb = some p := hp
      rcases h2 : l[b]? with _ | x
      · rw [h2] at hp; cases hp
      · rw [h2, Option.bind_some] at hp
        obtain ⟨hv, _, _⟩ := hl x (List.mem_of_getElem? h2)
        obtain ⟨ks, v, n, T, iT, iN⟩ := x
        cases hv with
        | none T => cases hp
        | some b' off len cap c T' fr f hl hb hc =>
          cases hp
          exact (Array.getElem?_eq_some_iff.1 hb).1
    · obtain ⟨z, _, _, rfl⟩ := givesM_get hx
      cases hw
  · obtain ⟨hv, _, hN⟩ := hl x (List.mem_of_getElem? hx)
    have hφ : g.φ i = x.pb := by show (l[i]?).bind RowIn.pb = _; rw [hx]; rfl
    obtain ⟨ks, v, n, T, iT, iN⟩ := x
    cases hv with
    | none T => exact ⟨0, 0, rfl, hN, Int.le_refl _, Int.le_refl _, .inr ⟨rfl, rfl, _, rfl⟩⟩
    | some b' off len cap c T' fr f hl hb hc => exact ⟨0, len, rfl, hN, Int.le_refl _, by omega, .inl ⟨_, cap, hφ, by simp, by simpa using hl, by simp⟩⟩
end Go.Sx
end
namespace Go.Proofs
open Go.Shelf Go.RowKit
variable {P : Program} {ρ : Ren}
structure KeptB (b : Nat) (o : Option Nat) (w w' : World) : Prop where
  os : w'.os = w.os
  output : w'.output = w.output
  size : w.heap.size ≤ w'.heap.size
  block : ∀ k, k < w.heap.size → k ≠ b → some k ≠ o → w'.heap[k]? = w.heap[k]?
section
variable {w : World}
theorem run_append_string_where (t u ty e : TypeId) (i : TypeInfo) (ht : P.underlying t = some (.slice e)) (hu : P.underlying u = some .string) (hi : P.info? e = some i) (hz : i.zero = some (.int .u8 0))
    (hsize : i.size = 1) (hby : i.bytes = 1) (v : Value) (n : Nat) (xs : List Value) (hown : w.ownsRow 0 e 1 v n xs) (s : ByteArray)
    (h63 : n + s.size ≤ maxLen) (hbytes : n + s.size ≤ 140737488355328) :
    ∃ v' w', (Builtin.append_ #[t, u] ty #[v, .string s]).run P w = .ok v' w' ∧ w'.ownsRow 0 e 1 v' (n + s.size) (xs ++ Lib.strCells s) ∧ w.grownBy w' v.ownBlock ∧
      ∀ g, v'.ownBlock = some g → v.ownBlock = some g ∨ w.heap.size ≤ g := by
  obtain ⟨v', w', h1, h2, h3, _⟩ := Lib.run_append_own_string (P := P) w 0 t u ty e i ht hu hi hz hsize hby v n xs hown s h63 hbytes (Nat.zero_le _)
  refine ⟨v', w', h1, h2, h3, ?_⟩
  rcases hown.2 with ⟨rfl, rfl⟩ | ⟨g, cap, cur, rfl, _, hg, hnc, hcm, hcs, htake⟩
  · obtain ⟨v2, w2, k1, k2, _, _⟩ := Lib.run_append_own_string (P := P) w w.heap.size t u ty e i ht hu hi hz hsize hby (.slice none 0 0) 0 xs ⟨hown.1, .inl ⟨rfl, rfl⟩⟩ s h63 hbytes (Nat.le_refl _)
    rw [h1] at k1
    obtain ⟨rfl, rfl⟩ : v' = v2 ∧ w' = w2 := by simpa using k1
    exact fun g hg => .inr (k2.lt g hg).1
  · have hxl : xs.length = n := by simpa using hown.1
    have hcs' : cur.size = cap := by simpa using hcs
    by_cases hroom : n + s.size ≤ cap
    · have hr := Lib.run_append_room_stringF (P := P) (w := w) t u ty e i ht hu hi hsize g n cap cur (0, 0) hg (Nat.zero_le _) s hroom (by omega)
      rw [h1] at hr
      obtain ⟨rfl, _⟩ : v' = _ ∧ w' = _ := by simpa using hr
      exact fun k hk => .inl hk
    · have holds : ∀ j u, xs[j]? = some u → w.cell? ((⟨g, 0, none⟩ : Addr).add j) = some u := hown.cells (g := g) rfl
      have hr := Lib.run_append_grow_string (P := P) (w := w) t u ty e i (.int .u8 0) ht hu hi hz ⟨g, 0, none⟩ n cap xs (by rw [hsize]; simpa using hxl) holds s (by omega) (by unfold maxLen at h63; omega) (by rw [hby]; exact growslice_fits (by omega) (by omega))
      rw [h1] at hr
      obtain ⟨rfl, _⟩ : v' = _ ∧ w' = _ := by simpa using hr
      exact fun k hk => .inr (by simp [Value.ownBlock] at hk; omega)
theorem run_append_bytes_where (t ty e : TypeId) (i : TypeInfo) (ht : P.underlying t = some (.slice e)) (hi : P.info? e = some i) (hz : i.zero = some (.int .u8 0))
    (hsize : i.size = 1) (hby : i.bytes = 1) (v : Value) (n : Nat) (xs : List Value) (hown : w.ownsRow 0 e 1 v n xs) (a : Addr) (m c : Nat) (news : List Value) (hl : news.length = m)
    (hnews : ∀ j u, news[j]? = some u → w.cell? (a.add j) = some u) (hone : ∀ u ∈ news, u.oneCell' = true)
    (h63 : n + m ≤ maxLen) (hbytes : n + m ≤ 140737488355328) :
    ∃ v' w', (Builtin.append_ #[t, t] ty #[v, .slice (some a) m c]).run P w = .ok v' w' ∧ w'.ownsRow 0 e 1 v' (n + m) (xs ++ news) ∧ w.grownBy w' v.ownBlock ∧
      ∀ g, v'.ownBlock = some g → v.ownBlock = some g ∨ w.heap.size ≤ g := by
  have hl' : news.length = m * 1 := by omega
  obtain ⟨v', w', h1, h2, h3, _⟩ := run_append_own (P := P) w 0 t ty e i (.int .u8 0) 1 1 ht hi hz hsize hby rfl (by decide) v n xs hown a m c news hl' hnews hone h63 (by omega) (Nat.zero_le _)
  refine ⟨v', w', h1, h2, h3, ?_⟩
  rcases hown.2 with ⟨rfl, rfl⟩ | ⟨g, cap, cur, rfl, _, hg, hnc, hcm, hcs, htake⟩
  · obtain ⟨v2, w2, k1, k2, _, _⟩ := run_append_own (P := P) w w.heap.size t ty e i (.int .u8 0) 1 1 ht hi hz hsize hby rfl (by decide) (.slice none 0 0) 0 xs ⟨hown.1, .inl ⟨rfl, rfl⟩⟩ a m c news hl' hnews hone h63 (by omega) (Nat.le_refl _)
    rw [h1] at k1
    obtain ⟨rfl, rfl⟩ : v' = v2 ∧ w' = w2 := by simpa using k1
    exact fun g hg => .inr (k2.lt g hg).1
  · have hxl : xs.length = n * 1 := hown.1
    have hcs' : cur.size = cap := by simpa using hcs
    by_cases hroom : n + m ≤ cap
    · have hr := run_append_roomF (P := P) (w := w) t ty e i ht hi g n cap cur (0, 0) hg (Nat.zero_le _) a m c news (by rw [hsize]; exact hl') hnews hone hroom (by rw [hsize]; omega)
      rw [h1] at hr
      obtain ⟨rfl, _⟩ : v' = _ ∧ w' = _ := by simpa using hr
      exact fun k hk => .inl hk
    · have holds : ∀ j u, xs[j]? = some u → w.cell? ((⟨g, 0, none⟩ : Addr).add j) = some u := hown.cells (g := g) rfl
      have hr := run_append_grow (P := P) (w := w) t ty e i (.int .u8 0) ht hi hz ⟨g, 0, none⟩ n cap xs (by rw [hsize]; exact hxl) holds a m c news (by rw [hsize]; exact hl') hnews (by omega) (by unfold maxLen at h63; omega) (by rw [hby]; exact growslice_fits (by omega) (by omega))
      rw [h1] at hr
      obtain ⟨rfl, _⟩ : v' = _ ∧ w' = _ := by simpa using hr
      exact fun k hk => .inr (by simp [Value.ownBlock] at hk; omega)
end
section
variable {w : World}
theorem wpList_append_string_where {ops : Array Oper} {rest : List Oper} {o : Oper} {a : Act} {Q : Exit → Act → World → Prop} (hgd : o.guard = none) (sl x : Operand) (t u : TypeId)
    (ho : o.op = .call { callee := .builtin .append, args := #[sl, x], argTypes := #[t, u] })
    (e : TypeId) (i : TypeInfo) (ht : P.underlying t = some (.slice e)) (hu : P.underlying u = some .string) (hi : P.info? e = some i) (hz : i.zero = some (.int .u8 0))
    (hsize : i.size = 1) (hby : i.bytes = 1) (v : Value) (n : Nat) (xs : List Value) (hs : a.eval sl = v) (hown : w.ownsRow 0 e 1 v n xs) (s : ByteArray) (hx : a.eval x = .string s)
    (h63 : n + s.size ≤ maxLen) (hbytes : n + s.size ≤ 140737488355328)
    (h : ∀ v' w', w'.ownsRow 0 e 1 v' (n + s.size) (xs ++ Lib.strCells s) → w.grownBy w' v.ownBlock → (∀ g, v'.ownBlock = some g → v.ownBlock = some g ∨ w.heap.size ≤ g) → wpList P ops Q rest (a.put o.dst v') w') :
    wpList P ops Q (o :: rest) a w := by
  refine wpList_plain hgd fun K hK => ?_
  obtain ⟨v', w', hr, h2, h3, h4⟩ := run_append_string_where (P := P) (w := w) t u o.type e i ht hu hi hz hsize hby v n xs hown s h63 hbytes
  unfold Oper.wp execOp
  simp only [ho, resolve, invoke, builtin, Sem.run_bind, Sem.run_pure, Result.andThen_ok, List.map_toArray, List.map_cons, List.map_nil, hs, hx, hr]
  exact hK _ _ (h v' w' h2 h3 h4)
theorem wpList_append_bytes_where {ops : Array Oper} {rest : List Oper} {o : Oper} {a : Act} {Q : Exit → Act → World → Prop} (hgd : o.guard = none) (sl x : Operand) (t : TypeId)
    (ho : o.op = .call { callee := .builtin .append, args := #[sl, x], argTypes := #[t, t] })
    (e : TypeId) (i : TypeInfo) (ht : P.underlying t = some (.slice e)) (hi : P.info? e = some i) (hz : i.zero = some (.int .u8 0))
    (hsize : i.size = 1) (hby : i.bytes = 1) (v : Value) (n : Nat) (xs : List Value) (hs : a.eval sl = v) (hown : w.ownsRow 0 e 1 v n xs) (ad : Addr) (m c : Nat) (news : List Value)
    (hx : a.eval x = .slice (some ad) m c) (hl : news.length = m) (hnews : ∀ j u, news[j]? = some u → w.cell? (ad.add j) = some u) (hone : ∀ u ∈ news, u.oneCell' = true)
    (h63 : n + m ≤ maxLen) (hbytes : n + m ≤ 140737488355328)
    (h : ∀ v' w', w'.ownsRow 0 e 1 v' (n + m) (xs ++ news) → w.grownBy w' v.ownBlock → (∀ g, v'.ownBlock = some g → v.ownBlock = some g ∨ w.heap.size ≤ g) → wpList P ops Q rest (a.put o.dst v') w') :
    wpList P ops Q (o :: rest) a w := by
  refine wpList_plain hgd fun K hK => ?_
  obtain ⟨v', w', hr, h2, h3, h4⟩ := run_append_bytes_where (P := P) (w := w) t o.type e i ht hi hz hsize hby v n xs hown ad m c news hl hnews hone h63 hbytes
  unfold Oper.wp execOp
  simp only [ho, resolve, invoke, builtin, Sem.run_bind, Sem.run_pure, Result.andThen_ok, List.map_toArray, List.map_cons, List.map_nil, hs, hx, hr]
  exact hK _ _ (h v' w' h2 h3 h4)
end
theorem copyCheck_kept (L : Lays.n240 P ρ) (X : Builder.X72 P ρ) (b : Nat) (x v : Value) (w : World) (hbk : w.heap[b]? = some (.cells #[x, v] (ρ.t 72) (0, 0))) (hx : x = .pointer none ∨ x = .pointer (some ⟨b, 0, none⟩)) :
    Calls P (ρ.f 240) #[.pointer (some ⟨b, 0, none⟩)] w fun e w' => e = .returned (.tuple #[]) ∧ w'.heap[b]? = some (.cells #[.pointer (some ⟨b, 0, none⟩), v] (ρ.t 72) (0, 0)) ∧ w.grownBy w' (some b) := by
  have hlt : b < w.heap.size := (Array.getElem?_eq_some_iff.1 hbk).1
  rcases hx with rfl | rfl
  · refine (Any.Builder_copyCheck_fresh L X b w (by rw [Lib.cell_of_heap hbk]; rfl) (by simp [World.shape?, hbk]) (Lib.frozen_of_heap hbk 0)).mono fun e w' h => ?_
    obtain ⟨rfl, rfl⟩ := h
    refine ⟨rfl, ?_, ?_⟩
    · have := hbk; simp [World.setCell, Array.getElem?_modify, hbk]
    · refine ⟨rfl, rfl, rfl, by simp [World.setCell], fun k hk hkb => ?_⟩
      have : k ≠ b := fun e => hkb (by rw [e])
      simp [World.setCell, Array.getElem?_modify, Ne.symm this]
  · refine (Any.Builder_copyCheck_used L X b w (by rw [Lib.cell_of_heap hbk]; rfl)).mono fun e w' h => ?_
    obtain ⟨rfl, rfl⟩ := h
    exact ⟨rfl, hbk, ⟨rfl, rfl, rfl, Nat.le_refl _, fun _ _ _ => rfl⟩⟩
def Wrote (T e : TypeId) (b : Nat) (v : Value) (ys : List Value) (w w' : World) : Prop :=
  ∃ v', w'.heap[b]? = some (.cells #[.pointer (some ⟨b, 0, none⟩), v'] T (0, 0)) ∧ w'.ownsRow 0 e 1 v' ys.length ys ∧ KeptB b v.ownBlock w w' ∧
    (∀ g, v'.ownBlock = some g → v.ownBlock = some g ∨ w.heap.size ≤ g)
theorem wrote_put {T e : TypeId} {b : Nat} {v v' : Value} {ys : List Value} {w w1 w2 : World} (hg1 : w.grownBy w1 (some b))
    (hb2 : w2.heap[b]? = some (.cells #[.pointer (some ⟨b, 0, none⟩), v] T (0, 0))) (hgrow : w1.grownBy w2 v.ownBlock) (hown : w2.ownsRow 0 e 1 v' ys.length ys)
    (hwh : ∀ g, v'.ownBlock = some g → v.ownBlock = some g ∨ w1.heap.size ≤ g) (hT : T ≠ e) : Wrote T e b v ys w (w2.setCell ⟨b, 1, none⟩ v') := by
  have hsz1 := hg1.size
  have hne : v'.ownBlock ≠ some b := Lib.ownBlock_ne hown hb2 hT
  have hg3 : w2.grownBy (w2.setCell ⟨b, 1, none⟩ v') (some b) := by
    refine ⟨rfl, rfl, rfl, by simp [World.setCell], fun k hk hkb => ?_⟩
    have : k ≠ b := fun e => hkb (by rw [e])
    simp [World.setCell, Array.getElem?_modify, Ne.symm this]
  refine ⟨v', ?_, hown.kept hg3 (.inr hne), ⟨?_, ?_, ?_, fun k hk hkb hko => ?_⟩, fun g hg => (hwh g hg).imp id (by omega)⟩
  · simp [World.setCell, Array.getElem?_modify, hb2]
  · rw [hg3.os, hgrow.os, hg1.os]
  · rw [hg3.output, hgrow.output, hg1.output]
  · have := hgrow.size; have := hg3.size; omega
  · have h1 : some k ≠ some b := fun e => hkb (Option.some.inj e)
    rw [hg3.block k (by have := hgrow.size; omega) h1, hgrow.block k (by omega) hko, hg1.block k hk h1]
set_option maxHeartbeats 1000000 in
set_option maxRecDepth 100000 in
theorem writeString_kept (L : Lays.n166 P ρ) (X : Builder.Extra P ρ) (b : Nat) (x v : Value) (bs : List Value) (s : ByteArray) (w : World) (hbk : w.heap[b]? = some (.cells #[x, v] (ρ.t 72) (0, 0)))
    (hx : x = .pointer none ∨ x = .pointer (some ⟨b, 0, none⟩)) (hown : w.ownsRow 0 (ρ.t 5) 1 v bs.length bs) (hlen : bs.length + s.size ≤ 140737488355328) :
    Calls P (ρ.f 166) #[.pointer (some ⟨b, 0, none⟩), .string s] w fun e w' => e = .returned (.tuple #[.int .i64 s.size, .nilIface]) ∧ Wrote (ρ.t 72) (ρ.t 5) b v (bs ++ Lib.strCells s) w w' := by
  obtain ⟨i0, hi, hz0, hz1, hz2⟩ := info_parts X.infoByte
  have hne : v.ownBlock ≠ some b := Lib.ownBlock_ne hown hbk X.neB5
  have hlt : b < w.heap.size := (Array.getElem?_eq_some_iff.1 hbk).1
  have mixed := L.mixed
  have t72 := L.t72; have a72 := L.a72; have z72 := L.z72; have v72 := L.v72; have u72 := run_underlying L.t72
  have t70 := L.t70; have a70 := L.a70; have z70 := L.z70; have v70 := L.v70; have u70 := run_underlying L.t70
  have t37 := L.t37; have a37 := L.a37; have z37 := L.z37; have v37 := L.v37; have u37 := run_underlying L.t37
  have t3 := L.t3; have a3 := L.a3; have z3 := L.z3; have v3 := L.v3; have u3 := run_underlying L.t3
  have t9 := L.t9; have a9 := L.a9; have z9 := L.z9; have v9 := L.v9; have u9 := run_underlying L.t9
  have t4 := L.t4; have a4 := L.a4; have z4 := L.z4; have v4 := L.v4; have u4 := run_underlying L.t4
  have t164 := L.t164; have a164 := L.a164; have z164 := L.z164; have v164 := L.v164; have u164 := run_underlying L.t164
  have t5 := X.t5; have a5 := X.a5; have z5 := X.z5; have v5 := X.v5; have u5 := run_underlying X.t5
  have e240 : ∀ args w, (callFunc (ρ.f 240) args).run P w = .ok (.enter (ρ.f 240) args) w := enters_of L.f240 (by kernel_rfl) rfl
  go_enter L.f166, Body.n166_ntmps ρ
  go_wp2_with (go_at_fn (ρ.f 240); refine (copyCheck_kept { L with } X.toX72 b x v _ hbk hx).mono ?_)
  rintro e w1 ⟨rfl, hb1, hg1⟩
  have hown1 := hown.kept hg1 (.inr hne)
  have c0 : w1.cell? ⟨b, 0, none⟩ = some (.pointer (some ⟨b, 0, none⟩)) := by rw [Lib.cell_of_heap hb1]; rfl
  have c1 : w1.cell? ⟨b, 1, none⟩ = some v := by rw [Lib.cell_of_heap hb1]; rfl
  go_wp2_with (at_builtin; refine wpList_append_string_where rfl _ _ (ρ.t 37) (ρ.t 9) rfl (ρ.t 5) i0 L.t37 L.t9 hi hz0 hz1 hz2 _ _ _ rfl hown1 s rfl ?c3 ?c4 ?_)
  case c3 => unfold maxLen; omega
  case c4 => omega
  intro v' w2 hown' hgrow hwh
  have hlt1 : b < w1.heap.size := (Array.getElem?_eq_some_iff.1 hb1).1
  have hb2 : w2.heap[b]? = some (.cells #[.pointer (some ⟨b, 0, none⟩), v] (ρ.t 72) (0, 0)) := by
    rw [hgrow.block b hlt1 (fun e => hne e.symm)]
    exact hb1
  have d0 : w2.cell? ⟨b, 0, none⟩ = some (.pointer (some ⟨b, 0, none⟩)) := by rw [Lib.cell_of_heap hb2]; rfl
  have d1 : w2.cell? ⟨b, 1, none⟩ = some v := by rw [Lib.cell_of_heap hb2]; rfl
  have f1 : w2.frozen? ⟨b, 1, none⟩ = false := Lib.frozen_of_heap hb2 1
  obtain ⟨ao, n', cap, rfl⟩ : ∃ ao n' cap, v' = .slice ao n' cap := by
    rcases hown'.2 with ⟨hv, _⟩ | ⟨g, cap, cur, hv, _⟩
    · exact ⟨_, _, _, hv⟩
    · exact ⟨_, _, _, hv⟩
  go_wp2
  go_ret2
  exact ⟨rfl, wrote_put hg1 hb2 hgrow (by simpa [Lib.strCells_length] using hown') hwh X.neB5⟩
set_option maxHeartbeats 2000000 in
set_option maxRecDepth 100000 in
theorem writeByte_kept (L : Lays.n167 P ρ) (X : Builder.Extra P ρ) (b : Nat) (x v : Value) (bs : List Value) (c : Int) (w : World) (hbk : w.heap[b]? = some (.cells #[x, v] (ρ.t 72) (0, 0)))
    (hx : x = .pointer none ∨ x = .pointer (some ⟨b, 0, none⟩)) (hown : w.ownsRow 0 (ρ.t 5) 1 v bs.length bs) (hlen : bs.length + 1 ≤ 140737488355328) :
    Calls P (ρ.f 167) #[.pointer (some ⟨b, 0, none⟩), .int .u8 c] w fun e w' => e = .returned .nilIface ∧ Wrote (ρ.t 72) (ρ.t 5) b v (bs ++ [.int .u8 c]) w w' := by
  obtain ⟨i0, hi, hz0, hz1, hz2⟩ := info_parts X.infoByte
  have hne : v.ownBlock ≠ some b := Lib.ownBlock_ne hown hbk X.neB5
  have hlt : b < w.heap.size := (Array.getElem?_eq_some_iff.1 hbk).1
  have mixed := L.mixed
  have t72 := L.t72; have a72 := L.a72; have z72 := L.z72; have v72 := L.v72; have u72 := run_underlying L.t72
  have t70 := L.t70; have a70 := L.a70; have z70 := L.z70; have v70 := L.v70; have u70 := run_underlying L.t70
  have t5 := L.t5; have a5 := L.a5; have z5 := L.z5; have v5 := L.v5; have u5 := run_underlying L.t5
  have t37 := L.t37; have a37 := L.a37; have z37 := L.z37; have v37 := L.v37; have u37 := run_underlying L.t37
  have t9 := L.t9; have a9 := L.a9; have z9 := L.z9; have v9 := L.v9; have u9 := run_underlying L.t9
  have t4 := L.t4; have a4 := L.a4; have z4 := L.z4; have v4 := L.v4; have u4 := run_underlying L.t4
  have t164 := L.t164; have a164 := L.a164; have z164 := L.z164; have v164 := L.v164; have u164 := run_underlying L.t164
  have e240 : ∀ args w, (callFunc (ρ.f 240) args).run P w = .ok (.enter (ρ.f 240) args) w := enters_of L.f240 (by kernel_rfl) rfl
  go_enter L.f167, Body.n167_ntmps ρ
  go_wp2_with (go_at_fn (ρ.f 240); refine (copyCheck_kept { L with } X.toX72 b x v _ hbk hx).mono ?_)
  rintro e w1 ⟨rfl, hb1, hg1⟩
  have hown1 := hown.kept hg1 (.inr hne)
  have hlt1 : b < w1.heap.size := (Array.getElem?_eq_some_iff.1 hb1).1
  have c0 : w1.cell? ⟨b, 0, none⟩ = some (.pointer (some ⟨b, 0, none⟩)) := by rw [Lib.cell_of_heap hb1]; rfl
  have c1 : w1.cell? ⟨b, 1, none⟩ = some v := by rw [Lib.cell_of_heap hb1]; rfl
  go_wp2_with (at_builtin; refine wpList_append_bytes_where rfl _ _ (ρ.t 37) rfl (ρ.t 5) i0 L.t37 hi hz0 hz1 hz2 _ _ _ rfl (hown1.alloc _) ⟨w1.heap.size, 0, none⟩ 1 1 [.int .u8 c] rfl rfl ?c1 ?c2 ?c3 ?c4 ?_)
  case c1 =>
    intro j u hj
    match j, hj with
    | 0, hj => simp at hj; subst hj; simp [Addr.add]
  case c2 => intro u hu; simp at hu; subst hu; rfl
  case c3 => unfold maxLen; omega
  case c4 => omega
  intro v' w2 hown' hgrow hwh
  have hb2 : w2.heap[b]? = some (.cells #[.pointer (some ⟨b, 0, none⟩), v] (ρ.t 72) (0, 0)) := by
    rw [hgrow.block b (by simp; omega) (fun e => hne e.symm), Lib.alloc_old w1 _ b hlt1]
    exact hb1
  have d0 : w2.cell? ⟨b, 0, none⟩ = some (.pointer (some ⟨b, 0, none⟩)) := by rw [Lib.cell_of_heap hb2]; rfl
  have d1 : w2.cell? ⟨b, 1, none⟩ = some v := by rw [Lib.cell_of_heap hb2]; rfl
  have f1 : w2.frozen? ⟨b, 1, none⟩ = false := Lib.frozen_of_heap hb2 1
  have hgrow' : w1.grownBy w2 v.ownBlock :=
    ⟨hgrow.os, hgrow.tape, hgrow.output, by have := hgrow.size; simp at this; omega, fun k hk hko => by rw [hgrow.block k (by simp; omega) hko, Lib.alloc_old w1 _ k hk]⟩
  have hwh' : ∀ g, v'.ownBlock = some g → v.ownBlock = some g ∨ w1.heap.size ≤ g := fun g hg => (hwh g hg).imp id fun h => Nat.le_trans (by simp) h
  obtain ⟨ao, n', cap, rfl⟩ : ∃ ao n' cap, v' = .slice ao n' cap := by
    rcases hown'.2 with ⟨hv, _⟩ | ⟨g, cap, cur, hv, _⟩
    · exact ⟨_, _, _, hv⟩
    · exact ⟨_, _, _, hv⟩
  go_wp2
  go_ret
  exact ⟨rfl, wrote_put hg1 hb2 hgrow' (by simpa using hown') hwh' X.neB5⟩
set_option maxHeartbeats 2000000 in
set_option maxRecDepth 100000 in
theorem string_kept (L : Lays.n169 P ρ) (X : Builder.Extra P ρ) (b : Nat) (x v : Value) (l : List UInt8) (w : World) (hbk : w.heap[b]? = some (.cells #[x, v] (ρ.t 72) (0, 0)))
    (hown : w.ownsRow 0 (ρ.t 5) 1 v l.length (Lib.byteCells l)) :
    Calls P (ρ.f 169) #[.pointer (some ⟨b, 0, none⟩)] w fun e w' => e = .returned (.string ⟨l.toArray⟩) ∧ KeptB b v.ownBlock w w' := by
  have hlow : ∀ {w' : World}, Below w.heap.size w w' → KeptB b v.ownBlock w w' := fun h => ⟨h.os, h.output, h.size, fun k hk _ _ => h.block k hk⟩
  rcases hown.2 with ⟨rfl, hl⟩ | ⟨g, cap, cur, rfl, _, hg, hnc, hcm, hcs, htake⟩
  · obtain rfl : l = [] := List.eq_nil_of_length_eq_zero hl
    exact (Any.Builder_String_nil L X w.heap.size b x w hbk).mono fun e w' h => ⟨h.1, hlow h.2⟩
  · by_cases h0 : l = []
    · subst h0
      by_cases hc0 : cap = 0
      · subst hc0
        exact (Any.Builder_String_noroom L X w.heap.size b g x cur w (Nat.le_refl _) hbk hg).mono fun e w' h => ⟨h.1, hlow h.2⟩
      · exact (Any.Builder_String_room L X w.heap.size b g cap x w hc0 hbk).mono fun e w' h => ⟨h.1, hlow h.2⟩
    · have hl0 : l.length ≠ 0 := by simpa using h0
      have c1 : w.drew.cell? ⟨b, 1, none⟩ = some (.slice (some ⟨g, 0, none⟩) l.length cap) := by
        have : w.drew.heap[b]? = some (.cells #[x, .slice (some ⟨g, 0, none⟩) l.length cap] (ρ.t 72) (0, 0)) := hbk
        rw [Lib.cell_of_heap this]; rfl
      have hSD : (Builtin.unsafeSliceData_ #[(ρ.t 37)] (ρ.t 127) #[.slice (some ⟨g, 0, none⟩) l.length cap]).run P w.drew = .ok (.pointer (some ⟨g, 0, none⟩)) w.drew :=
        Lib.run_unsafeSliceData_row _ _ _ _ _ _ (by omega)
      have hUS : (Builtin.unsafeString_ #[(ρ.t 127), (ρ.t 3)] (ρ.t 9) #[.pointer (some ⟨g, 0, none⟩), .int .i64 l.length]).run P w.drew = .ok (.string ⟨l.toArray⟩) (w.drew.freeze ⟨g, 0, none⟩ l.length) := by
        refine Lib.run_unsafeString_row w.drew (ρ.t 127) (ρ.t 3) (ρ.t 9) (ρ.t 5) L.t127 X.cellsByte g cur.size (by have hg' : w.drew.heap[g]? = some (.cells cur (ρ.t 5) (0, 0)) := hg; simp [World.shape?, hg']) l h0 (by omega) (by unfold maxLen at hcm; omega) ?_
        intro j x hx
        exact hown.cells (g := g) rfl j (.int .u8 x.toNat) (by simp [Lib.byteCells, hx])
      have hfr : KeptB b (some g) w (w.drew.freeze ⟨g, 0, none⟩ l.length) := by
        have hb := Lib.below_freeze (B := 0) (Below.drew (Below.refl 0 w)) (p := ⟨g, 0, none⟩) (Nat.zero_le _) l.length
        refine ⟨hb.os, hb.output, hb.size, fun k hk _ hkg => ?_⟩
        have hkg' : k ≠ g := fun e => hkg (by rw [e])
        unfold World.freeze
        split
        · rfl
        · show (Array.modify _ _ _)[k]? = _
          rw [Array.getElem?_modify, if_neg (Ne.symm hkg')]
          rfl
      have mixed := L.mixed
      have t72 := L.t72; have a72 := L.a72; have z72 := L.z72; have v72 := L.v72; have u72 := run_underlying L.t72
      have t70 := L.t70; have a70 := L.a70; have z70 := L.z70; have v70 := L.v70; have u70 := run_underlying L.t70
      have t37 := L.t37; have a37 := L.a37; have z37 := L.z37; have v37 := L.v37; have u37 := run_underlying L.t37
      have t127 := L.t127; have a127 := L.a127; have z127 := L.z127; have v127 := L.v127; have u127 := run_underlying L.t127
      have t3 := L.t3; have a3 := L.a3; have z3 := L.z3; have v3 := L.v3; have u3 := run_underlying L.t3
      have t9 := L.t9; have a9 := L.a9; have z9 := L.z9; have v9 := L.v9; have u9 := run_underlying L.t9
      have t5 := X.t5; have a5 := X.a5; have z5 := X.z5; have v5 := X.v5; have u5 := run_underlying X.t5
      go_enter L.f169, Body.n169_ntmps ρ
      go_wp2
      go_region_o
      all_goals (go_wp2; go_ret; exact ⟨rfl, hfr⟩)
end Go.Proofs
noncomputable section
namespace Go.Sx
open Go Go.RowKit Go.Proofs
variable {I : Itp} {P : Program} {g : G} {w w' : World} {gl : List Glob} {T e : TypeId}
theorem strCells_sdec (n : Int) : Lib.strCells ⟨(sdec n).toArray⟩ = Lib.byteCells (sdec n) := by
  simp [Lib.strCells, Lib.byteCells]
theorem bld_own {c : Contract} {a : E} {n : Int} (hmem : c.mem = [(0, .bld T a 1), (1, .byt e a)]) (hm : MRel (c.amb g w) I P g c.mem w) (ha : a.den I g.env = some (.i n)) :
    ∃ (p : PB) (x y : Value), g.φ 0 = some p ∧ p.base = 0 ∧ w.heap[p.blk]? = some (.cells #[x, y] T (0, 0)) ∧ (x = .pointer none ∨ x = .pointer (some ⟨p.blk, 0, none⟩)) ∧
      w.ownsRow 0 e 1 y (sdec n).length (Lib.byteCells (sdec n)) ∧ ∀ k, y.ownBlock = some k → ∃ q, g.φ 1 = some q ∧ q.blk = k := by
  obtain ⟨p, n1, x, y, h1, h2, h3, h4, h5, h6⟩ := hm.blk 0 (.bld T a 1) (by rw [hmem]; rfl)
  obtain rfl : n = n1 := D.i.inj (Option.some.inj (ha.symm.trans h4))
  obtain ⟨n2, k1, k2⟩ := hm.blk 1 (.byt e a) (by rw [hmem]; rfl)
  obtain rfl : n = n2 := D.i.inj (Option.some.inj (ha.symm.trans k1))
  refine ⟨p, x, y, h1, h2, h3, h5, ⟨by simp [Lib.byteCells], ?_⟩, ?_⟩
  · rcases h6 with ⟨rfl, hn⟩ | ⟨q, hq, hb, rfl⟩
    · exact .inl ⟨rfl, by rw [hn]; rfl⟩
    · rcases k2 with ⟨k2, _⟩ | ⟨q', cur, k2, k3, k4, k5, k6, k7, k8⟩
      · rw [hq] at k2; cases k2
      · rw [hq] at k2; cases k2
        exact .inr ⟨q.blk, q.tot, cur, rfl, Nat.zero_le _, k4, k6, k7, by omega, by rw [Nat.mul_one]; exact k8⟩
  · intro k hk
    rcases h6 with ⟨rfl, hn⟩ | ⟨q, hq, hb, rfl⟩
    · simp [Value.ownBlock] at hk
    · simp [Value.ownBlock] at hk
      exact ⟨q, hq, hk⟩
theorem wrote_rel {c : Contract} {a : E} {m : Int} {p : PB} {y : Value} {k : Nat} (hmem : c.mem = [(0, .bld T a 1), (1, .byt e a)]) (hnb : g.nb = 2) (hm : MRel (c.amb g w) I P g c.mem w)
    (hT : T ≠ e) (h1 : g.φ 0 = some p) (hb : p.base = 0) (hy : ∀ k, y.ownBlock = some k → ∃ q, g.φ 1 = some q ∧ q.blk = k) (hw : Wrote T e p.blk y (Lib.byteCells (sdec m)) w w') (hk : g.env.length = k) :
    ∃ g' : G, g'.env = g.env ++ [.i m] ∧ g'.nb = 3 ∧ (∀ b, b < 2 → g'.φ b = g.φ b) ∧ MRel (c.amb g w) I P g' [(0, .bld T (.var k) 2), (2, .byt e (.var k))] w' := by
  obtain ⟨v', hb1, hown, hkept, hwh⟩ := hw
  have hne : v'.ownBlock ≠ some p.blk := Lib.ownBlock_ne hown hb1 hT
  have hlen : (Lib.byteCells (sdec m)).length = (sdec m).length := by simp [Lib.byteCells]
  have hX : ∀ i, (i = p.blk ∨ y.ownBlock = some i) → (c.amb g w).X i := by
    intro i hi
    rcases hi with rfl | hi
    · exact ⟨0, _, p, by rw [hmem]; rfl, rfl, h1, rfl⟩
    · obtain ⟨q, hq, hqk⟩ := hy i hi
      exact ⟨1, _, q, by rw [hmem]; rfl, rfl, hq, hqk⟩
  have hden : (E.var k).den I (g.env ++ [.i m]) = some (.i m) := by simp [E.den, ← hk]
  obtain ⟨o, ho, hbyt, hbld⟩ : ∃ o : Option PB, (∀ q, o = some q → v'.ownBlock = some q.blk ∧ q.blk < w'.heap.size) ∧
      ((o = none ∧ sdec m = []) ∨ ∃ (q : PB) (cur : Array Value), o = some q ∧ q.base = 0 ∧ w'.heap[q.blk]? = some (.cells cur e (0, 0)) ∧ cur.size = q.tot ∧ (sdec m).length ≤ q.tot ∧ q.tot ≤ 9223372036854775807 ∧ cur.toList.take (sdec m).length = (sdec m).map fun c => Value.int .u8 c.toNat) ∧
      ((v' = .slice none 0 0 ∧ sdec m = []) ∨ ∃ q : PB, o = some q ∧ q.base = 0 ∧ v' = .slice (some ⟨q.blk, 0, none⟩) (sdec m).length q.tot) := by
    rcases hown.2 with ⟨rfl, hz⟩ | ⟨g2, cap, cur, rfl, _, hg2, hnc, hcm, hcs, htake⟩
    · have hz' : sdec m = [] := List.eq_nil_of_length_eq_zero (by omega)
      exact ⟨none, by simp, .inl ⟨rfl, hz'⟩, .inl ⟨rfl, hz'⟩⟩
    · refine ⟨some { blk := g2, base := 0, tot := cap }, fun q hq => ?_, .inr ⟨_, cur, rfl, rfl, hg2, by show cur.size = cap; omega, by show _ ≤ cap; omega, hcm, ?_⟩, .inr ⟨_, rfl, rfl, by rw [hlen]⟩⟩
      · cases hq
        exact ⟨rfl, (Array.getElem?_eq_some_iff.1 hg2).1⟩
      · rw [hlen, Nat.mul_one] at htake; exact htake
  let g' : G := { env := g.env ++ [.i m], φ := fun b => if b = 2 then o else g.φ b, nb := 3 }
  have hφ : ∀ b, b ≠ 2 → g'.φ b = g.φ b := fun b hb => by simp [g', hb]
  have hφ2 : g'.φ 2 = o := by simp [g']
  have hget : ∀ b x, get ([(0, .bld T (.var k) 2), (2, .byt e (.var k))] : Mem) b = some x → (b = 0 ∧ x = .bld T (.var k) 2) ∨ (b = 2 ∧ x = .byt e (.var k)) := by
    intro b x h
    simp only [get_cons, get_nil] at h
    split at h
    · rename_i h0; exact .inl ⟨h0.symm, (Option.some.inj h).symm⟩
    · split at h
      · rename_i h0; exact .inr ⟨h0.symm, (Option.some.inj h).symm⟩
      · cases h
  refine ⟨g', rfl, rfl, fun b hb => hφ b (by omega), ?_⟩
  refine ⟨fun b hb => ?_, fun b x hx => ?_, fun b x hx => ?_, fun b d x z q r hx hz hxw hq hr hqr => ?_, fun b q hq => ?_, fun b x q hx hxw hq => ?_, ?_, fun i hi hXi => ?_, ?_⟩
  · have hb' : 3 ≤ b := hb
    rw [hφ b (by omega)]
    exact hm.wf b (by omega)
  · rcases hget b x hx with ⟨rfl, rfl⟩ | ⟨rfl, rfl⟩
    · refine ⟨p, m, .pointer (some ⟨p.blk, 0, none⟩), v', by rw [hφ 0 (by decide)]; exact h1, hb, hb1, hden, .inr rfl, hbld.imp id fun ⟨q, a, z⟩ => ⟨q, by rw [hφ2]; exact a, z⟩⟩
    · exact ⟨m, hden, hbyt.imp (fun ⟨a, z⟩ => ⟨by rw [hφ2]; exact a, z⟩) fun ⟨q, cur, a, z⟩ => ⟨q, cur, by rw [hφ2]; exact a, z⟩⟩
  · rcases hget b x hx with ⟨rfl, rfl⟩ | ⟨rfl, rfl⟩
    · show 0 < 3; decide
    · show 2 < 3; decide
  · rcases hget b x hx with ⟨rfl, rfl⟩ | ⟨rfl, rfl⟩ <;> rcases hget d z hz with ⟨rfl, rfl⟩ | ⟨rfl, rfl⟩
    · rfl
    · rw [hφ 0 (by decide), h1] at hq; cases hq
      rw [hφ2] at hr
      exact absurd (by rw [(ho r hr).1, hqr]) hne
    · rw [hφ 0 (by decide), h1] at hr; cases hr
      rw [hφ2] at hq
      exact absurd (by rw [(ho q hq).1, hqr]) hne
    · rfl
  · by_cases h2 : b = 2
    · subst h2; rw [hφ2] at hq; exact (ho q hq).2
    · rw [hφ b h2] at hq; exact Nat.lt_of_lt_of_le (hm.bnd b q hq) hkept.size
  · rcases hget b x hx with ⟨rfl, rfl⟩ | ⟨rfl, rfl⟩
    · rw [hφ 0 (by decide), h1] at hq; cases hq
      exact .inl (hX _ (.inl rfl))
    · rw [hφ2] at hq
      rcases hwh _ (ho q hq).1 with h | h
      · exact .inl (hX _ (.inr h))
      · exact .inr h
  · exact hkept.size
  · exact hkept.block i hi (fun h => hXi (hX i (.inl h))) (fun h => hXi (hX i (.inr h.symm)))
  · exact ⟨hkept.os, hkept.output⟩
end Go.Sx
end
