/-
  A contract, and what it is worth to a caller. Conditions: none.
-/
import Derived.Test.YtiehemggplndcaaGreatDoorA3
import Derived.RangeFuncLeaves
import Derived.RangeFuncRecord
import Derived.Laws.Sem
import Derived.OrdersIn
import Derived.RangeFuncNested
import Derived.ProofKit
import Derived.WideKeyArgs
import Derived.OpenShut
import Derived.Below
noncomputable section
namespace Go.Sx
open Go
variable {A : Amb} {I : Itp} {P : Program} {g : G} {X : Nat → Prop} {ts : qD} {a : Act} {M : Mem} {w : World}
def Contract.amb (c : Contract) (g : G) (w : World) : Amb := { w0 := w, X := fun i => ∃ b x p, get c.mem b = some x ∧ x.wr = true ∧ g.φ b = some p ∧ p.blk = i }
def COk (I : Itp) (P : Program) (gl : List Glob) (c : Contract) : Prop :=
 ∀ (g : G) (w : World) (xs : List Value), Sorts c.sorts g.env → g.nb = c.nb → GOk gl (c.amb g w) → qM (c.amb g w) I P g c.mem w → qd I g c.args xs → (∀ p ∈ c.pre, p.den I g.env) →
   Calls P c.fn xs.toArray w fun e w' => ∃ v outs g', e = .returned v ∧ Sorts c.outs outs ∧ g'.env = g.env ++ outs ∧ g'.nb = c.nb + c.fresh.length ∧ (∀ b, b < c.nb → g'.φ b = g.φ b) ∧
     Rel I g' c.res v ∧ qM (c.amb g w) I P g' (c.mods ++ c.fresh) w' ∧ (∀ p ∈ c.post, p.den I g'.env)
theorem zy {env ds : List D} {σ : List E} (hσ : qK I env σ = some ds) : ∀ {e : E} {d : D}, e.den I ds = some d → (e.subst 0 σ).den I env = some d := by
 intro e
 induction e with
 | lit x => intro d h; exact h
 | zt => intro d h; exact h
 | kt row => intro d h; exact h
 | bt b => intro d h; exact h
 | var i =>
   intro d h
   simp only [E.den] at h
   simp only [E.subst, Nat.not_lt_zero, if_false, Nat.sub_zero]
   have hi : i < σ.length := by
     have := (List.getElem?_eq_some_iff.1 h).1
     rwa [aJ hσ] at this
   obtain ⟨d', h1, h2⟩ := Z7 hσ (List.getElem?_eq_getElem hi)
   rw [h] at h2; simp at h2; subst h2
   rw [List.getElem?_eq_getElem hi]; exact h1
 | bin o a b iha ihb =>
   intro d h
   simp only [E.subst, E.den] at h ⊢
   split at h
   · rename_i x y h1 h2; rw [iha h1, ihb h2]; exact h
   · cases h
 | wrap k a ih =>
   intro d h
   simp only [E.subst, E.den] at h ⊢
   split at h
   · rename_i x h1; rw [ih h1]; exact h
   · cases h
 | sel t r c iht ihr =>
   intro d h
   simp only [E.subst, E.den] at h ⊢
   split at h
   · rename_i x y h1 h2; rw [iht h1, ihr h2]; exact h
   · cases h
 | upd t r c v iht ihr ihv =>
   intro d h
   simp only [E.subst, E.den] at h ⊢
   split at h
   · rename_i x y z h1 h2 h3; rw [iht h1, ihr h2, ihv h3]; exact h
   · cases h
 | cat t n u iht ihn ihu =>
   intro d h
   simp only [E.subst, E.den] at h ⊢
   split at h
   · rename_i x y z h1 h2 h3; rw [iht h1, ihn h2, ihu h3]; exact h
   · cases h
 | sh t n iht ihn =>
   intro d h
   simp only [E.subst, E.den] at h ⊢
   split at h
   · rename_i x y h1 h2; rw [iht h1, ihn h2]; exact h
   · cases h
 | teq t n u m iht ihn ihu ihm =>
   intro d h
   simp only [E.subst, E.den] at h ⊢
   split at h
   · rename_i x y z v h1 h2 h3 h4; rw [iht h1, ihn h2, ihu h3, ihm h4]; exact h
   · cases h
 | fn j a b c d iha ihb ihc ihd =>
   intro x h
   simp only [E.subst, E.den] at h ⊢
   split at h
   · rename_i x1 x2 x3 x4 h1 h2 h3 h4; rw [iha h1, ihb h2, ihc h3, ihd h4]; exact h
   · cases h
theorem KS {env ds : List D} {σ : List E} (hσ : qK I env σ = some ds) : ∀ {l : List E} {xs : List D}, qK I ds l = some xs → qK I env (l.map (E.subst 0 σ)) = some xs
 | [], xs, h => h
 | e :: l, xs, h => by
   simp only [List.map_cons, qK] at h ⊢
   split at h
   · rename_i d ds' h1 h2
     rw [zy hσ h1, KS hσ h2]; exact h
   · cases h
theorem PE.Us {env ds : List D} {σ : List E} (hσ : qK I env σ = some ds) : ∀ {p : PE}, p.den I ds → (p.subst 0 σ).den I env
 | .tt _, ⟨m, h1, h2⟩ => ⟨m, zy hσ h1, h2⟩
 | .ff _, h => zy hσ h
 | .rng _ _, ⟨m, h1, h2⟩ => ⟨m, zy hσ h1, h2⟩
 | .same _ _, ⟨d, h1, h2⟩ => ⟨d, zy hσ h1, zy hσ h2⟩
 | .pr _ _, ⟨xs, h1, h2⟩ => ⟨xs, KS hσ h1, h2⟩
 | .sort true _, ⟨f, h⟩ => ⟨f, zy hσ h⟩
 | .sort false _, ⟨m, h⟩ => ⟨m, zy hσ h⟩
 | .col _ _ _ _, ⟨f, h1, h2⟩ => ⟨f, zy hσ h1, h2⟩
 | .agr _ _ _ _, ⟨f, g, k, h1, h2, h3, h4⟩ => ⟨f, g, k, zy hσ h1, zy hσ h2, zy hσ h3, h4⟩
 | .byt _ _, ⟨f, k, h1, h2, h3⟩ => ⟨f, k, zy hσ h1, zy hσ h2, h3⟩
structure Inst (I : Itp) (u : Fix) (g' g2 : G) : Prop where
 nv : u.nv = 0
 σ : qK I g2.env u.σ = some g'.env
 φ : ∀ b p, g'.φ b = some p → ∃ c, u.img b = some c ∧ g2.φ c = some p
section
variable {u : Fix} {g' g2 : G}
mutual
theorem Inst.rel (hi : Inst I u g' g2) : ∀ {p : AV} {x : Value}, Rel I g' p x → Rel I g2 (u.inst p) x := by
 intro p x h
 have he : ∀ {e : E} {d : D}, e.den I g'.env = some d → (u.e e).den I g2.env = some d := fun h => by unfold Fix.e; rw [hi.nv]; exact zy hi.σ h
 match p with
 | .any => simp [Fix.inst, Rel]
 | .undef => simpa [Fix.inst, Rel] using h
 | .bool e => obtain ⟨n, h1, h2⟩ := h; exact ⟨n, he h1, h2⟩
 | .int k e => obtain ⟨n, h1, h2⟩ := h; exact ⟨n, he h1, h2⟩
 | .wF => simpa [Fix.inst, Rel] using h
 | .ptr b r s k =>
   obtain ⟨n, p, h1, h2, h3, h4⟩ := h
   obtain ⟨c, hc, hc'⟩ := hi.φ b p h3
   exact ⟨n, p, he h1, h2, by rw [hc]; exact hc', h4⟩
 | .qz => simpa [Fix.inst, Rel] using h
 | .slice b lo n s nl =>
   obtain ⟨l, m, h1, h2, h3, h4, h5⟩ := h
   refine ⟨l, m, he h1, he h2, h3, h4, ?_⟩
   rcases h5 with ⟨p, cap, h5, h6⟩ | h5
   · obtain ⟨c, hc, hc'⟩ := hi.φ b p h5
     exact .inl ⟨p, cap, by rw [hc]; exact hc', h6⟩
   · exact .inr h5
 | .func f l => obtain ⟨cs, h1, h2⟩ := h; exact ⟨cs, h1, Inst.JJ hi h2⟩
 | .yld b =>
   obtain ⟨p, h1, h2⟩ := h
   obtain ⟨c, hc, hc'⟩ := hi.φ b p h1
   exact ⟨p, by rw [hc]; exact hc', h2⟩
 | .jM => simpa [Fix.inst, Rel] using h
 | .agg l => obtain ⟨cs, h1, h2⟩ := h; exact ⟨cs, h1, Inst.JJ hi h2⟩
 | .tup l => obtain ⟨cs, h1, h2⟩ := h; exact ⟨cs, h1, Inst.JJ hi h2⟩
 | .big l ks t n m =>
   obtain ⟨f, xs, ys, zs, h1, h2, h3, h4, h5⟩ := h
   exact ⟨f, xs, ys, zs, he h1, h2, Inst.JJ hi h3, Inst.JJ hi h4, h5⟩
 | .cap0 => simpa [Fix.inst, Rel] using h
 | .empty => simpa [Fix.inst, Rel] using h
 | .asl b k n s =>
   obtain ⟨p, cap, h1, h2⟩ := h
   obtain ⟨c, hc, hc'⟩ := hi.φ b p h1
   exact ⟨p, cap, by rw [hc]; exact hc', h2⟩
 | .wZ f l m => obtain ⟨ms, cs, h1, h2, h3⟩ := h; exact ⟨ms, cs, h1, Inst.JJ hi h2, Inst.JJ hi h3⟩
 | .gG v k => simpa [Fix.inst, Rel] using h
 | .str l => simpa [Fix.inst, Rel] using h
 | .kK t n => obtain ⟨f, k, s, h1, h2, h3⟩ := h; exact ⟨f, k, s, he h1, he h2, h3⟩
 | .fC => simpa [Fix.inst, Rel] using h
 | .mref b =>
   obtain ⟨p, h1, h2⟩ := h
   obtain ⟨c, hc, hc'⟩ := hi.φ b p h1
   exact ⟨p, by rw [hc]; exact hc', h2⟩
 | .xV => simpa [Fix.inst, Rel] using h
 | .yV => simpa [Fix.inst, Rel] using h
 | .sat e => obtain ⟨n, h1, h2⟩ := h; exact ⟨n, he h1, h2⟩
 | .ifo e => obtain ⟨n, h1, h2⟩ := h; exact ⟨n, he h1, h2⟩
theorem Inst.JJ (hi : Inst I u g' g2) : ∀ {l : List AV} {xs : List Value}, qd I g' l xs → qd I g2 (u.insts l) xs := by
 intro l xs h
 match l, xs with
 | [], [] => simp [Fix.insts, qd]
 | v :: l, x :: xs => exact ⟨Inst.rel hi h.1, Inst.JJ hi h.2⟩
 | [], _ :: _ => simp [qd] at h
 | _ :: _, [] => simp [qd] at h
end
theorem Inst.qgJ (hi : Inst I u g' g2) {X : Nat → Prop} : ∀ {ts : qD} {xs : Array Value}, kM I g' X ts xs → kM I g2 X (u.au ts) xs
 | [], xs, _ => fun t v h => by simp [Fix.au, get_nil] at h
 | (t0, v0) :: ts, xs, h => by
   intro t v hv hX
   simp only [Fix.au, qQ] at hv
   split at hv
   · rename_i he; subst he
     simp at hv; subst hv
     obtain ⟨x, h1, h2⟩ := h t0 v0 (by simp [qQ]) hX
     exact ⟨x, h1, Inst.rel hi h2⟩
   · rename_i he
     have hsub : ∀ {ts : qD} {t : Nat} {v : AV}, get (u.au ts) t = some v → ∃ v', get ts t = some v' ∧ v = u.inst v' := by
       intro ts
       induction ts with
       | nil => intro t v h; simp [Fix.au, get_nil] at h
       | cons q ts ih =>
         intro t v h
         obtain ⟨t1, v1⟩ := q
         simp only [Fix.au, qQ] at h ⊢
         split at h
         · rename_i he; rw [if_pos he]; simp at h; exact ⟨v1, rfl, h.symm⟩
         · rename_i he; rw [if_neg he]; exact ih h
     obtain ⟨v', h1, rfl⟩ := hsub hv
     obtain ⟨x, h2, h3⟩ := h t v' (by simp only [qQ]; rw [if_neg he]; exact h1) hX
     exact ⟨x, h2, Inst.rel hi h3⟩
theorem oq : ∀ {l : List AV} {i : Nat} {v : AV}, (u.insts l)[i]? = some v → ∃ v', l[i]? = some v' ∧ v = u.inst v'
 | [], i, v, h => by simp [Fix.insts] at h
 | q :: l, i, v, h => by
   simp only [Fix.insts] at h
   cases i with
   | zero => simp at h; exact ⟨q, rfl, h.symm⟩
   | succ i => simpa using oq (l := l) (i := i) (by simpa using h)
theorem fM : ∀ {l : List AV}, (u.insts l).length = l.length
 | [] => rfl
 | q :: l => by simp [Fix.insts, fM (l := l)]
theorem Inst.qbU (hi : Inst I u g' g2) {b c : Nat} (hb : u.img b = some c) (qbB : ∀ p, g2.φ c = some p → g'.φ b = some p) {H : Nat → Option Obj} : ∀ {x : Blk}, jU I P g' b H x → jU I P g2 c H (u.MS x)
 | .cells l wr, ⟨p, cs, T, fr, h1, h2, h3, h4⟩ => by
   obtain ⟨c', hc, hc'⟩ := hi.φ b p h1
   rw [hb] at hc; cases hc
   refine ⟨p, cs, T, fr, hc', h2, fun i v hv => ?_, h4⟩
   have key : ∀ {l : List AV} {i : Nat} {v : AV}, (u.insts l)[i]? = some v → ∃ v', l[i]? = some v' ∧ v = u.inst v' := by
     intro l
     induction l with
     | nil => intro i v h; simp [Fix.insts] at h
     | cons q l ih =>
       intro i v h
       simp only [Fix.insts] at h
       cases i with
       | zero => simp at h; exact ⟨q, rfl, h.symm⟩
       | succ i => simpa using ih (i := i) (by simpa using h)
   obtain ⟨v', h5, rfl⟩ := key hv
   obtain ⟨x, h6, h7⟩ := h3 i v' h5
   exact ⟨x, h6, Inst.rel hi h7⟩
 | .rows ks t n wr nl, ⟨f, m, h1, h2, h3, h4⟩ => by
   have he : ∀ {e : E} {d : D}, e.den I g'.env = some d → (u.e e).den I g2.env = some d := fun h => by unfold Fix.e; rw [hi.nv]; exact zy hi.σ h
   refine ⟨f, m, he h1, he h2, h3, ?_⟩
   rcases h4 with ⟨p, cs, T, fr, h4, h5⟩ | ⟨h4, h5, h6⟩
   · obtain ⟨c', hc, hc'⟩ := hi.φ b p h4
     rw [hb] at hc; cases hc
     exact .inl ⟨p, cs, T, fr, hc', h5⟩
   · refine .inr ⟨h4, h5, ?_⟩
     cases hq : g2.φ c with
     | none => rfl
     | some p => rw [qbB p hq] at h6; cases h6
 | .big l ks t n m wr, ⟨p, cs, T, fr, f, h1, h2, h3, h4, h5, h6, h7⟩ => by
   obtain ⟨c', hc, hc'⟩ := hi.φ b p h1
   rw [hb] at hc; cases hc
   have he : ∀ {e : E} {d : D}, e.den I g'.env = some d → (u.e e).den I g2.env = some d := fun h => by unfold Fix.e; rw [hi.nv]; exact zy hi.σ h
   refine ⟨p, cs, T, fr, f, hc', h2, he h3, fun i v hv => ?_, by rw [fM]; exact h5, fun i v hv => ?_, h7⟩
   · obtain ⟨v', h8, rfl⟩ := oq hv
     obtain ⟨x, h9, h10⟩ := h4 i v' h8
     exact ⟨x, h9, Inst.rel hi h10⟩
   · obtain ⟨v', h8, rfl⟩ := oq hv
     obtain ⟨x, h9, h10⟩ := h6 i v' h8
     exact ⟨x, by rw [fM]; exact h9, Inst.rel hi h10⟩
 | .loop st pend f ix nt ts d, ⟨p, q, r, rf, h1, h2, h3, h4, h5, h6, h7, h8, h9, h10, h11, h12⟩ => by
   obtain ⟨c', hc, hc'⟩ := hi.φ b p h1
   rw [hb] at hc; cases hc
   obtain ⟨d', hd, hd'⟩ := hi.φ d q h2
   exact ⟨p, q, r, rf, hc', by rw [hd]; exact hd', h3, h4, h5, h6, h7, h8, h9, h10, h11, Inst.qgJ hi h12⟩
 | .dfr sh, ⟨p, h1, h2⟩ => by
   obtain ⟨c', hc, hc'⟩ := hi.φ b p h1
   rw [hb] at hc; cases hc
   exact ⟨p, hc', h2⟩
 | .mp l m, ⟨p, es, k, h1, h2, h3, h4⟩ => by
   obtain ⟨c', hc, hc'⟩ := hi.φ b p h1
   rw [hb] at hc; cases hc
   exact ⟨p, es, k, hc', h2, Inst.JJ hi h3, Inst.JJ hi h4⟩
 | .smp w one ks t n, ⟨p, es, k, f, h1, h2, h3, h4, h5⟩ => by
   obtain ⟨c', hc, hc'⟩ := hi.φ b p h1
   rw [hb] at hc; cases hc
   have he : ∀ {e : E} {d : D}, e.den I g'.env = some d → (u.e e).den I g2.env = some d := fun h => by unfold Fix.e; rw [hi.nv]; exact zy hi.σ h
   exact ⟨p, es, k, f, hc', h2, he h3, he h4, h5⟩
 | .iter e q k, ⟨p, n, m, h1, h2, h3, h4, h5⟩ => by
   obtain ⟨c', hc, hc'⟩ := hi.φ b p h1
   rw [hb] at hc; cases hc
   have he : ∀ {e : E} {d : D}, e.den I g'.env = some d → (u.e e).den I g2.env = some d := fun h => by unfold Fix.e; rw [hi.nv]; exact zy hi.σ h
   exact ⟨p, n, m, hc', h2, he h3, he h4, h5⟩
theorem KG : ∀ {M : Mem} {c : Nat} {y : Blk}, get (u.mo M) c = some y → ∃ b x, get M b = some x ∧ (u.img b).getD 0 = c ∧ y = u.MS x := by
 intro M
 induction M with
 | nil => intro c y h; simp [Fix.mo, get_nil] at h
 | cons q M ih =>
   intro c y h
   obtain ⟨b0, x0⟩ := q
   simp only [Fix.mo, qQ] at h
   split at h
   · rename_i he
     simp at h
     exact ⟨b0, x0, by simp [qQ], he, h.symm⟩
   · rename_i hne
     obtain ⟨b, x, h1, h2, h3⟩ := ih h
     refine ⟨b, x, ?_, h2, h3⟩
     simp only [qQ]
     rw [if_neg]
     · exact h1
     · rintro rfl
       exact hne h2
end
theorem nL (n m b : Nat) : ∀ k, get (rF n m k) b = if n ≤ b ∧ b < n + k then some (some (m + (b - n))) else none
 | 0 => by simp [rF, get_nil]
 | k + 1 => by
   simp only [rF, qQ]
   by_cases h : n + k = b
   · subst h; simp
   · rw [if_neg h, nL n m b k]
     by_cases h2 : n ≤ b ∧ b < n + k
     · rw [if_pos h2, if_pos (by omega)]
     · rw [if_neg h2, if_neg (by omega)]
theorem zB {α : Type} (u : Nat) : ∀ (l m : List (Nat × α)), get (l ++ m) u = match get l u with | some x => some x | none => get m u
 | [], m => rfl
 | (k, v) :: l, m => by
   simp only [List.cons_append, qQ]
   split
   · rfl
   · exact zB u l m
theorem Z8 {env : List D} : ∀ {l m : List E} {xs ys : List D}, qK I env l = some xs → qK I env m = some ys → qK I env (l ++ m) = some (xs ++ ys)
 | [], m, xs, ys, h, h' => by simp [qK] at h; subst h; simpa using h'
 | e :: l, m, xs, ys, h, h' => by
   simp only [qK] at h
   split at h
   · rename_i d ds h1 h2
     simp at h; subst h
     simp [qK, h1, Z8 h2 h']
   · cases h
theorem rT {env zs : List D} : ∀ {l : List E} {xs : List D}, qK I env l = some xs → qK I (env ++ zs) l = some xs
 | [], xs, h => h
 | e :: l, xs, h => by
   simp only [qK] at h ⊢
   split at h
   · rename_i d ds h1 h2; rw [E.zV h1, rT h2]; exact h
   · cases h
theorem oQ {env outs : List D} : ∀ k, k ≤ outs.length → qK I (env ++ outs) (xk env.length k) = some (outs.take k)
 | 0, _ => by simp [xk, qK]
 | k + 1, h => by
   have h1 := oQ (env := env) (outs := outs) k (by omega)
   have h2 : qK I (env ++ outs) [E.var (env.length + k)] = some [outs[k]] := by
     simp [qK, E.den, List.getElem?_append_right, List.getElem?_eq_getElem (show k < outs.length by omega)]
   simp only [xk]
   rw [Z8 h1 h2]
   rw [List.take_add_one, List.getElem?_eq_getElem (show k < outs.length by omega)]; rfl
theorem qM.qxr {c : Contract} (h : qM A I P g c.mem w) : qM (c.amb g w) I P g c.mem w :=
 ⟨h.wf, h.blk, h.lt, h.inj, h.bnd, fun b x p hx hw hp => .inl ⟨b, x, p, hx, hw, hp, rfl⟩, Nat.le_refl _, fun _ _ _ => rfl, rfl, rfl⟩
theorem VL : ∀ {M : Mem} {b : Nat} {x : Blk}, get M b = some x → x.wr = true → b ∈ mG M
 | [], b, x, h, _ => by simp [get_nil] at h
 | (b0, x0) :: M, b, x, h, hw => by
   simp only [qQ] at h
   simp only [mG]
   split at h
   · rename_i he; subst he; simp at h; subst h; rw [if_pos hw]; simp
   · have := VL h hw
     split <;> simp [this]
theorem VU {u : Fix} : ∀ {l : List Nat} {b c : Nat}, b ∈ l → u.img b = some c → c ∈ u.aU l
 | [], b, c, h, _ => by simp at h
 | b0 :: l, b, c, h, hc => by
   simp only [Fix.aU]
   simp at h
   rcases h with rfl | h
   · rw [hc]; simp
   · have := VU h hc
     split <;> simp [this]
theorem gT {α : Type} : ∀ {l : List (Nat × α)} {b : Nat} {x : α}, get l b = some x → b ∈ keys l ∧ (b, x) ∈ l
 | [], b, x, h => by simp [get_nil] at h
 | (k, v) :: l, b, x, h => by
   simp only [qQ] at h
   split at h
   · rename_i he; subst he; simp at h; subst h; simp [keys]
   · obtain ⟨h1, h2⟩ := gT h
     simp only [keys] at h1 ⊢
     exact ⟨by simp [h1], by simp [h2]⟩
theorem XP {cx : Cx} {c : Contract} (hG : GOk cx.kn.globs A) (hc : COk I cx.P cx.kn.globs c) {args : List AV} {s : St} {k : AV → St → Tree} {xs : List Value} (h : (FL c args s k).vc I g.env) (hs : qO A I cx.P X g s a w) (ha : qd I g args xs) :
   Calls cx.P c.fn xs.toArray w fun e w' => ∃ v, e = .returned v ∧ uO A I cx.P X g a k v w' := by
 unfold FL at h
 simp only at h
 split at h
 · exact h.elim
 rename_i hcond
 simp only [Bool.or_eq_true, Bool.not_eq_true', decide_eq_false_iff_not, not_or, Bool.not_eq_false, Decidable.not_not] at hcond
 obtain ⟨⟨⟨hle, hlen⟩, hform⟩, hsome⟩ := hcond
 generalize hu : xE 0 0 c.sorts.length c.nb { tmps := [(0, .agg c.args)], nt := 0, defers := [], mem := c.mem, nv := 0, nb := 0 } { tmps := [(0, .agg args)], nt := 0, defers := [], mem := s.mem, nv := 0, nb := 0 } = u at *
 have hu1 : u.nv = 0 := by rw [← hu]; rfl
 have hu2 : u.nb = 0 := by rw [← hu]; rfl
 have hu3 : u.kb = c.nb := by rw [← hu]; exact Nat.zero_add _
 simp only [Fix.leS, Bool.and_eq_true, beq_iff_eq] at hle
 obtain ⟨⟨⟨⟨_, _⟩, hleT⟩, RX⟩, hok⟩ := hle
 obtain ⟨hps, hbody⟩ := zQ h
 obtain ⟨ds, hds, hso⟩ := yx hlen (fun p hp => hps p (by simp [hp]))
 have hfit : u.Fits I g ds := ⟨hds, by omega, by omega⟩
 have aI : (u.view g ds).env = ds := by simp [Fix.view, hu1]
 have hmr := Fix.qws hfit hs.m RX hok
 have qbR : qd I (u.view g ds) c.args xs := by
   have h0 : kM I g (fun _ => False) [(0, .agg args)] #[Value.agg xs.toArray] := fun t v hv _ => by
     simp only [qQ] at hv
     split at hv
     · rename_i he; subst he; simp at hv; subst hv; exact ⟨_, rfl, _, rfl, by simpa using ha⟩
     · cases hv
   obtain ⟨x, hx, cs, hcs, hr⟩ := Fix.ug hfit hleT h0 0 (.agg c.args) (by simp [qQ]) (fun h => h)
   simp at hx; subst hx
   cases hcs
   simpa using hr
 have hpre : ∀ p ∈ c.pre, p.den I (u.view g ds).env := fun p hp => by
   have := PE.zl (n := 0) hds (by omega) (hps (p.subst 0 u.σ) (by simp; exact .inr ⟨p, hp, rfl⟩))
   rw [aI]; simpa using this
 have hGc : GOk cx.kn.globs (c.amb (u.view g ds) w) := fun x hx => by
   obtain ⟨h1, h2, cs, T, fr, h3, h4⟩ := hG x hx
   refine ⟨Nat.lt_of_lt_of_le h1 hs.m.size, ?_, cs, T, fr, by rw [← h3]; exact hs.m.keep _ h1 h2, h4⟩
   rintro ⟨b, y, p, h5, h6, h7, h8⟩
   rcases Fix.x9 RX h5 with ⟨c', z, h9, h10, h11⟩ | ⟨h9, _⟩
   · rw [Fix.zJ h9] at h7
     rcases hs.m.own c' z p h10 (Fix.Y5 h11 h6) h7 with h12 | h12
     · rw [h8] at h12; exact h2 h12
     · omega
   · simp [Fix.view, h9] at h7
 refine (hc (u.view g ds) w xs (by rw [aI]; exact hso) hu3 hGc hmr.qxr qbR hpre).mono fun e w' he => ?_
 obtain ⟨v, outs, g', rfl, hout, qvI, hnb', hφ', hres, hm', hpost⟩ := he
 refine ⟨v, rfl, ?_⟩
 -- the caller's state behind the call
 let nf := c.fresh.length
 let u2 : Fix := { nv := 0, nb := 0, kb := c.nb + nf, σ := u.σ ++ xk s.nv c.outs.length, ρ := rF c.nb s.nb nf ++ u.ρ }
 let g2 : G := { env := g.env ++ outs, φ := fun b => if b < g.nb then g.φ b else if b < g.nb + nf then g'.φ (c.nb + (b - g.nb)) else none, nb := g.nb + nf }
 have hle2 : g.Le g2 := ⟨⟨outs, rfl⟩, Nat.le_add_right _ _, fun b hb => by simp only [g2]; rw [if_pos hb]⟩
 have Ue : ∀ b, b < c.nb → u2.img b = u.img b := fun b hb => by
   simp only [Fix.img, u2, hu2, hu3, Nat.not_lt_zero, if_false]
   rw [if_pos (by omega), if_pos hb, zB, nL, if_neg (by omega)]
 have qzd : ∀ b, c.nb ≤ b → b < c.nb + nf → u2.img b = some (s.nb + (b - c.nb)) := fun b h1 h2 => by
   simp only [Fix.img, u2, Nat.not_lt_zero, if_false]
   rw [if_pos h2, zB, nL, if_pos ⟨h1, h2⟩]
   rfl
 have hinst : Inst I u2 g' g2 := by
   refine ⟨rfl, ?_, fun b p hp => ?_⟩
   · rw [qvI, aI]
     have h1 := oQ (I := I) (env := g.env) (outs := outs) c.outs.length (by rw [hout.length]; exact Nat.le_refl _)
     rw [hs.nv] at h1
     have h2 : outs.take c.outs.length = outs := by rw [← hout.length, List.take_length]
     rw [h2] at h1
     exact Z8 (rT hds) h1
   · have hb := hm'.wf.lt hp
     rw [hnb'] at hb
     by_cases hbc : b < c.nb
     · rw [hφ' b hbc] at hp
       simp only [Fix.view] at hp
       cases hi : u.img b with
       | none => rw [hi] at hp; cases hp
       | some c' =>
         rw [hi] at hp
         have hp' : g.φ c' = some p := hp
         exact ⟨c', by rw [Ue b hbc]; exact hi, hle2.some hs.m.wf hp'⟩
     · refine ⟨_, qzd b (by omega) hb, ?_⟩
       simp only [g2]
       rw [if_neg (by rw [hs.nb]; omega), if_pos (by rw [hs.nb]; omega), hs.nb, ← hp]
       congr 1; omega
 simp only [Contract.form, Bool.and_eq_true, List.all_eq_true, decide_eq_true_eq, List.contains_iff_mem] at hform
 obtain ⟨⟨hfresh, KW⟩, hwr⟩ := hform
 -- the blocks that the callee may write are the caller's
 have hX : ∀ i, (c.amb (u.view g ds) w).X i → ∃ b x p, get s.mem b = some x ∧ x.wr = true ∧ g.φ b = some p ∧ p.blk = i ∧ b ∈ u.aU (mG c.mem) := by
   rintro i ⟨b, x, p, h1, h2, h3, h4⟩
   rcases Fix.x9 RX h1 with ⟨c', y, h5, h6, h7⟩ | ⟨h5, _⟩
   · rw [Fix.zJ h5] at h3
     exact ⟨c', y, p, h6, Fix.Y5 h7 h2, h3, h4, VU (VL h1 h2) h5⟩
   · simp [Fix.view, h5] at h3
 have qw1 : ∀ b y p, get s.mem b = some y → b ∉ u.aU (mG c.mem) → g.φ b = some p → w'.heap[p.blk]? = w.heap[p.blk]? := fun b y p h1 h2 h3 =>
   hm'.keep p.blk (hs.m.bnd b p h3) fun hx => by
     obtain ⟨b', x', p', h4, hw4, h5, h6, h7⟩ := hX _ hx
     have := hs.m.inj b' b x' y p' p h4 h1 hw4 h5 h3 h6
     subst this; exact h2 h7
 -- an entry is the callee's or the caller's
 have hent : ∀ b y, get (u2.mo c.fresh ++ (u2.mo c.mods ++ FX (u.aU (mG c.mem)) s.mem)) b = some y →
     (∃ pb x, get (c.mods ++ c.fresh) pb = some x ∧ u2.img pb = some b ∧ y = u2.MS x ∧ b < g2.nb ∧ g2.φ b = g'.φ pb) ∨ (get s.mem b = some y ∧ b ∉ u.aU (mG c.mem)) := by
   intro b y hb
   rw [zB] at hb
   split at hb
   · rename_i y' hy'
     cases hb
     obtain ⟨pb, x, h1, h2, h3⟩ := KG hy'
     have hk := hfresh pb (gT h1).1
     have hi := qzd pb hk.1 hk.2
     rw [hi] at h2
     simp at h2
     refine .inl ⟨pb, x, ?_, by rw [hi, h2], h3, ?_, ?_⟩
     · rw [zB]
       cases hg : get c.mods pb with
       | none => exact h1
       | some z =>
         exfalso
         have hm := KW pb (gT hg).1
         have hs' := List.all_eq_true.1 hsome pb hm
         cases hii : u.img pb with
         | none => rw [hii] at hs'; cases hs'
         | some q => have := Fix.Xy hfit.kb hii; omega
     · simp only [g2]; rw [hs.nb]; omega
     · simp only [g2]
       rw [if_neg (by rw [hs.nb]; omega), if_pos (by rw [hs.nb]; omega)]
       congr 1
       rw [hs.nb]; omega
   · rw [zB] at hb
     split at hb
     · rename_i y' hy'
       cases hb
       obtain ⟨pb, x, h1, h2, h3⟩ := KG hy'
       have hm := KW pb (gT h1).1
       have hs' := List.all_eq_true.1 hsome pb hm
       cases hii : u.img pb with
       | none => rw [hii] at hs'; cases hs'
       | some q =>
         have hlt : pb < c.nb := by have := Fix.Xy hfit.kb hii; omega
         rw [Ue pb hlt, hii] at h2
         simp at h2
         subst h2
         -- q is in the caller's memory
         have hq : q < g.nb := by
           have hwm : ∀ {M : Mem} {b : Nat}, b ∈ mG M → ∃ x, (b, x) ∈ M := by
             intro M
             induction M with
             | nil => intro b h; simp [mG] at h
             | cons z M ih =>
               intro b h
               obtain ⟨b0, x0⟩ := z
               simp only [mG] at h
               split at h
               · simp at h
                 rcases h with rfl | h
                 · exact ⟨x0, by simp⟩
                 · obtain ⟨x, hx⟩ := ih h; exact ⟨x, by simp [hx]⟩
               · obtain ⟨x, hx⟩ := ih h; exact ⟨x, by simp [hx]⟩
           have hgm : ∀ {M : Mem} {b : Nat} {x : Blk}, (b, x) ∈ M → ∃ x', get M b = some x' := by
             intro M
             induction M with
             | nil => intro b x h; simp at h
             | cons z M ih =>
               intro b x h
               obtain ⟨b0, x0⟩ := z
               simp only [qQ]
               split
               · exact ⟨x0, rfl⟩
               · rename_i hne
                 simp at h
                 rcases h with ⟨rfl, _⟩ | h
                 · exact absurd rfl hne
                 · exact ih h
           obtain ⟨x1, hx1⟩ := hwm hm
           obtain ⟨x2, hx2⟩ := hgm hx1
           rcases Fix.x9 RX hx2 with ⟨c', y, h5, h6, _⟩ | ⟨h5, _⟩
           · rw [hii] at h5; cases h5; exact hs.m.lt _ _ h6
           · rw [hii] at h5; cases h5
         refine .inl ⟨pb, x, by rw [zB, h1], by rw [Ue pb hlt]; exact hii, h3, ?_, ?_⟩
         · simp only [g2]; omega
         · simp only [g2]
           rw [if_pos hq, hφ' pb hlt, Fix.zJ hii]
     · obtain ⟨h1, h2⟩ := Gp _ _ _ hb
       exact .inr ⟨h1, h2⟩
 have qw6 : ∀ pb x p, get (c.mods ++ c.fresh) pb = some x → g'.φ pb = some p → (∃ b x p', get s.mem b = some x ∧ x.wr = true ∧ g.φ b = some p' ∧ p'.blk = p.blk ∧ b ∈ u.aU (mG c.mem)) ∨ w.heap.size ≤ p.blk := fun pb x p h1 h2 => by
   rcases hm'.own pb x p h1 (hwr _ (gT h1).2) h2 with h3 | h3
   · exact .inl (hX _ h3)
   · exact .inr h3
 have qbW : qM A I cx.P g2 (u2.mo c.fresh ++ (u2.mo c.mods ++ FX (u.aU (mG c.mem)) s.mem)) w' := by
   refine ⟨fun b hb => ?_, fun b y hb => ?_, fun b y hb => ?_, fun b d y z p q hy hz hwy hp hq e => ?_, fun b p hp => ?_, fun b y p hy hw hp => ?_, ?_, fun i hi hXi => ?_, ⟨hm'.same.1.trans hs.m.same.1, hm'.same.2.trans hs.m.same.2⟩⟩
   · simp only [g2] at hb ⊢
     rw [if_neg (by omega), if_neg (by omega)]
   · rcases hent b y hb with ⟨pb, x, h1, h2, rfl, h4, h5⟩ | ⟨h1, h2⟩
     · exact Inst.qbU hinst h2 (fun p hp => by rw [← h5]; exact hp) (hm'.blk pb x h1)
     · exact ((hs.m.blk b y h1).le hle2 hs.m.wf (hs.m.lt b y h1)).heap fun p hp => by
         have hp' : g.φ b = some p := by rw [← hle2.φ b (hs.m.lt b y h1)]; exact hp
         exact qw1 b y p h1 h2 hp'
   · rcases hent b y hb with ⟨_, _, _, _, _, h4, _⟩ | ⟨h1, _⟩
     · exact h4
     · have := hs.m.lt b y h1; simp only [g2]; omega
   · rcases hent b y hy with ⟨pb, x, h1, h2, rfl, _, h5⟩ | ⟨h1, h2⟩ <;> rcases hent d z hz with ⟨pd, x', h6, h7, rfl, _, h10⟩ | ⟨h6, h7⟩
     · rw [h5] at hp; rw [h10] at hq
       have := hm'.inj pb pd x x' p q h1 h6 (hwr _ (gT h1).2) hp hq e
       subst this
       rw [h2] at h7; exact Option.some.inj h7
     · rw [h5] at hp
       rw [hle2.φ d (hs.m.lt d z h6)] at hq
       rcases qw6 pb x p h1 hp with ⟨b', x', p', h11, qwL, h12, h13, h14⟩ | h11
       · have := hs.m.inj b' d x' z p' q h11 h6 qwL h12 hq (by rw [h13, e])
         subst this; exact absurd h14 h7
       · have := hs.m.bnd d q hq; omega
     · rw [h10] at hq
       rw [hle2.φ b (hs.m.lt b y h1)] at hp
       rcases qw6 pd x' q h6 hq with ⟨b', x', p', h11, qwL, h12, h13, h14⟩ | h11
       · have := hs.m.inj b' b x' y p' p h11 h1 qwL h12 hp (by rw [h13, e])
         subst this; exact absurd h14 h2
       · have := hs.m.bnd b p hp; omega
     · rw [hle2.φ b (hs.m.lt b y h1)] at hp
       rw [hle2.φ d (hs.m.lt d z h6)] at hq
       exact hs.m.inj b d y z p q h1 h6 hwy hp hq e
   · simp only [g2] at hp
     split at hp
     · have h1 := hs.m.bnd b p hp
       have h2 := hm'.size
       exact Nat.lt_of_lt_of_le h1 h2
     · split at hp
       · exact hm'.bnd _ p hp
       · cases hp
   · rcases hent b y hy with ⟨pb, x, h1, h2, rfl, _, h5⟩ | ⟨h1, h2⟩
     · rw [h5] at hp
       rcases qw6 pb x p h1 hp with ⟨b', x', p', h11, h12, h13, h14, _⟩ | h11
       · rw [← h14]; exact hs.m.own b' x' p' h11 h12 h13
       · right; exact Nat.le_trans hs.m.size h11
     · rw [hle2.φ b (hs.m.lt b y h1)] at hp
       exact hs.m.own b y p h1 hw hp
   · exact Nat.le_trans hs.m.size hm'.size
   · have h1 : w'.heap[i]? = w.heap[i]? := hm'.keep i (Nat.lt_of_lt_of_le hi hs.m.size) fun hx => by
       obtain ⟨b', x', p', h4, h5, h6, h7, _⟩ := hX _ hx
       rcases hs.m.own b' x' p' h4 h5 h6 with h8 | h8
       · rw [h7] at h8; exact hXi h8
       · omega
     rw [h1]; exact hs.m.keep i hi hXi
 have hb1 := rM hbody hout
 have hb2 := fI hb1 fun p hp => by
   simp only [List.mem_map] at hp
   obtain ⟨q, hq, rfl⟩ := hp
   exact PE.Us hinst.σ (hpost q hq)
 refine ⟨_, g2, { s with mem := u2.mo c.fresh ++ (u2.mo c.mods ++ FX (u.aU (mG c.mem)) s.mem), nv := s.nv + c.outs.length, nb := s.nb + c.fresh.length }, hle2, Inst.rel hinst hres, ⟨qbW, hs.t.le hle2 hs.m.wf, hs.nt, hs.d.le hle2 hs.m.wf, ?_, ?_⟩, hb2⟩
 · simp [g2, hs.nv, hout.length]
 · simp [g2, hs.nb, nf]
end Go.Sx
noncomputable section
namespace Go.Sx
open Go
variable {A : Amb} {I : Itp} {P : Program} {g : G} {X : Nat → Prop} {ts : qD} {a : Act} {M : Mem} {w : World}
theorem gQ {r : Option Nat} {n : Nat} {f : FuncId} {args : Array Value} {R : Ending → World → Prop} : CallsIn (FW r) n P f args w R ↔ Calls P f args w R := by
 have : CallsIn (FW r) n P f args w R = CallsIn Fence.wide n P f args w R := rfl
 rw [this]; exact callsIn_wide
theorem yh {f : FuncId} {fn : Func} {c : Code} (hf : P.funcs[f]? = some fn) (hb : fn.body = some c) (hn : (fn.name == "runtime.NumGoroutine") = false) (args : Array Value) :
   (callFunc f args).run P w = .ok (.enter f args) w := by
 simp [callFunc, go_sem, hf, hb]
 intro h
 rw [h] at hn
 simp at hn
def Vy (tmps : Array Value) : ResultVar → Sem Value
 | .tmp t => pure (tmps.getD t undef)
 | .cell b t => do loadVar t (← asAddr (tmps.getD b undef))
theorem iV {s : St} (hm : qM A I P g s.mem w) (ht : kM I g (fun _ => False) s.tmps a.tmps) : ∀ {l : List ResultVar} {vs : List AV}, nu P s l = some vs →
   ∃ xs, (l.mapM (Vy a.tmps)).run P w = .ok xs w ∧ qd I g vs xs
 | [], vs, h => by simp [nu] at h; subst h; exact ⟨[], rfl, trivial⟩
 | .tmp t :: l, vs, h => by
   simp only [nu] at h
   split at h
   · rename_i v vs' h1 h2
     simp at h; subst h
     obtain ⟨x, h3, h4⟩ := ht t v h1 (fun h => h)
     obtain ⟨xs, h5, h6⟩ := iV hm ht h2
     refine ⟨x :: xs, ?_, h4, h6⟩
     simp [List.mapM_cons, Vy, h5, Result.andThen, Array.getD_eq_getD_getElem?, h3]
   · cases h
 | .cell b t :: l, vs, h => by
   simp only [nu] at h
   split at h
   · rename_i bl r z k ag n vs' h1 h2 h3 h4
     split at h
     · rename_i v hl
       simp at h; subst h
       obtain ⟨x, h5, h6⟩ := ht b _ h1 (fun h => h)
       obtain ⟨m, p, h7, h8, h9, rfl⟩ := h6
       obtain ⟨xs, h10, h11⟩ := iV hm ht h4
       obtain ⟨y, h12, h13⟩ := Zl hm hl (fun q hq => by simp at hq) h7 h8 h9 h2 h3
       refine ⟨y :: xs, ?_, h13, h11⟩
       have h14 : (loadVar t ⟨p.blk, p.base + m.toNat * z + k, none⟩).run P w = .ok y w := by
         simpa [Instr.loadAt, Instr.sureAddr, Sem.run_bind, Result.andThen] using h12
       simp [List.mapM_cons, Sem.run_bind, Vy, h10, Result.andThen, Array.getD_eq_getD_getElem?, h5, asAddr, h14]
     · cases h
   · cases h
theorem oO {s : St} (hm : qM A I P g s.mem w) (ht : kM I g (fun _ => False) s.tmps a.tmps) {fn : Func} {vs : List AV} (h : nu P s fn.results.toList = some vs) :
   ∃ v, (results fn a.tmps).run P w = .ok v w ∧ Rel I g (single vs) v := by
 obtain ⟨xs, h1, h2⟩ := iV hm ht h
 have e : results fn a.tmps = (do let vs ← fn.results.mapM (Vy a.tmps); pure (if h : vs.size = 1 then vs[0] else .tuple vs)) := by
   unfold results
   rfl
 rw [e, Array.mapM_eq_mapM_toList]
 have hrun : (Functor.map List.toArray (List.mapM (Vy a.tmps) fn.results.toList)).run P w = .ok xs.toArray w := by
   rw [map_eq_pure_bind]
   simp [h1, Result.andThen]
 refine ⟨if h : xs.toArray.size = 1 then xs.toArray[0] else .tuple xs.toArray, ?_, ?_⟩
 · rw [Sem.run_bind, hrun]; simp [Result.andThen]
 · match vs, xs, h2 with
   | [], [], _ => simp [single, Rel, qd]
   | [v], [x], h2 => simpa [single, qd] using h2
   | v1 :: v2 :: vs, x1 :: x2 :: xs, h2 => simpa [single, Rel] using h2
   | [_], _ :: _ :: _, h2 => simp [qd] at h2
   | _ :: _ :: _, [_], h2 => simp [qd] at h2
theorem Zw : ∀ {l : List AV} {xs : List Value} {n t : Nat} {v : AV}, qd I g l xs → get (number n l) t = some v → ∃ x, n ≤ t ∧ xs[t - n]? = some x ∧ Rel I g v x
 | [], [], n, t, v, _, h => by simp [number, get_nil] at h
 | v0 :: l, x0 :: xs, n, t, v, hr, h => by
   simp only [number, qQ] at h
   split at h
   · rename_i he; subst he; simp at h; subst h
     exact ⟨x0, Nat.le_refl _, by simp, hr.1⟩
   · obtain ⟨x, h1, h2, h3⟩ := Zw hr.2 h
     refine ⟨x, by omega, ?_, h3⟩
     obtain ⟨k, rfl⟩ : ∃ k, t = n + 1 + k := ⟨t - (n + 1), by omega⟩
     rw [show n + 1 + k - n = (n + 1 + k - (n + 1)) + 1 by omega]
     simpa using h2
 | [], _ :: _, _, _, _, hr, _ => by simp [qd] at hr
 | _ :: _, [], _, _, _, hr, _ => by simp [qd] at hr
theorem KN {s : St} {nt : Nat} {args : List AV} {xs : List Value} (hm : qM A I P g s.mem w) (hnv : g.env.length = s.nv) (hnb : g.nb = s.nb) (ha : qd I g args xs) (hlen : args.length ≤ nt) :
   qO A I P (fun _ => False) g { s with tmps := number 0 args, nt := nt, defers := [] } { tmps := xs.toArray ++ Array.replicate (nt - xs.toArray.size) undef, defers := [] } w := by
 have hxs := ha.length
 refine ⟨hm, fun t v ht _ => ?_, ?_, trivial, hnv, hnb⟩
 · obtain ⟨x, _, h2, h3⟩ := Zw ha ht
   have hlt : t < xs.length := by
     rcases Nat.lt_or_ge t xs.length with h | h
     · exact h
     · rw [List.getElem?_eq_none (by simpa using h)] at h2; cases h2
   exact ⟨x, by simp [Array.getElem?_append, hlt]; simpa [List.getElem?_eq_getElem hlt] using h2, h3⟩
 · simp; omega
theorem mP {cx : Cx} {e : Eng} (hE : zL I cx e) (hG : GOk cx.kn.globs A) {n : Nat} {fn : Func} {tmps : Array Value} {R : Ending → World → Prop} {k : St → Tree} : ∀ {l : List DV} {ds : List Deferred} {g : G} {s : St} {w : World},
   xH I g l ds → qM A I cx.P g s.mem w → kM I g (fun _ => False) s.tmps tmps → g.env.length = s.nv → g.nb = s.nb → (shut cx e l s k).vc I g.env →
   (∀ g' s' w', g.Le g' → qM A I cx.P g' s'.mem w' → kM I g' (fun _ => False) s'.tmps tmps → g'.env.length = s'.nv → g'.nb = s'.nb → (k s').vc I g'.env → LeavesIn (FW none) n cx.P fn tmps R [] .returning w') →
   LeavesInM (FW none) n cx.P fn tmps R ds .returning w
 | [], [], g, s, w, _, hm, ht, hnv, hnb, h, hk => hk g s w (.refl _) hm ht hnv hnb h
 | .blk b :: l, d :: ds, g, s, w, ⟨⟨p, hp, hd⟩, hds⟩, hm, ht, hnv, hnb, h, hk => by
   simp only [shut] at h
   split at h
   · rename_i hg
     obtain ⟨p', hp', hh⟩ := hm.blk b _ hg
     rw [hp] at hp'; cases hp'
     refine ⟨by simp, .inl ⟨p.blk, _, by rw [hd], run_takeDeferred hh, ?_⟩⟩
     have hlt := hm.bnd b p hp
     exact mP hE hG (s := { s with mem := put b (.dfr false) s.mem }) hds (hm.write (y := .dfr false) hg rfl hp (by simp) (fun i hi => World.putObj_heap_other hi) ⟨p, hp, World.putObj_heap_same hlt⟩) ht hnv hnb h hk
   · exact h.elim
 | .fn f m cap :: l, d :: ds, g, s, w, ⟨⟨ms, cs, hd, hms, hcs⟩, hds⟩, hm, ht, hnv, hnb, h, hk => by
   simp only [shut] at h
   unfold U4 at h
   split at h
   rotate_left
   · exact h.elim
   rename_i fn' hf
   split at h
   rotate_left
   · exact h.elim
   rename_i c hb
   split at h
   · exact h.elim
   rename_i hname
   split at h
   rotate_left
   · exact h.elim
   rename_i hlen
   have ha : qd I g (m ++ cap) (ms.toList ++ cs.toList) := hms.append hcs
   have hco : COK cx.P f 0 c := fun i rf hi => by simp [QG, hf, hb, hi]
   have hs0 := KN hm hnv hnb ha hlen
   refine ⟨by simp, .inr ⟨fun h => by simp [FW, Fence.wide] at h, .func f, cs, f, ms ++ cs, by rw [hd], ?_, fun _ _ => trivial, ?_⟩⟩
   · rw [hd]
     have := yh (w := w) hf hb (by simpa using hname) (ms ++ cs)
     simpa [invoke] using this
   · have hargs : (ms.toList ++ cs.toList).toArray = ms ++ cs := by simp
     rw [hargs] at hs0
     refine (callsDIn_of_wp (R := fun e w' => ∃ v, e = .returned v ∧ LeavesInM (FW none) n cx.P fn tmps R ds .returning w') hf hb trivial ?_).mono fun e u' w' ⟨h1, v, h2, h3⟩ => by subst h1; subst h2; exact h3
     refine wpIn_mono (hE.exec hG (r := none) h hs0 trivial hco (n - 1)) fun ex a' w' hpost => ?_
     obtain ⟨x, g', s', rfl, hle, hs', hv⟩ := hpost
     have hall : x = .normal ∨ x = .ret → a'.defers = [] ∧ ∃ v, (results fn' a'.tmps).run cx.P w' = .ok v w' ∧ ∃ v', Ending.returned v = .returned v' ∧ LeavesInM (FW none) n cx.P fn tmps R ds .returning w' := by
       intro hx
       have hv' : (if s'.defers.isEmpty then match nu cx.P s' fn'.results.toList with
             | some _ => shut cx e l { s with mem := s'.mem, nv := s'.nv, nb := s'.nb } k
             | none => .fail 30
           else .fail 37).vc I g'.env := by
         rcases hx with rfl | rfl <;> exact hv
       split at hv'
       · rename_i hemp
         split at hv'
         · rename_i vs hvs
           obtain ⟨v, h4, _⟩ := oO hs'.m hs'.t hvs
           have hd0 : a'.defers = [] := by
             have := hs'.d
             rw [List.isEmpty_iff.1 hemp] at this
             cases hda : a'.defers with
             | nil => rfl
             | cons _ _ => rw [hda] at this; simp [xH] at this
           refine ⟨hd0, v, h4, v, rfl, ?_⟩
           exact mP hE hG (s := { s with mem := s'.mem, nv := s'.nv, nb := s'.nb }) (hds.le hle hm.wf) hs'.m (ht.le hle hm.wf) hs'.nv hs'.nb hv'
             fun g2 s2 w2 hle2 => hk g2 s2 w2 (hle.trans hle2)
         · exact hv'.elim
       · exact hv'.elim
     cases x with
     | normal => exact hall (.inl rfl)
     | ret => exact hall (.inr rfl)
     | exit id => exact hv.elim
     | goto l => exact hv.elim
 | [], _ :: _, _, _, _, hd, _, _, _, _, _, _ => by simp [xH] at hd
 | _ :: _, [], _, _, _, hd, _, _, _, _, _, _ => by simp [xH] at hd
theorem get_filter {p : Nat → Bool} : ∀ {M : Mem} {b : Nat} {y : Blk}, get (M.filter fun x => p x.1) b = some y → get M b = some y
 | [], b, y, h => by simp [get_nil] at h
 | (b0, x0) :: M, b, y, h => by
   simp only [List.filter_cons] at h
   simp only [qQ]
   by_cases he : b0 = b
   · subst he
     rw [if_pos rfl]
     split at h
     · simpa [qQ] using h
     · rename_i hp
       exfalso
       have hno : ∀ {M : Mem}, get (M.filter fun x => p x.1) b0 = none := by
         intro M
         induction M with
         | nil => rfl
         | cons q M ih =>
           obtain ⟨b1, x1⟩ := q
           simp only [List.filter_cons]
           split
           · rename_i h1
             simp only [qQ]
             rw [if_neg]
             · exact ih
             · rintro rfl; exact hp h1
           · exact ih
       rw [hno] at h; cases h
   · rw [if_neg he]
     split at h
     · simp only [qQ] at h; rw [if_neg he] at h; exact get_filter h
     · exact get_filter h
theorem qw8 {nb nb' : Nat} {v : AV} {M : Mem} {b : Nat} {y : Blk} (h : get (gc nb nb' v M) b = some y) : get M b = some y := by
 unfold gc at h
 split at h
 · exact h
 · exact get_filter (p := fun b => decide (b < nb) || (mark nb M 2000 (rW nb M (v.refs nb [])) []).contains b) h
theorem EO {nb : Nat} {s : St} {b : Nat} {y : Blk} (h : get (gcR nb s) b = some y) : get s.mem b = some y := by
 unfold gcR at h
 split at h
 · exact h
 · exact get_filter (p := fun b => decide (b < nb) || (mark nb s.mem 2000 (rW nb s.mem (Mx nb s.tmps (Mv nb s.defers []))) []).contains b) h
theorem RD : ∀ {cs : List Contract} {f : FuncId} {args : List AV} {s : St} {c : Contract}, UC cs f args s = some c → c ∈ cs ∧ c.fn = f := by
 intro cs f args s c h
 unfold UC at h
 exact ⟨List.mem_of_find?_eq_some h, by have := List.find?_some h; simp only [Bool.and_eq_true, beq_iff_eq] at this; exact this.1⟩
theorem bJ {cx : Cx} {e : Eng} (hE : zL I cx e) (hG : GOk cx.kn.globs A) (hC : ∀ c ∈ cx.cs, COk I cx.P cx.kn.globs c) {f : FuncId} {args : List AV} {s : St} {k : AV → St → Tree} {xs : List Value}
   (h : (G6 cx e f args s k).vc I g.env) (hs : qO A I cx.P X g s a w) (ha : qd I g args xs) :
   (∃ fn c, cx.P.funcs[f]? = some fn ∧ fn.body = some c ∧ (fn.name == "runtime.NumGoroutine") = false) ∧
     Calls cx.P f xs.toArray w fun e w' => ∃ v, e = .returned v ∧ uO A I cx.P X g a k v w' := by
 unfold G6 at h
 split at h
 · rename_i fn hf
   split at h
   · rename_i c hb
     split at h
     · exact h.elim
     rename_i hname
     refine ⟨⟨fn, c, hf, hb, by simpa using hname⟩, ?_⟩
     split at h
     · rename_i ct hct
       obtain ⟨h1, h2⟩ := RD hct
       subst h2
       exact XP hG (hC ct h1) h hs ha
     · split at h
       · rename_i hlen
         rw [← gQ (r := none) (n := 0)]
         refine callsIn_of_wp_marks hf hb trivial ?_
         have hs0 := KN hs.m hs.nv hs.nb ha hlen
         have hco : COK cx.P f 0 c := fun i rf hi => by simp [QG, hf, hb, hi]
         refine wpIn_mono (hE.exec hG (r := none) h hs0 trivial hco 0) fun ex a' w' hpost => ?_
         obtain ⟨x, g', s', rfl, hle, hs', hv⟩ := hpost
         have hall : x = .normal ∨ x = .ret → LeavesInM (FW none) 0 cx.P fn a'.tmps (fun e w' => ∃ v, e = .returned v ∧ uO A I cx.P X g a k v w') a'.defers .returning w' := by
           intro hx
           have hv' : (shut cx e s'.defers s' fun s'' => match nu cx.P s'' fn.results.toList with
               | some vs => k (single vs) { s with mem := gc s.nb s''.nb (single vs) s''.mem, nv := s''.nv, nb := s''.nb }
               | none => .fail 30).vc I g'.env := by
             rcases hx with rfl | rfl <;> exact hv
           refine mP hE hG hs'.d hs'.m hs'.t hs'.nv hs'.nb hv' fun g2 s2 w2 hle2 hm2 ht2 qbe qbK hv2 => ?_
           split at hv2
           · rename_i vs h2
             obtain ⟨v, h4, h5⟩ := oO hm2 ht2 h2
             have hle' := hle.trans hle2
             exact ⟨v, h4, v, rfl, single vs, g2, { s with mem := gc s.nb s2.nb (single vs) s2.mem, nv := s2.nv, nb := s2.nb }, hle', h5,
               ⟨hm2.sub fun b y hb => qw8 hb, hs.t.le hle' hs.m.wf, hs.nt, hs.d.le hle' hs.m.wf, qbe, qbK⟩, hv2⟩
           · exact hv2.elim
         cases x with
         | normal => exact hall (.inl rfl)
         | ret => exact hall (.inr rfl)
         | exit id => exact hv.elim
         | goto l => exact hv.elim
       · exact h.elim
   · exact h.elim
 · exact h.elim
theorem sG {nt : Nat} : ∀ {ps : List Nat} {args : List AV} {xs : List Value} {ts : qD} {arr : Array Value}, kM I g (fun _ => False) ts arr → arr.size = nt → qd I g args xs → ps.all (· < nt) = true →
   kM I g (fun _ => False) (yD ps args ts) ((ps.zip xs).foldl (fun tmps (t, a) => tmps.setIfInBounds t a) arr) ∧ ((ps.zip xs).foldl (fun tmps (t, a) => tmps.setIfInBounds t a) arr).size = nt
 | [], args, xs, ts, arr, ht, hn, _, _ => by simp [yD]; exact ⟨ht, hn⟩
 | p :: ps, [], [], ts, arr, ht, hn, _, _ => by simp [yD]; exact ⟨ht, hn⟩
 | p :: ps, v :: args, x :: xs, ts, arr, ht, hn, hr, hp => by
   simp only [List.all_cons, Bool.and_eq_true, decide_eq_true_eq] at hp
   simp only [yD, List.zip_cons_cons, List.foldl_cons]
   refine sG (fun t u hu _ => ?_) (by simpa using hn) hr.2 hp.2
   rw [xZ] at hu
   by_cases htp : p = t
   · subst htp
     rw [if_pos rfl] at hu; simp at hu; subst hu
     exact ⟨x, by simp [hn, hp.1], hr.1⟩
   · rw [if_neg htp] at hu
     obtain ⟨y, h1, h2⟩ := ht t u hu (fun h => h)
     exact ⟨y, by simp [Array.getElem?_setIfInBounds_ne htp, h1], h2⟩
 | _ :: _, [], _ :: _, _, _, _, _, hr, _ => by simp [qd] at hr
 | _ :: _, _ :: _, [], _, _, _, _, hr, _ => by simp [qd] at hr
theorem Vg : ∀ {c : Code} {i j : Nat} {rf x : RF}, (rfs c)[i]? = some rf → (rfs rf.assign ++ rfs rf.body)[j]? = some x → (rfs c)[i + 1 + j]? = some x := by
 have happ : ∀ {l m : List RF} {i j : Nat} {rf x : RF}, (∀ {i j : Nat} {rf x : RF}, l[i]? = some rf → (rfs rf.assign ++ rfs rf.body)[j]? = some x → l[i + 1 + j]? = some x) →
     (∀ {i j : Nat} {rf x : RF}, m[i]? = some rf → (rfs rf.assign ++ rfs rf.body)[j]? = some x → m[i + 1 + j]? = some x) →
     (l ++ m)[i]? = some rf → (rfs rf.assign ++ rfs rf.body)[j]? = some x → (l ++ m)[i + 1 + j]? = some x := by
   intro l m i j rf x hl hm h1 h2
   rcases Nat.lt_or_ge i l.length with hi | hi
   · rw [List.getElem?_append_left hi] at h1
     have h3 := hl h1 h2
     have hlt : i + 1 + j < l.length := by
       rcases Nat.lt_or_ge (i + 1 + j) l.length with h | h
       · exact h
       · rw [List.getElem?_eq_none (by simpa using h)] at h3; cases h3
     rw [List.getElem?_append_left hlt]; exact h3
   · rw [List.getElem?_append_right hi] at h1
     have h3 := hm h1 h2
     rw [List.getElem?_append_right (by omega), show i + 1 + j - l.length = i - l.length + 1 + j by omega]
     exact h3
 intro c
 induction c with
 | seq a b iha ihb => intro i j rf x h1 h2; simp only [rfs] at h1 ⊢; exact happ iha ihb h1 h2
 | cond o a b iha ihb => intro i j rf x h1 h2; simp only [rfs] at h1 ⊢; exact happ iha ihb h1 h2
 | block id b ih => intro i j rf x h1 h2; simp only [rfs] at h1 ⊢; exact ih h1 h2
 | loop b ih => intro i j rf x h1 h2; simp only [rfs] at h1 ⊢; exact ih h1 h2
 | scope b ih => intro i j rf x h1 h2; simp only [rfs] at h1 ⊢; exact ih h1 h2
 | rangeFunc f ps a b iha ihb =>
   intro i j rf x h1 h2
   simp only [rfs] at h1 ⊢
   cases i with
   | zero =>
     simp at h1; subst h1
     rw [show 0 + 1 + j = j + 1 by omega, List.getElem?_cons_succ]; exact h2
   | succ i =>
     rw [List.getElem?_cons_succ] at h1
     rw [show i + 1 + 1 + j = (i + 1 + j) + 1 by omega, List.getElem?_cons_succ]
     exact happ iha ihb h1 h2
 | _ => intro i j rf x h1 h2; simp [rfs] at h1
theorem COK.qx9 {fn ix : Nat} {rf : RF} (h : QG P fn ix = some rf) : COK P fn (ix + 1) rf.assign ∧ COK P fn (ix + 1 + (rfs rf.assign).length) rf.body := by
 unfold QG at h
 split at h
 · rename_i f hf
   split at h
   · rename_i c hb
     refine ⟨fun i x hi => ?_, fun i x hi => ?_⟩
     · have := Vg (j := i) h (x := x) (by
         rw [List.getElem?_append_left]
         · exact hi
         · rcases Nat.lt_or_ge i (rfs rf.assign).length with h | h
           · exact h
           · rw [List.getElem?_eq_none (by simpa using h)] at hi; cases hi)
       simp [QG, hf, hb, this]
     · have := Vg (j := (rfs rf.assign).length + i) h (x := x) (by
         rw [List.getElem?_append_right (by omega)]
         simpa using hi)
       rw [← Nat.add_assoc] at this
       simp [QG, hf, hb, this]
   · cases h
 · cases h
theorem XI {cx : Cx} {e : Eng} (hE : zL I cx e) (hG : GOk cx.kn.globs A) {b : Nat} {p : PB} {args : List AV} {s : St} {k : AV → St → Tree} {xs : List Value} {r : Option Nat} {n : Nat}
   (h : (yield cx e b args s k).vc I g.env) (hs : qO A I cx.P X g s a w) (hp : g.φ b = some p) (ha : qd I g args xs) :
   Jg r n cx.P (.func (.yield p.blk) #[] #[]) xs w (uO A I cx.P X g a k) := by
 unfold yield at h
 split at h
 rotate_left
 · exact h.elim
 rename_i pend fn ix nt ts dd hg
 split at h
 rotate_left
 · exact h.elim
 rename_i rf hrf
 split at h
 rotate_left
 · exact h.elim
 rename_i hcond
 obtain ⟨hlen, hps⟩ := hcond
 obtain ⟨p', q, rl, rf', hp', hq, hh, qvF, hst, hpend, hpar, has, hbo, hdef, hsz, htr⟩ := hs.m.blk b _ hg
 rw [hp] at hp'; cases hp'
 rw [hrf] at qvF; cases qvF
 have hxs := ha.length
 have hyr := run_yield (P := cx.P) (args := xs.toArray) hh (by
   have : rl.params.size = rf.params.length := by rw [← hpar]; simp
   simp; omega)
 refine ⟨_, w, ?_, .inr ⟨p.blk, rl.fn, (rl.params.zip xs.toArray).foldl (fun tmps (t, a) => tmps.setIfInBounds t a) rl.tmps, rl.assign, rl.body, rfl, ?_⟩⟩
 · have e : (do let d ← Deferred.ofValue (.func (.yield p.blk) #[] #[]) xs.toArray; invoke d.target d.args : Sem Next).run cx.P w = (Instr.yield p.blk xs.toArray).run cx.P w := by
     simp [Deferred.ofValue, invoke]
   rw [e]; exact hyr
 refine roundIn_of_wpIn (F := FW r) trivial ?_
 rw [show (FW r).inRound p.blk = FW (some p.blk) from rfl]
 obtain ⟨hca, hcb⟩ := COK.qx9 hrf
 have qzg := sG (nt := nt) htr hsz ha hps
 have qzf : (rl.params.zip xs.toArray).foldl (fun tmps (t, a) => tmps.setIfInBounds t a) rl.tmps = (rf.params.zip xs).foldl (fun tmps (t, a) => tmps.setIfInBounds t a) rl.tmps := by
   rw [← hpar, ← Array.foldl_toList]
   simp
 rw [has, hbo]
 have hs0 : qO A I cx.P (fun _ => False) g { s with tmps := yD rf.params args ts, nt := nt, defers := [] }
     { tmps := (rl.params.zip xs.toArray).foldl (fun tmps (t, a) => tmps.setIfInBounds t a) rl.tmps, defers := [] } w :=
   ⟨hs.m, by rw [qzf]; exact qzg.1, by rw [qzf]; exact qzg.2, trivial, hs.nv, hs.nb⟩
 refine wpIn_mono (hE.exec hG (r := some p.blk) h hs0 ⟨p, hp, rfl⟩ hca n) fun ex a1 w1 hpost => ?_
 obtain ⟨x, g1, s1, rfl, hle1, hs1, hv1⟩ := hpost
 have hp1 := hle1.some hs.m.wf hp
 cases x with
 | ret => exact hv1.elim
 | exit id => exact hv1.elim
 | goto l => exact hv1.elim
 | normal =>
   dsimp only at hv1
   split at hv1
   rotate_left
   · exact hv1.elim
   rename_i Mi fn1 ix1 nt1 ts1 d1 hx1 hg1
   split at hv1
   rotate_left
   · exact hv1.elim
   rename_i hfi
   obtain ⟨rfl, rfl⟩ := hfi
   obtain ⟨p', q1, rl1, rf1, hp', hq1, hh1, qbu, qbt, qwO, qvP, qbP, qbF, qvA, hsz1, qbs⟩ := hs1.m.blk b _ hg1
   rw [hp1] at hp'; cases hp'
   refine ⟨_, run_beginRound hh1 qbt, ?_⟩
   have hlt1 := hs1.m.bnd b p hp1
   have hm2 : qM A I cx.P g1 (put b (.loop .busy Mi fn1 ix1 nt1 ts1 d1) s1.mem) (w1.putObj p.blk (.loop { rl1 with state := .busy })) :=
     hs1.m.write hg1 rfl hp1 (by simp) (fun i hi => World.putObj_heap_other hi) ⟨p, q1, _, rf1, hp1, hq1, World.putObj_heap_same hlt1, qbu, rfl, qwO, qvP, qbP, qbF, qvA, hsz1, qbs⟩
   have hs2 : qO A I cx.P (fun _ => False) g1 { s1 with mem := put b (.loop .busy Mi fn1 ix1 nt1 ts1 d1) s1.mem } a1 (w1.putObj p.blk (.loop { rl1 with state := .busy })) :=
     ⟨hm2, hs1.t, hs1.nt, hs1.d, hs1.nv, hs1.nb⟩
   refine wpIn_mono (hE.exec hG (r := some p.blk) hv1 hs2 ⟨p, hp1, rfl⟩ hcb n) fun ex a2 w2 qwI => ?_
   obtain ⟨y, g2, s2, rfl, hle2, hs3, hv2⟩ := qwI
   have hp2 := hle2.some hs1.m.wf hp1
   dsimp only at hv2
   split at hv2
   rotate_left
   · exact hv2.elim
   rename_i st2 pend2 fn2 ix2 nt2 ts2 d2 hg2
   obtain ⟨p', q2, rl2, rf2, hp', hq2, hh2, qbl, hst2, hpend2, qvN, qbN, qbD, qvO, hsz2, qbr⟩ := hs3.m.blk b _ hg2
   rw [hp2] at hp'; cases hp'
   have hlt2 := hs3.m.bnd b p hp2
   have fin : ∀ (j : Option Jump),
       (k (.bool (.lit (if j.isNone then 1 else 0))) { s with mem := put b (.loop (if j.isNone then .ready else .done) j fn2 ix2 nt2 ts2 d2) s2.mem, nv := s2.nv, nb := s2.nb }).vc I g2.env →
       ∃ v w', (Instr.endRound p.blk (j.map Jump.code)).run cx.P w2 = .ok v w' ∧ ∃ v', Ending.returned v = .returned v' ∧ uO A I cx.P X g a k v' w' := by
     intro j hj
     refine ⟨_, _, run_endRound (j.map Jump.code) hh2, _, rfl, .bool (.lit (if j.isNone then 1 else 0)), g2, { s with mem := put b (.loop (if j.isNone then .ready else .done) j fn2 ix2 nt2 ts2 d2) s2.mem, nv := s2.nv, nb := s2.nb }, hle1.trans hle2, ?_, ⟨?_, hs.t.le (hle1.trans hle2) hs.m.wf, hs.nt, hs.d.le (hle1.trans hle2) hs.m.wf, hs3.nv, hs3.nb⟩, hj⟩
     · refine ⟨_, rfl, ?_⟩
       cases j <;> rfl
     · refine hs3.m.write hg2 rfl hp2 (by simp) (fun i hi => World.putObj_heap_other hi) ⟨p, q2, _, rf2, hp2, hq2, World.putObj_heap_same hlt2, qbl, ?_, rfl, qvN, qbN, qbD, qvO, hsz2, qbr⟩
       cases j <;> rfl
   cases y with
   | normal => exact fin none hv2
   | ret => exact fin (some .ret) hv2
   | exit id => exact fin (some (.exit id)) hv2
   | goto l => exact fin (some (.goto l)) hv2
theorem G5 {cx : Cx} {e : Eng} (hE : zL I cx e) (hG : GOk cx.kn.globs A) (hC : ∀ c ∈ cx.cs, COk I cx.P cx.kn.globs c) {f : AV} {args : List AV} {s : St} {k : AV → St → Tree} {x : Value} {xs : List Value} {r : Option Nat}
   (h : (oJ cx e f args s k).vc I g.env) (hs : qO A I cx.P X g s a w) (hf : Rel I g f x) (ha : qd I g args xs) (n : Nat) :
   Jg r n cx.P x xs w (uO A I cx.P X g a k) := by
 unfold oJ at h
 split at h
 · rename_i f' cap
   obtain ⟨cs, rfl, hcap⟩ := hf
   obtain ⟨⟨fn, c, h1, h2, h3⟩, h4⟩ := bJ hE hG hC h hs (ha.append hcap)
   refine ⟨.enter f' (xs.toArray ++ cs), w, ?_, .inl ⟨f', _, rfl, ?_⟩⟩
   · have := yh (w := w) h1 h2 h3 (xs.toArray ++ cs)
     simpa [Deferred.ofValue, invoke, Sem.run_bind, Result.andThen] using this
   · rw [gQ]
     have e : (xs ++ cs.toList).toArray = xs.toArray ++ cs := by simp
     rw [← e]; exact h4
 · rename_i f' m cap
   obtain ⟨ms, cs, rfl, hm, hcap⟩ := hf
   obtain ⟨⟨fn, c, h1, h2, h3⟩, h4⟩ := bJ hE hG hC h hs ((hm.append ha).append hcap)
   refine ⟨.enter f' (ms ++ xs.toArray ++ cs), w, ?_, .inl ⟨f', _, rfl, ?_⟩⟩
   · have := yh (w := w) h1 h2 h3 (ms ++ xs.toArray ++ cs)
     simpa [Deferred.ofValue, invoke, Sem.run_bind, Result.andThen] using this
   · rw [gQ]
     have e : (ms.toList ++ xs ++ cs.toList).toArray = ms ++ xs.toArray ++ cs := by simp
     rw [← e]; exact h4
 · rename_i b
   obtain ⟨p, hp, rfl⟩ := hf
   exact XI hE hG h hs hp ha
 · exact h.elim
end Go.Sx
end
noncomputable section
namespace Go.Sx
open Go
structure G.Ext (g g' : G) : Prop where
 env : ∃ xs, g'.env = g.env ++ xs
 some : ∀ {b : Nat} {p : PB}, g.φ b = some p → g'.φ b = some p
theorem E.jg {I : Itp} {g g' : G} (h : g.Ext g') {e : E} {d : D} (he : e.den I g.env = some d) : e.den I g'.env = some d := by
 obtain ⟨⟨xs, hx⟩, _⟩ := h
 rw [hx]; exact E.zV he
theorem G.Le.ext {g g' : G} (h : g.Le g') (hw : g.wf) : g.Ext g' := ⟨h.env, fun hb => h.some hw hb⟩
mutual
theorem Rel.ext {I : Itp} {g g' : G} (h : g.Ext g') : ∀ {v : AV} {x : Value}, Rel I g v x → Rel I g' v x := by
 intro v x hv
 match v with
 | .any => trivial
 | .undef => simpa [Rel] using hv
 | .bool e => simp only [Rel] at hv ⊢; obtain ⟨n, h1, h2⟩ := hv; exact ⟨n, E.jg h h1, h2⟩
 | .int k e => simp only [Rel] at hv ⊢; obtain ⟨n, h1, h2⟩ := hv; exact ⟨n, E.jg h h1, h2⟩
 | .wF => simpa [Rel] using hv
 | .ptr b r s k =>
   simp only [Rel] at hv ⊢
   obtain ⟨n, p, h1, h2, h3, h4⟩ := hv
   exact ⟨n, p, E.jg h h1, h2, h.some h3, h4⟩
 | .qz => simpa [Rel] using hv
 | .slice b lo len s nl =>
   simp only [Rel] at hv ⊢
   obtain ⟨l, n, h1, h2, h3, h4, h5⟩ := hv
   refine ⟨l, n, E.jg h h1, E.jg h h2, h3, h4, ?_⟩
   rcases h5 with ⟨p, cap, h5, h6⟩ | h5
   · exact .inl ⟨p, cap, h.some h5, h6⟩
   · exact .inr h5
 | .func f cap => simp only [Rel] at hv ⊢; obtain ⟨cs, h1, h2⟩ := hv; exact ⟨cs, h1, qd.ext h h2⟩
 | .yld b => simp only [Rel] at hv ⊢; obtain ⟨p, h1, h2⟩ := hv; exact ⟨p, h.some h1, h2⟩
 | .jM => simpa [Rel] using hv
 | .agg l => simp only [Rel] at hv ⊢; obtain ⟨cs, h1, h2⟩ := hv; exact ⟨cs, h1, qd.ext h h2⟩
 | .tup l => simp only [Rel] at hv ⊢; obtain ⟨cs, h1, h2⟩ := hv; exact ⟨cs, h1, qd.ext h h2⟩
 | .big l ks t n m =>
   simp only [Rel] at hv ⊢
   obtain ⟨f, xs, ys, zs, h1, h2, h3, h4, h5⟩ := hv
   exact ⟨f, xs, ys, zs, E.jg h h1, h2, qd.ext h h3, qd.ext h h4, h5⟩
 | .cap0 => simpa [Rel] using hv
 | .empty => simpa [Rel] using hv
 | .asl b k n s => simp only [Rel] at hv ⊢; obtain ⟨p, cap, h1, h2⟩ := hv; exact ⟨p, cap, h.some h1, h2⟩
 | .wZ f m cap => simp only [Rel] at hv ⊢; obtain ⟨ms, cs, h1, h2, h3⟩ := hv; exact ⟨ms, cs, h1, qd.ext h h2, qd.ext h h3⟩
 | .gG v k => simpa [Rel] using hv
 | .str l => simpa [Rel] using hv
 | .kK t n => simp only [Rel] at hv ⊢; obtain ⟨f, k, s, h1, h2, h3⟩ := hv; exact ⟨f, k, s, E.jg h h1, E.jg h h2, h3⟩
 | .fC => simpa [Rel] using hv
 | .mref b => simp only [Rel] at hv ⊢; obtain ⟨p, h1, h2⟩ := hv; exact ⟨p, h.some h1, h2⟩
 | .xV => simpa [Rel] using hv
 | .yV => simpa [Rel] using hv
 | .sat e => simp only [Rel] at hv ⊢; obtain ⟨n, h1, h2⟩ := hv; exact ⟨n, E.jg h h1, h2⟩
 | .ifo e => simp only [Rel] at hv ⊢; obtain ⟨n, h1, h2⟩ := hv; exact ⟨n, E.jg h h1, h2⟩
theorem qd.ext {I : Itp} {g g' : G} (h : g.Ext g') : ∀ {l : List AV} {xs : List Value}, qd I g l xs → qd I g' l xs := by
 intro l xs hl
 match l, xs with
 | [], [] => trivial
 | a :: l, x :: xs => simp only [qd] at hl ⊢; exact ⟨Rel.ext h hl.1, qd.ext h hl.2⟩
 | [], _ :: _ => simp [qd] at hl
 | _ :: _, [] => simp [qd] at hl
end
theorem kM.ext {I : Itp} {g g' : G} {X : Nat → Prop} (h : g.Ext g') {ts : qD} {a : Array Value} (ht : kM I g X ts a) : kM I g' X ts a :=
 fun t v h1 h2 => let ⟨x, h3, h4⟩ := ht t v h1 h2; ⟨x, h3, h4.ext h⟩
theorem jU.ext {I : Itp} {P : Program} {g g' : G} {b : Nat} {H : Nat → Option Obj} (h : g.Ext g') (hb : g'.φ b = g.φ b) : ∀ {x : Blk}, jU I P g b H x → jU I P g' b H x
 | .cells l wr, hx => by
   obtain ⟨p, c, T, fr, h1, h2, h3, h4⟩ := hx
   exact ⟨p, c, T, fr, h.some h1, h2, fun i v hv => let ⟨x, a, b⟩ := h3 i v hv; ⟨x, a, b.ext h⟩, h4⟩
 | .rows ks t len wr nl, hx => by
   obtain ⟨f, n, h1, h2, h3, h4⟩ := hx
   refine ⟨f, n, E.jg h h1, E.jg h h2, h3, ?_⟩
   rcases h4 with ⟨p, c, T, fr, h5, h6⟩ | ⟨h5, h6, h7⟩
   · exact .inl ⟨p, c, T, fr, h.some h5, h6⟩
   · exact .inr ⟨h5, h6, by rw [hb]; exact h7⟩
 | .big l ks t n m wr, hx => by
   obtain ⟨p, c, T, fr, f, h1, h2, h3, h4, h5, h6, h7⟩ := hx
   exact ⟨p, c, T, fr, f, h.some h1, h2, E.jg h h3, fun i v hv => let ⟨x, a, b⟩ := h4 i v hv; ⟨x, a, b.ext h⟩, h5, fun i v hv => let ⟨x, a, b⟩ := h6 i v hv; ⟨x, a, b.ext h⟩, h7⟩
 | .loop st pend fn ix nt ts d, hx => by
   obtain ⟨p, q, r, rf, h1, h2, h3, h4, h5, h6, h8, h9, h10, h11, h12, h13⟩ := hx
   exact ⟨p, q, r, rf, h.some h1, h.some h2, h3, h4, h5, h6, h8, h9, h10, h11, h12, h13.ext h⟩
 | .dfr sh, hx => by
   obtain ⟨p, h1, h2⟩ := hx
   exact ⟨p, h.some h1, h2⟩
 | .mp l m, hx => by
   obtain ⟨p, es, c, h1, h2, h3, h4⟩ := hx
   exact ⟨p, es, c, h.some h1, h2, h3.ext h, h4.ext h⟩
 | .smp w one ks t n, hx => by
   obtain ⟨p, es, c, f, h1, h2, h3, h4, h5⟩ := hx
   exact ⟨p, es, c, f, h.some h1, h2, E.jg h h3, E.jg h h4, h5⟩
 | .iter e q k, hx => by
   obtain ⟨p, n, m, h1, h2, h3, h4, h5⟩ := hx
   exact ⟨p, n, m, h.some h1, h2, E.jg h h3, E.jg h h4, h5⟩
theorem uI.ext {I : Itp} {g g' : G} (h : g.Ext g') : ∀ {d : DV} {x : Deferred}, uI I g d x → uI I g' d x
 | .blk _, _, ⟨p, h1, h2⟩ => ⟨p, h.some h1, h2⟩
 | .fn _ _ _, _, ⟨ms, cs, h1, h2, h3⟩ => ⟨ms, cs, h1, h2.ext h, h3.ext h⟩
theorem xH.ext {I : Itp} {g g' : G} (h : g.Ext g') : ∀ {l : List DV} {xs : List Deferred}, xH I g l xs → xH I g' l xs
 | [], [], _ => trivial
 | _ :: _, _ :: _, ⟨h1, h3⟩ => ⟨h1.ext h, xH.ext h h3⟩
 | [], _ :: _, h => by simp [xH] at h
 | _ :: _, [], h => by simp [xH] at h
def G.place (g : G) (b : Nat) (p : PB) : G := { g with φ := fun c => if c = b then some p else g.φ c }
theorem G.bO {g : G} {b : Nat} {p : PB} (h : g.φ b = none) : g.Ext (g.place b p) := ⟨⟨[], by simp [G.place]⟩, fun {c q} hc => by
 simp only [G.place]
 split
 · rename_i e; subst e; rw [h] at hc; cases hc
 · exact hc⟩
variable {A : Amb} {I : Itp} {P : Program} {g : G} {X : Nat → Prop} {ts : qD} {a : Act} {M : Mem} {w : World}
theorem qM.place {b : Nat} {o : Obj} {x : Blk} {p : PB} (h : qM A I P g M w) (hb : b < g.nb) (hφ : g.φ b = none) (hn : get M b = none) (hp : p.blk = w.heap.size)
   (hx : jU I P (g.place b p) b (fun i => (w.alloc o).heap[i]?) x) : qM A I P (g.place b p) ((b, x) :: M) (w.alloc o) := by
 have hext := G.bO (p := p) hφ
 have hold : ∀ c q, c ≠ b → (g.place b p).φ c = some q → g.φ c = some q := fun c q hc hq => by simpa [G.place, hc] using hq
 have hnew : ∀ q, (g.place b p).φ b = some q → q = p := fun q hq => by simpa [G.place] using hq.symm
 have hkeep : ∀ i, i < w.heap.size → (w.alloc o).heap[i]? = w.heap[i]? := fun i hi => by
   show (w.heap.push o)[i]? = _
   rw [Array.getElem?_push, if_neg (by omega)]
 have hcase : ∀ c y, get ((b, x) :: M) c = some y → (c = b ∧ y = x) ∨ (c ≠ b ∧ get M c = some y) := fun c y hc => by
   simp only [qQ] at hc
   split at hc
   · rename_i e; left; exact ⟨e.symm, by cases hc; rfl⟩
   · rename_i e; right; exact ⟨fun e' => e e'.symm, hc⟩
 refine ⟨fun c hc => ?_, fun c y hc => ?_, fun c y hc => ?_, fun c d y z q r hc hd hwy hq hr e => ?_, fun c q hc => ?_, fun c y q hc hy hq => ?_, ?_, fun i hi hX => ?_, h.same⟩
 · simp only [G.place] at hc ⊢
   rw [if_neg (by omega)]; exact h.wf c hc
 · rcases hcase c y hc with ⟨rfl, rfl⟩ | ⟨hne, hc⟩
   · exact hx
   · have := (jU.ext hext (b := c) (by simp [G.place, hne]) (h.blk c y hc))
     exact this.heap fun q hq => hkeep _ (h.bnd c q (hold c q hne hq))
 · rcases hcase c y hc with ⟨rfl, rfl⟩ | ⟨_, hc⟩
   · exact hb
   · exact h.lt c y hc
 · rcases hcase c y hc with ⟨rfl, rfl⟩ | ⟨hnc, hc⟩ <;> rcases hcase d z hd with ⟨rfl, rfl⟩ | ⟨hnd, hd⟩
   · rfl
   · have := hnew q hq; subst this
     have := h.bnd d r (hold d r hnd hr)
     omega
   · have := hnew r hr; subst this
     have := h.bnd c q (hold c q hnc hq)
     omega
   · exact h.inj c d y z q r hc hd hwy (hold c q hnc hq) (hold d r hnd hr) e
 · have hs : (w.alloc o).heap.size = w.heap.size + 1 := by simp
   rw [hs]
   by_cases hcb : c = b
   · subst hcb; rw [hnew q hc]; omega
   · have := h.bnd c q (hold c q hcb hc); omega
 · rcases hcase c y hc with ⟨rfl, rfl⟩ | ⟨hne, hc⟩
   · right; rw [hnew q hq, hp]; exact h.size
   · exact h.own c y q hc hy (hold c q hne hq)
 · have hs : (w.alloc o).heap.size = w.heap.size + 1 := by simp
   rw [hs]; have := h.size; omega
 · have := h.size
   rw [hkeep i (by omega)]; exact h.keep i hi hX
def K4 (M : Mem) (g : G) (w : World) : Amb := { w0 := w, X := fun i => ∃ b x p, get M b = some x ∧ x.wr = true ∧ g.φ b = some p ∧ p.blk = i }
theorem qM.part {M H : Mem} (h : qM A I P g (M ++ H) w) : qM (K4 M g w) I P g M w := by
 have hs : ∀ b y, get M b = some y → get (M ++ H) b = some y := fun b y hb => by rw [zB, hb]
 have h' := h.sub hs
 exact ⟨h'.wf, h'.blk, h'.lt, h'.inj, h'.bnd, fun b x p hx hw hp => .inl ⟨b, x, p, hx, hw, hp, rfl⟩, Nat.le_refl _, fun _ _ _ => rfl, rfl, rfl⟩
theorem GOk.part {gl : List Glob} {M H : Mem} (hG : GOk gl A) (h : qM A I P g (M ++ H) w) : GOk gl (K4 M g w) := fun x hx => by
 obtain ⟨h1, h2, cs, T, fr, h3, h4⟩ := hG x hx
 refine ⟨Nat.lt_of_lt_of_le h1 h.size, ?_, cs, T, fr, by rw [← h3]; exact h.keep _ h1 h2, h4⟩
 rintro ⟨b, y, p, h5, h6, h7, h8⟩
 rcases h.own b y p (by rw [zB, h5]) h6 h7 with h12 | h12
 · rw [h8] at h12; exact h2 h12
 · omega
theorem qM.frame {M H M' : Mem} {g' : G} {w' : World} (h : qM A I P g (M ++ H) w) (hd : ∀ b y, get H b = some y → get M b = none) (hle : g.Le g')
   (hm : qM (K4 M g w) I P g' M' w') (hk : Y9 g.nb M M' = true) : qM A I P g' (M' ++ H) w' := by
 have hM : ∀ {b : Nat} {y : Blk}, get M b = some y → get (M ++ H) b = some y := fun hb => by rw [zB, hb]
 have hH : ∀ {b : Nat} {y : Blk}, get H b = some y → get (M ++ H) b = some y := fun {b y} hb => by rw [zB, hd b y hb]; exact hb
 have hcase : ∀ {b : Nat} {y : Blk}, get (M' ++ H) b = some y → get M' b = some y ∨ get H b = some y := fun {b y} hb => by
   rw [zB] at hb
   split at hb
   · rename_i z hz; cases hb; exact .inl hz
   · exact .inr hb
 have hkey : ∀ {c : Nat} {y : Blk}, get M' c = some y → (c < g.nb ∧ ∃ x, get M c = some x) ∨ (g.nb ≤ c ∧ y.wr = true) := fun {c y} hc => by
   have := List.all_eq_true.1 (ZK hk) _ (gT hc).2
   simp only at this
   split at this
   · rename_i hlt; exact .inl ⟨hlt, Option.isSome_iff_exists.1 this⟩
   · rename_i hlt; exact .inr ⟨by omega, this⟩
 have hX : ∀ {i : Nat}, (K4 M g w).X i → A.X i ∨ A.w0.heap.size ≤ i := fun {i} ⟨b, x, p, h1, h2, h3, h4⟩ => by
   rw [← h4]; exact h.own b x p (hM h1) h2 h3
 have hφ : ∀ {b : Nat} {y : Blk} {p : PB}, get H b = some y → g'.φ b = some p → g.φ b = some p := fun {b y p} hb hp => by
   rw [← hle.φ b (h.lt b y (hH hb))]; exact hp
 -- a block of H is apart from what may be written
 have hap : ∀ {b : Nat} {y : Blk} {p : PB}, get H b = some y → g.φ b = some p → ¬ (K4 M g w).X p.blk := by
   rintro b y p hb hp ⟨c, x, q, h1, hwx, h3, h4⟩
   have := h.inj c b x y q p (hM h1) (hH hb) hwx h3 hp h4
   subst this
   rw [hd c y hb] at h1; cases h1
 have UY : ∀ {b c : Nat} {y z : Blk} {p q : PB}, get H b = some y → get M' c = some z → (y.wr = true ∨ z.wr = true) → g'.φ b = some p → g'.φ c = some q → p.blk = q.blk → b = c := by
   intro b c y z p q hb hc hwz hp hq e
   have hp' := hφ hb hp
   have hz : (∃ x, get M c = some x ∧ y.wr = true ∧ g.φ c = some q) ∨ z.wr = true := by
     rcases hkey hc with ⟨h1, x, h2⟩ | ⟨_, h2⟩
     · rcases hwz with h3 | h3
       · exact .inl ⟨x, h2, h3, by rw [← hle.φ c h1]; exact hq⟩
       · exact .inr h3
     · exact .inr h2
   rcases hz with ⟨x, h2, h3, hq'⟩ | h2
   · exact h.inj b c y x p q (hH hb) (hM h2) h3 hp' hq' e
   · rcases hm.own c z q hc h2 hq with h3 | h3
     · rw [← e] at h3; exact absurd h3 (hap hb hp')
     · have h4 := h.bnd b p hp'
       have h5 : w.heap.size ≤ q.blk := h3
       omega
 refine ⟨hm.wf, fun b y hb => ?_, fun b y hb => ?_, fun b c y z p q hb hc hwy hp hq e => ?_, hm.bnd, fun b y p hb hw hp => ?_, Nat.le_trans h.size hm.size, fun i hi hXi => ?_, hm.same.1.trans h.same.1, hm.same.2.trans h.same.2⟩
 · rcases hcase hb with hb | hb
   · exact hm.blk b y hb
   · have hlt := h.lt b y (hH hb)
     exact ((h.blk b y (hH hb)).le hle h.wf hlt).heap fun p hp => hm.keep p.blk (h.bnd b p (hφ hb hp)) (hap hb (hφ hb hp))
 · rcases hcase hb with hb | hb
   · exact hm.lt b y hb
   · exact Nat.lt_of_lt_of_le (h.lt b y (hH hb)) hle.nb
 · rcases hcase hb with hb | hb <;> rcases hcase hc with hc | hc
   · exact hm.inj b c y z p q hb hc hwy hp hq e
   · exact (UY hc hb (.inr hwy) hq hp e.symm).symm
   · exact UY hb hc (.inl hwy) hp hq e
   · exact h.inj b c y z p q (hH hb) (hH hc) hwy (hφ hb hp) (hφ hc hq) e
 · rcases hcase hb with hb | hb
   · rcases hm.own b y p hb hw hp with h1 | h1
     · exact hX h1
     · exact .inr (Nat.le_trans h.size h1)
   · exact h.own b y p (hH hb) hw (hφ hb hp)
 · have h1 : w'.heap[i]? = w.heap[i]? := hm.keep i (Nat.lt_of_lt_of_le hi h.size) fun hx => by
     rcases hX hx with h2 | h2
     · exact hXi h2
     · omega
   rw [h1]; exact h.keep i hi hXi
end Go.Sx
noncomputable section
namespace Go.Sx
open Go
variable {A : Amb} {I : Itp} {P : Program} {g : G} {X : Nat → Prop} {ts : qD} {a : Act} {M : Mem} {w : World} {ops : Array Oper} {kn : Kn}
theorem tC {acc : List Nat} {j : Nat} : ∀ {l : List Edge}, (tL acc l).testBit j = true → ∃ e ∈ l, Region.binds .any e = true ∧ (e.on = j ∨ ((acc[e.on]?).getD 0).testBit j = true)
 | [], h => by simp [tL] at h
 | e :: l, h => by
   simp only [tL] at h
   split at h
   · rename_i hb
     simp only [Nat.testBit_or, Bool.or_eq_true] at h
     rcases h with h | h | h
     · rw [Nat.one_shiftLeft, Nat.testBit_two_pow] at h
       exact ⟨e, by simp, hb, .inl (by simpa using h)⟩
     · exact ⟨e, by simp, hb, .inr h⟩
     · obtain ⟨e', h1, h2⟩ := tC h
       exact ⟨e', by simp [h1], h2⟩
   · obtain ⟨e', h1, h2⟩ := tC h
     exact ⟨e', by simp [h1], h2⟩
theorem Ko : ∀ {l : List Oper} {acc : List Nat} {k u : Nat}, acc[k]? = some u → (masks l acc)[k]? = some u
 | [], acc, k, u, h => h
 | o :: l, acc, k, u, h => by
   simp only [masks]
   refine Ko ?_
   rw [List.getElem?_append_left]
   · exact h
   · rcases Nat.lt_or_ge k acc.length with h' | h'
     · exact h'
     · rw [List.getElem?_eq_none (by simpa using h')] at h; cases h
theorem Zf : ∀ {l : List Oper} {acc : List Nat} {i v : Nat}, (masks l acc)[i]? = some v →
   acc[i]? = some v ∨ ∃ (o : Oper) (acc' : List Nat), acc.length ≤ i ∧ l[i - acc.length]? = some o ∧ v = tL acc' o.after.toList ∧ ∀ (k u : Nat), acc'[k]? = some u → (masks l acc)[k]? = some u
 | [], acc, i, v, h => .inl h
 | o :: l, acc, i, v, h => by
   simp only [masks] at h
   rcases Zf h with h1 | ⟨o', acc', h1, h2, h3, h4⟩
   · rcases Nat.lt_or_ge i acc.length with hi | hi
     · rw [List.getElem?_append_left hi] at h1; exact .inl h1
     · rw [List.getElem?_append_right hi] at h1
       have : i = acc.length := by
         rcases Nat.eq_or_lt_of_le hi with h | h
         · exact h.symm
         · rw [List.getElem?_eq_none (by simp; omega)] at h1; cases h1
       subst this
       simp at h1
       exact .inr ⟨o, acc, Nat.le_refl _, by simp, h1.symm, fun k u hk => Ko hk⟩
   · simp at h1 h2
     refine .inr ⟨o', acc', by omega, ?_, h3, h4⟩
     rw [show i - acc.length = (i - (acc.length + 1)) + 1 by omega, List.getElem?_cons_succ]
     exact h2
theorem fU {i j : Nat} (h : (before ops i).testBit j = true) : ∃ o, ops[i]? = some o ∧ ∃ e ∈ o.after.toList, Region.binds .any e = true ∧ (e.on = j ∨ (before ops e.on).testBit j = true) := by
 unfold before at h
 cases hm : (masks ops.toList [])[i]? with
 | none => rw [hm] at h; simp at h
 | some v =>
   rw [hm] at h
   simp only [Option.getD_some] at h
   rcases Zf hm with h1 | ⟨o, acc', _, h2, rfl, h4⟩
   · simp at h1
   · obtain ⟨e, h5, h6, h7⟩ := tC h
     refine ⟨o, by simpa using h2, e, h5, h6, h7.imp id fun h8 => ?_⟩
     unfold before
     cases hk : acc'[e.on]? with
     | none => rw [hk] at h8; simp at h8
     | some u => rw [h4 _ _ hk]; rw [hk] at h8; exact h8
def Closed (ops : Array Oper) (S : Nat → Prop) : Prop := ∀ i, S i → ∀ j, (before ops i).testBit j = true → S j
theorem Closed.add {S : Nat → Prop} (h : Closed ops S) {i : Nat} {o : Oper} (ho : ops[i]? = some o) (ha : ∀ e ∈ o.after.toList, Region.binds .any e = true → S e.on) : Closed ops fun k => k = i ∨ S k := by
 intro k hk j hj
 rcases hk with rfl | hk
 · obtain ⟨o', ho', e, h1, h2, h3⟩ := fU hj
   rw [ho] at ho'; cases ho'
   have := ha e h1 h2
   rcases h3 with rfl | h3
   · exact .inr this
   · exact .inr (h _ this _ h3)
 · exact .inr (h k hk j hj)
structure mg (ops : Array Oper) : Prop where
 nodup : nodup (aO ops.toList) = true
 edge : ∀ i o, ops[i]? = some o → ∀ e ∈ o.after.toList, Region.binds .any e = true → e.on < i
 read : ∀ i o j o' d, ops[i]? = some o → ops[j]? = some o' → o'.dst = some d → d ∈ readsOf ops o → (before ops i).testBit j = true ∨ i = j ∨ (before ops j).testBit i = true
theorem GH (h : FY ops = true) : mg ops := by
 unfold FY at h
 simp only [Bool.and_eq_true, List.all_eq_true, List.mem_range] at h
 obtain ⟨h1, h2⟩ := h
 have lt : ∀ {i : Nat} {o : Oper}, ops[i]? = some o → i < ops.size := fun {i o} h => by
   rcases Nat.lt_or_ge i ops.size with h' | h'
   · exact h'
   · rw [Array.getElem?_eq_none h'] at h; cases h
 refine ⟨h1, fun i o ho e he hb => ?_, fun i o j o' d ho ho' hd hr => ?_⟩
 · have := h2 i (lt ho)
   rw [ho] at this
   simp only [Bool.and_eq_true] at this
   have h3 := this.1.1
   rw [Array.all_eq_true_iff_forall_mem] at h3
   have := h3 e (by simpa using he)
   simpa [hb] using this
 · have := h2 i (lt ho)
   rw [ho] at this
   simp only [Bool.and_eq_true, List.all_eq_true, List.mem_range] at this
   have h3 := this.2 j (lt ho')
   rw [ho'] at h3
   simp only [Option.bind_some, hd, Bool.or_eq_true, Bool.not_eq_true'] at h3
   rcases h3 with ((h3 | h3) | h3) | h3
   · rw [← Bool.not_eq_true, List.contains_iff_mem] at h3; exact absurd hr h3
   · exact .inl h3
   · exact .inr (.inl (by simpa using h3))
   · exact .inr (.inr h3)
theorem Zx {i j : Nat} {o o' : Oper} {d : Nat} (h : uZ ops j = false) (ho' : ops[j]? = some o') (hd : o'.dst = some d) (ho : ops[i]? = some o) (hr : d ∈ readsOf ops o) : (before ops i).testBit j = true := by
 unfold uZ at h
 rw [ho'] at h
 simp only [Option.bind_some, hd] at h
 have hlt : i < ops.size := (Array.getElem?_eq_some_iff.1 ho).1
 have := List.any_eq_false.1 h i (List.mem_range.2 hlt)
 rw [ho] at this
 simp only [Bool.and_eq_true, List.contains_iff_mem, Bool.not_eq_true'] at this
 cases hb : (before ops i).testBit j with
 | true => rfl
 | false => exact absurd ⟨hr, hb⟩ this
theorem mg.KE (h : mg ops) : ∀ {i j : Nat}, (before ops i).testBit j = true → j < i := by
 intro i
 induction i using Nat.strongRecOn with
 | _ i ih =>
   intro j hj
   obtain ⟨o, ho, e, h1, h2, h3⟩ := fU hj
   have hlt := h.edge i o ho e h1 h2
   rcases h3 with rfl | h3
   · exact hlt
   · have := ih _ hlt h3; omega
theorem Zd : ∀ {l : List Oper} {j : Nat} {o : Oper} {d : Nat}, l[j]? = some o → o.dst = some d → d ∈ aO l
 | x :: l, 0, o, d, h, hd => by simp at h; subst h; simp [aO, hd]
 | x :: l, j + 1, o, d, h, hd => by
   simp at h
   have := Zd h hd
   simp only [aO]
   split <;> simp [this]
 | [], _, _, _, h, _ => by simp at h
theorem GV : ∀ {l : List Oper} {i j : Nat} {o p : Oper} {d : Nat}, nodup (aO l) = true → l[i]? = some o → l[j]? = some p → o.dst = some d → p.dst = some d → i = j
 | [], i, j, o, p, d, _, h, _, _, _ => by simp at h
 | x :: l, 0, 0, o, p, d, _, _, _, _, _ => rfl
 | x :: l, 0, j + 1, o, p, d, hn, h1, h2, h3, h4 => by
   simp at h1 h2; subst h1
   simp only [aO, h3, nodup, Bool.and_eq_true, Bool.not_eq_true', ← Bool.not_eq_true, List.contains_iff_mem] at hn
   exact absurd (Zd h2 h4) hn.1
 | x :: l, i + 1, 0, o, p, d, hn, h1, h2, h3, h4 => by
   simp at h1 h2; subst h2
   simp only [aO, h4, nodup, Bool.and_eq_true, Bool.not_eq_true', ← Bool.not_eq_true, List.contains_iff_mem] at hn
   exact absurd (Zd h1 h3) hn.1
 | x :: l, i + 1, j + 1, o, p, d, hn, h1, h2, h3, h4 => by
   simp at h1 h2
   have : nodup (aO l) = true := by
     simp only [aO] at hn
     split at hn
     · simp only [nodup, Bool.and_eq_true] at hn; exact hn.2
     · exact hn
   rw [GV this h1 h2 h3 h4]
theorem mg.inj (h : mg ops) {i j : Nat} {o p : Oper} {d : Nat} (h1 : ops[i]? = some o) (h2 : ops[j]? = some p) (h3 : o.dst = some d) (h4 : p.dst = some d) : i = j :=
 GV h.nodup (by simpa using h1) (by simpa using h2) h3 h4
def Reads (I : Itp) (g : G) (ops : Array Oper) (o : Oper) (ts : qD) (a : Act) : Prop := ∀ t ∈ readsOf ops o, ∀ v, get ts t = some v → ∃ x, a.tmps[t]? = some x ∧ Rel I g v x
structure G.uU (g g' : G) : Prop where
 env : g'.env = g.env
 nb : g.nb ≤ g'.nb
 some : ∀ {b : Nat} {p : PB}, g.φ b = some p → g'.φ b = some p
theorem G.uU.refl (g : G) : g.uU g := ⟨rfl, Nat.le_refl _, fun h => h⟩
theorem G.uU.trans {g h k : G} (a : g.uU h) (b : h.uU k) : g.uU k := ⟨b.env.trans a.env, Nat.le_trans a.nb b.nb, fun h => b.some (a.some h)⟩
theorem G.uU.ext {g h : G} (a : g.uU h) : g.Ext h := ⟨⟨[], by rw [a.env]; simp⟩, fun h => a.some h⟩
def p8 (A : Amb) (I : Itp) (P : Program) (g : G) (ops : Array Oper) (s : St) (o : Oper) : Prop :=
 (∀ d, o.dst = some d → d < s.nt) ∧ ∀ (g' : G) (w : World), g.uU g' → qM A I P g' s.mem w → ∀ a : Act, Reads I g' ops o s.tmps a →
   (Region.wanted o (yielded ops a.tmps) = true → ∀ r : Option Nat, ∃ x, (o.semAt r a.eval).run P w = .ok (.value x) w ∧ ∀ d v, o.dst = some d → get s.tmps d = some v → Rel I g' v x) ∧
   (Region.wanted o (yielded ops a.tmps) = false → ∀ d v, o.dst = some d → get s.tmps d = some v → Rel I g' v Go.undef)
theorem p8.ext {A : Amb} {I : Itp} {P : Program} {g g' : G} {ops : Array Oper} {s : St} {o : Oper} (h : p8 A I P g ops s o) (he : g.uU g') : p8 A I P g' ops s o :=
 ⟨h.1, fun g2 w h2 => h.2 g2 w (he.trans h2)⟩
def oD (I : Itp) (g : G) (l : List (E × Bool)) : Prop := ∀ c b, FQ c l = some b → ∃ n : Int, c.den I g.env = some (.i n) ∧ b = decide (n ≠ 0)
theorem oD.le {g' : G} (h : g.Le g') {l : List (E × Bool)} (hd : oD I g l) : oD I g' l := fun c b hc => let ⟨n, h1, h2⟩ := hd c b hc; ⟨n, E.jK h h1, h2⟩
theorem yU {d : Dr} {o : Oper} (hd : oD I g d.dec) (hr : Reads I g ops o d.s.tmps a) :
   (gB ops d o = some .yes → Region.wanted o (yielded ops a.tmps) = true) ∧ (gB ops d o = some .no → Region.wanted o (yielded ops a.tmps) = false) := by
 unfold gB Region.wanted
 cases hg : o.guard with
 | none => simp
 | some q =>
   obtain ⟨j, want⟩ := q
   simp only
   cases hj : (ops[j]?).bind (·.dst) with
   | none => simp
   | some t =>
     simp only
     have hm : t ∈ readsOf ops o := by simp only [readsOf, ow, hg, hj]; simp
     cases ht : get d.s.tmps t with
     | none => simp
     | some v =>
       obtain ⟨x, h1, h2⟩ := hr t hm v ht
       cases v with
       | bool e =>
         obtain ⟨n, h3, rfl⟩ := h2
         rw [sO hj h1]
         simp only
         have fin : ∀ b : Bool, b = decide (n ≠ 0) → ((some (if b == want then Want.yes else .no) = some Want.yes → (some (decide (n ≠ 0)) == some want) = true) ∧ (some (if b == want then Want.yes else .no) = some Want.no → (some (decide (n ≠ 0)) == some want) = false)) := by
           intro b hb
           subst hb
           by_cases hn : n = 0 <;> cases want <;> simp [hn]
         split
         · rename_i m
           simp [E.den] at h3; subst h3
           exact fin _ (by by_cases hn : m = 0 <;> simp [hn])
         · split
           · rename_i b hb
             obtain ⟨n', h4, h5⟩ := hd _ _ hb
             rw [h3] at h4; simp at h4; subst h4
             exact fin b h5
           · simp
       | undef =>
         simp only [Rel] at h2
         subst h2
         have : yielded ops a.tmps j = none := by
           unfold yielded
           rw [hj]
           simp [h1, Go.undef]
         rw [this]
         simp
       | _ => simp
theorem Q5 {dec : List (E × Bool)} (hd : oD I g dec) {e : E} {m : Int} (he : e.den I g.env = some (.i m)) : ∀ {n j : Nat}, Q6 e dec n = some (.inl j) → m = j
 | 0, j, h => by simp [Q6] at h
 | n + 1, j, h => by
   simp only [Q6] at h
   split at h
   · rename_i hb
     simp only [Option.some.injEq, Sum.inl.injEq] at h
     subst h
     obtain ⟨n', h4, h5⟩ := hd _ _ hb
     rw [qp (o := .eq) he (show (E.lit (n : Int)).den I g.env = some (.i n) from rfl)] at h4
     simp only [Option.some.injEq, D.i.injEq] at h4
     subst h4
     have h6 : BO.eq.ev m n ≠ 0 := of_decide_eq_true h5.symm
     by_cases hm : m = n
     · exact hm
     · exact absurd (show BO.eq.ev m n = 0 by simp only [BO.ev]; exact if_neg hm) h6
   · exact Q5 hd he h
   · simp at h
theorem Yf {d : Dr} {o : Oper} {v : AV} {ps : List PE} (hG : GOk kn.globs A) (hm : qM A I P g d.s.mem w) (hd : oD I g d.dec) (hr : Reads I g ops o d.s.tmps a) (h : QC P kn d o.op = some (.val v ps)) (hp : ∀ p ∈ ps, p.den I g.env) (r : Option Nat) :
   ∃ x, (o.semAt r a.eval).run P w = .ok (.value x) w ∧ Rel I g v x := by
 have hread : ∀ t, .tmp t ∈ o.op.operands.toList → t ∈ readsOf ops o := by
   have h0 : ∀ {l : List Operand} {t : Nat}, .tmp t ∈ l → t ∈ xY l := by
     intro l
     induction l with
     | nil => intro t h; simp at h
     | cons x l ih =>
       intro t h
       simp at h
       rcases h with h | h
       · subst h; simp [xY]
       · have := ih h
         cases x <;> simp [xY, this]
   intro t ht
   exact List.mem_append_right _ (h0 ht)
 have ht : kM I g (fun t => t ∉ readsOf ops o) d.s.tmps a.tmps := fun t v hv hx => hr t (Decidable.not_not.1 hx) v hv
 unfold QC at h
 split at h
 · rename_i t x y hop
   have hev : ∀ {z : Operand} {u : AV}, z ∈ o.op.operands.toList → evalOp d.s.tmps z = some u → Rel I g u (a.eval z) := fun hz hu => zm ht hu fun t e hx => hx (hread t (e ▸ hz))
   have Xx : ∀ b : Bool, a.eval (.tmp t) = .bool b → (o.semAt r a.eval).run P w = .ok (.value (if b then a.eval x else a.eval y)) w := by
     intro b hb
     rw [Oper.semAt_eq _ _ _ (fun c hc => by rw [hop] at hc; cases hc)]
     simp only [execOp, hop, hb]
     cases b <;> simp [asBool]
   have hmt : t ∈ readsOf ops o := hread t (by rw [hop]; simp [Op.operands])
   split at h
   · rename_i n hg
     obtain ⟨z, h1, m, h2, rfl⟩ := hr t hmt _ hg
     simp [E.den] at h2; subst h2
     refine ⟨_, Xx (decide (n ≠ 0)) (by simp [Act.eval, h1, Array.getD_eq_getD_getElem?]), ?_⟩
     split at h
     · rename_i hn
       subst hn
       simp at h
       obtain ⟨u, h3, rfl, rfl⟩ := h
       simpa using hev (by rw [hop]; simp [Op.operands]) h3
     · rename_i hn
       simp at h
       obtain ⟨u, h3, rfl, rfl⟩ := h
       simpa [hn] using hev (by rw [hop]; simp [Op.operands]) h3
   · rename_i e _ hg
     obtain ⟨z, h1, m, h2, rfl⟩ := hr t hmt _ hg
     split at h
     · rename_i b hb
       obtain ⟨n', h4, h5⟩ := hd _ _ hb
       rw [h2] at h4; simp at h4; subst h4
       refine ⟨_, Xx (decide (m ≠ 0)) (by simp [Act.eval, h1, Array.getD_eq_getD_getElem?]), ?_⟩
       rw [← h5]
       split at h
       · rename_i hbt
         simp at h
         obtain ⟨u, h3, rfl, rfl⟩ := h
         rw [if_pos hbt]
         exact hev (by rw [hop]; simp [Op.operands]) h3
       · rename_i hbt
         simp at h
         obtain ⟨u, h3, rfl, rfl⟩ := h
         rw [if_neg hbt]
         exact hev (by rw [hop]; simp [Op.operands]) h3
     · simp at h
   · cases h
 · split at h
   · rename_i i k e n hsp
     split at h
     · rename_i j hj
       simp only [Option.map_eq_some_iff] at h
       obtain ⟨⟨v', ps'⟩, h1, h2⟩ := h
       cases h2
       have ht' : kM I g (fun t => t ∉ readsOf ops o) (setInt d.s i k j).tmps a.tmps := by
         intro t v hv hx
         have hv : get (Q0 i (.int k (.lit j)) d.s.tmps) t = some v := hv
         rw [xZ] at hv
         by_cases hit : i = t
         · subst hit
           rw [if_pos rfl] at hv
           simp only [Option.some.injEq] at hv
           subst hv
           obtain ⟨z, k1, m, k2, rfl⟩ := ht i _ (oN hsp) hx
           have := Q5 hd k2 hj
           subst this
           exact ⟨_, k1, _, rfl, rfl⟩
         · rw [if_neg hit] at hv
           exact ht t v hv hx
       obtain ⟨x, h3, h4⟩ := nJ hG hm ht' (fun t ht hx => hx (hread t ht)) h1 hp
       refine ⟨x, ?_, h4⟩
       rw [Oper.semAt_eq _ _ _ (fun c hc => bB hc h1)]
       exact h3
     · simp at h
     · cases h
   · simp only [Option.map_eq_some_iff] at h
     obtain ⟨⟨v', ps'⟩, h1, h2⟩ := h
     cases h2
     obtain ⟨x, h3, h4⟩ := nJ hG hm ht (fun t ht hx => hx (hread t ht)) h1 hp
     refine ⟨x, ?_, h4⟩
     rw [Oper.semAt_eq _ _ _ (fun c hc => bB hc h1)]
     exact h3
theorem QT {d : Dr} {o : Op} (h : QC P kn d o = some .skip) : False := by
 unfold QC at h
 split at h
 · split at h
   · split at h <;> simp at h
   · split at h
     · split at h <;> simp at h
     · cases h
   · cases h
 · split at h
   · split at h
     · simp only [Option.map_eq_some_iff] at h
       obtain ⟨⟨v', ps'⟩, _, h2⟩ := h
       cases h2
     · cases h
     · cases h
   · simp only [Option.map_eq_some_iff] at h
     obtain ⟨⟨v', ps'⟩, _, h2⟩ := h
     cases h2
theorem Rk {d : Dr} {o : Oper} (hd : oD I g d.dec) (h : JA P kn ops d o = some .skip) (hr : Reads I g ops o d.s.tmps a) : Region.wanted o (yielded ops a.tmps) = false := by
 unfold JA at h
 split at h
 · exact (QT h).elim
 · rename_i hw; exact (yU hd hr).2 hw
 · cases h
 · cases h
theorem C8 {d : Dr} {o : Oper} {v : AV} {ps : List PE} (hG : GOk kn.globs A) (hm : qM A I P g d.s.mem w) (hd : oD I g d.dec) (h : JA P kn ops d o = some (.val v ps)) (hp : ∀ p ∈ ps, p.den I g.env) (hr : Reads I g ops o d.s.tmps a) :
   Region.wanted o (yielded ops a.tmps) = true ∧ ∀ r : Option Nat, ∃ x, (o.semAt r a.eval).run P w = .ok (.value x) w ∧ Rel I g v x := by
 unfold JA at h
 split at h
 · rename_i hw; exact ⟨(yU hd hr).1 hw, Yf hG hm hd hr h hp⟩
 · cases h
 · cases h
 · cases h
def Holds (I : Itp) (g : G) (s : St) (o : Oper) : Out → Prop
 | .skip => ∀ t, o.dst = some t → t < s.nt ∧ get s.tmps t = some .undef
 | .val v ps => (∀ p ∈ ps, p.den I g.env) ∧ ∀ t, o.dst = some t → t < s.nt ∧ ∃ u, get s.tmps t = some u ∧ ∀ (g' : G) x, g.uU g' → Rel I g' v x → Rel I g' u x
 | .dec _ => False
theorem p8.Li {d : Dr} {o : Oper} {out : Out} {s : St} (hG : GOk kn.globs A) (hmem : s.mem = d.s.mem) (hd : oD I g d.dec) (h : JA P kn ops d o = some out) (hs : ∀ t ∈ readsOf ops o, get s.tmps t = get d.s.tmps t) (hh : Holds I g s o out) :
   p8 A I P g ops s o := by
 have hr : ∀ {g' : G} {a : Act}, Reads I g' ops o s.tmps a → Reads I g' ops o d.s.tmps a := fun h t ht v hv => h t ht v (by rw [hs t ht]; exact hv)
 have hd' : ∀ {g' : G}, g.uU g' → oD I g' d.dec := fun he c b hc => by rw [he.env]; exact hd c b hc
 cases out with
 | skip =>
   refine ⟨fun t ht => (hh t ht).1, fun g' w he hm a ha => ⟨fun hw => ?_, fun _ t v ht hv => ?_⟩⟩
   · rw [Rk (hd' he) h (hr ha)] at hw; cases hw
   · rw [(hh t ht).2] at hv; cases hv; rfl
 | val v ps =>
   obtain ⟨hp, hh⟩ := hh
   refine ⟨fun t ht => (hh t ht).1, fun g' w he hm a ha => ?_⟩
   rw [hmem] at hm
   obtain ⟨h1, h2⟩ := C8 hG hm (hd' he) h (by rw [he.env]; exact hp) (hr ha)
   refine ⟨fun _ r => ?_, fun hw => by rw [h1] at hw; cases hw⟩
   obtain ⟨x, h3, h4⟩ := h2 r
   refine ⟨x, h3, fun t u ht hu => ?_⟩
   obtain ⟨_, u', h5, h6⟩ := hh t ht
   rw [hu] at h5; cases h5
   exact h6 g' x he h4
 | dec c => exact hh.elim
def XL (I : Itp) (P : Program) (g : G) (ops : Array Oper) (s : St) (o : Oper) (b : Nat) (v : AV) (x : Blk) : Prop :=
 ∀ g' : G, g.Ext g' → ∀ a : Act, Reads I g' ops o s.tmps a → Region.wanted o (yielded ops a.tmps) = true ∧ ∀ (r : Option Nat) (w : World), g'.φ b = none →
   ∃ obj val p, p.blk = w.heap.size ∧ (o.semAt r a.eval).run P w = .ok (.value val) (w.alloc obj) ∧ Rel I (g'.place b p) v val ∧ jU I P (g'.place b p) b (fun i => (w.alloc obj).heap[i]?) x
theorem XL.ext {g1 : G} {s : St} {o : Oper} {b : Nat} {v : AV} {x : Blk} (h : XL I P g ops s o b v x) (he : g.Ext g1) : XL I P g1 ops s o b v x := fun g' h1 =>
 h g' ⟨by obtain ⟨⟨xs, hx⟩, _⟩ := he; obtain ⟨⟨ys, hy⟩, _⟩ := h1; exact ⟨xs ++ ys, by rw [hy, hx, List.append_assoc]⟩, fun hb => h1.some (he.some hb)⟩
theorem jc {b : Nat} {p : PB} : (g.place b p).φ b = some p := by simp [G.place]
theorem rY {b k : Nat} : Rel I (g.place b ⟨k, 0, 0⟩) (.ptr b (.lit 0) 0 0) (.pointer (some ⟨k, 0, none⟩)) := ⟨0, ⟨k, 0, 0⟩, rfl, Int.le_refl _, jc, by simp⟩
theorem nY {b k n sz : Nat} : Rel I (g.place b ⟨k, 0, n * sz⟩) (.slice b (.lit 0) (.lit n) sz false) (.slice (some ⟨k, 0, none⟩) n n) :=
 ⟨0, n, rfl, rfl, Int.le_refl _, by omega, .inl ⟨⟨k, 0, n * sz⟩, n, jc, by simp, by simp, by simp⟩⟩
theorem J2 {o : Oper} {t : TypeId} {z : AV} (hop : o.op = .alloc t) (hz : zY P t = some z) (g' : G) (r : Option Nat) (w : World) (b : Nat) (a : Act) :
   ∃ obj val p, p.blk = w.heap.size ∧ (o.semAt r a.eval).run P w = .ok (.value val) (w.alloc obj) ∧ Rel I (g'.place b p) (.ptr b (.lit 0) 0 0) val ∧ jU I P (g'.place b p) b (fun i => (w.alloc obj).heap[i]?) (.cells z.cells true) := by
 obtain ⟨ti, zx, _, _, hzr, zK⟩ := zM hz
 refine ⟨.cells zx.cells t, .pointer (some ⟨w.heap.size, 0, none⟩), ⟨w.heap.size, 0, 0⟩, rfl, ?_, rY, yS (fr := (0, 0)) jc rfl (heap_alloc_new _ _) (zK I _).2 rfl (Nat.zero_le _)⟩
 rw [Oper.semAt_eq _ _ _ (fun c hc => by rw [hop] at hc; cases hc)]
 simp only [execOp, hop, Instr.alloc, Sem.run_bind, hzr, Result.andThen, newVar, newRow, run_newObj_alloc, Sem.run_pure]
theorem Gs {o : Oper} {t : TypeId} {y : Operand} {v : AV} (hop : o.op = .box t y) (g' : G) (r : Option Nat) (w : World) (b : Nat) (hb : g'.φ b = none) (a : Act) (hv : Rel I g' v (a.eval y)) (hne : v ≠ .any) (hnb : v.dQ = false) :
   ∃ obj val p, p.blk = w.heap.size ∧ (o.semAt r a.eval).run P w = .ok (.value val) (w.alloc obj) ∧ Rel I (g'.place b p) (.ptr b (.lit 0) 0 0) val ∧ jU I P (g'.place b p) b (fun i => (w.alloc obj).heap[i]?) (.cells v.cells true) := by
 refine ⟨.cells (a.eval y).cells t, .pointer (some ⟨w.heap.size, 0, none⟩), ⟨w.heap.size, 0, 0⟩, rfl, ?_, rY, yS (fr := (0, 0)) jc rfl (heap_alloc_new _ _) ((dX hv hne hnb).ext (G.bO hb)) rfl (Nat.zero_le _)⟩
 rw [Oper.semAt_eq _ _ _ (fun c hc => by rw [hop] at hc; cases hc)]
 simp only [execOp, hop, Instr.box, Sem.run_bind, Result.andThen, newVar, newRow, run_newObj_alloc, Sem.run_pure]
theorem oh {o : Oper} {bg : Big} (hop : o.op = .alloc bg.t) {l m : List AV} (hz : wK P bg = some (l, m)) (g' : G) (r : Option Nat) (w : World) (b : Nat) (a : Act) :
   ∃ obj val p, p.blk = w.heap.size ∧ (o.semAt r a.eval).run P w = .ok (.value val) (w.alloc obj) ∧ Rel I (g'.place b p) (.ptr b (.lit 0) 0 0) val ∧ jU I P (g'.place b p) b (fun i => (w.alloc obj).heap[i]?) (.big l bg.ks .zt bg.n m true) := by
 obtain ⟨ti, cs, xs, ys, zs, _, _, hcs, hzr, zK, hyl, hys⟩ := xP hz
 refine ⟨.cells cs bg.t, .pointer (some ⟨w.heap.size, 0, none⟩), ⟨w.heap.size, 0, 0⟩, rfl, ?_, rY, uP (f := fun _ _ => 0) jc rfl (heap_alloc_new _ _) hcs rfl (zK I _).1 (zK I _).2 hyl hys⟩
 rw [Oper.semAt_eq _ _ _ (fun c hc => by rw [hop] at hc; cases hc)]
 simp only [execOp, hop, Instr.alloc, Sem.run_bind, hzr, Result.andThen, newVar, newRow, run_newObj_alloc, Sem.run_pure, Value.cells]
theorem ZE {o : Oper} {t : TypeId} {y : Operand} {l m : List AV} {ks : List CK} {e : E} {n : Nat} (hop : o.op = .box t y) (g' : G) (r : Option Nat) (w : World) (b : Nat) (hb : g'.φ b = none) (a : Act) (hv : Rel I g' (.big l ks e n m) (a.eval y)) :
   ∃ obj val p, p.blk = w.heap.size ∧ (o.semAt r a.eval).run P w = .ok (.value val) (w.alloc obj) ∧ Rel I (g'.place b p) (.ptr b (.lit 0) 0 0) val ∧ jU I P (g'.place b p) b (fun i => (w.alloc obj).heap[i]?) (.big l ks e n m true) := by
 obtain ⟨f, xs, ys, zs, h1, h2, h3, h4, h5, h6⟩ := hv
 have hext := G.bO (p := ⟨w.heap.size, 0, 0⟩) hb
 refine ⟨.cells (a.eval y).cells t, .pointer (some ⟨w.heap.size, 0, none⟩), ⟨w.heap.size, 0, 0⟩, rfl, ?_, rY, uP jc rfl (heap_alloc_new _ _) (by rw [h2]; rfl) (E.jg hext h1) (h3.ext hext) (h4.ext hext) h5 h6⟩
 rw [Oper.semAt_eq _ _ _ (fun c hc => by rw [hop] at hc; cases hc)]
 simp only [execOp, hop, Instr.box, Sem.run_bind, Result.andThen, newVar, newRow, run_newObj_alloc, Sem.run_pure]
theorem bI {o : Oper} {t : Nat} (h : .tmp t ∈ o.op.operands.toList) : t ∈ readsOf ops o := by
 have h0 : ∀ {l : List Operand} {t : Nat}, .tmp t ∈ l → t ∈ xY l := by
   intro l
   induction l with
   | nil => intro t h; simp at h
   | cons x l ih =>
     intro t h
     simp at h
     rcases h with h | h
     · subst h; simp [xY]
     · have := ih h
       cases x <;> simp [xY, this]
 exact List.mem_append_right _ (h0 h)
theorem FJ {d : Dr} {o : Oper} {v : AV} {x : Blk} (hd : oD I g d.dec) (hw : iE (gB ops d o) = true) (h : jQ P kn d.s o.op = some (v, x)) : XL I P g ops d.s o d.s.nb v x := by
 intro g' hext a hr
 have hdec : oD I g' d.dec := fun c b hc => let ⟨n, h1, h2⟩ := hd c b hc; ⟨n, E.jg hext h1, h2⟩
 refine ⟨(yU hdec hr).1 (by unfold iE at hw; split at hw <;> simp_all), fun r w hb => ?_⟩
 have ht : kM I g' (fun t => t ∉ readsOf ops o) d.s.tmps a.tmps := fun t v hv hx => hr t (Decidable.not_not.1 hx) v hv
 have ev0 : ∀ {z : Operand} {u : AV}, z ∈ o.op.operands.toList → evalOp d.s.tmps z = some u → Rel I g' u (a.eval z) := fun hz hu => zm ht hu fun t e hx => hx (bI (by rw [← e]; exact hz))
 cases hop : o.op with
 | alloc t =>
   rw [hop] at h
   cases hbg : uR kn.eu t with
   | some bg =>
     cases hz : wK P bg with
     | some lm =>
       obtain ⟨l, m⟩ := lm
       simp [jQ, jG, loud, hbg, hz, qU] at h
       obtain ⟨rfl, rfl⟩ := h
       have ht : bg.t = t := by have := List.find?_some hbg; simpa using this
       subst ht
       exact oh hop hz g' r w _ a
     | none => simp [jQ, jG, loud, hbg, hz] at h
   | none =>
     cases hz : zY P t with
     | some z =>
       simp [jQ, jG, loud, hbg, hz, qU] at h
       obtain ⟨rfl, rfl⟩ := h
       exact J2 hop hz g' r w _ a
     | none => simp [jQ, jG, loud, hbg, hz] at h
 | box t y =>
   rw [hop] at h
   have ev : ∀ {u : AV}, evalOp d.s.tmps y = some u → Rel I g' u (a.eval y) := fun hu => ev0 (by rw [hop]; simp [Op.operands]) hu
   cases hu : evalOp d.s.tmps y with
   | none => simp [jQ, jG, loud, hu] at h
   | some u =>
     by_cases hnb : u.dQ = true
     · cases u <;> simp [AV.dQ] at hnb
       rename_i l ks e n m
       simp only [jQ, jG, loud, hu] at h
       by_cases hc : l.all AV.one = true ∧ m.all AV.one = true
       · rw [if_pos hc] at h
         simp [qU] at h
         obtain ⟨rfl, rfl⟩ := h
         exact ZE hop g' r w _ hb a (ev hu)
       · rw [if_neg hc] at h
         simp at h
     · by_cases hc : u.cells.all AV.one = true
       · have : jQ P kn d.s (.box t y) = some (.ptr d.s.nb (.lit 0) 0 0, .cells u.cells true) := by
           cases u <;> first | (simp [AV.dQ] at hnb; done) | (simp only [jQ, jG, loud, hu]; rw [if_pos hc]; rfl)
         rw [this] at h
         cases h
         exact Gs hop g' r w _ hb a (ev hu) (rP hu) (by simpa using hnb)
       · exfalso
         have : jQ P kn d.s (.box t y) = none := by
           cases u <;> first | (simp [AV.dQ] at hnb; done) | (simp only [jQ, jG, loud, hu]; rw [if_neg hc])
         rw [this] at h
         cases h
 | makeSlice t lo co =>
   have Xx : (o.semAt r a.eval).run P w = (execOp a.eval o).run P w := by
     rw [Oper.semAt_eq _ _ _ (fun c hc => by rw [hop] at hc; cases hc)]
   rw [hop] at h
   simp only [jQ] at h
   split at h
   · rename_i v' s1 hl0
     split at h
     · rename_i bb x' hmem
       simp at h
       obtain ⟨rfl, rfl⟩ := h
       simp only [jG, loud] at hl0
       split at hl0
       · rename_i el k1 x1 k2 y1 hu hl hc
         split at hl0
         · rename_i z sz bytes hz hsz hbb
           split at hl0
           · rename_i hcond
             obtain ⟨h0, rfl, h1, h2, h3⟩ := hcond
             have hl' := ev0 (by rw [hop]; simp [Op.operands]) hl
             have hc' := ev0 (by rw [hop]; simp [Op.operands]) hc
             split at hl0
             · rename_i ks hks
               split at hl0
               · rename_i haz
                 simp at hl0
                 obtain ⟨rfl, rfl⟩ := hl0
                 simp [qU] at hmem
                 obtain ⟨_, rfl⟩ := hmem
                 obtain ⟨cs, n, rfl, hrun, hbr⟩ := sN (w := w) hop hu hl' hc' hz hsz hbb h0 h1 h2 h3 hks haz
                 exact ⟨_, _, ⟨w.heap.size, 0, n * sz⟩, rfl, by rw [Xx]; exact hrun, nY, hbr _ _ jc⟩
               · cases hl0
             · split at hl0
               · simp at hl0
                 obtain ⟨rfl, rfl⟩ := hl0
                 simp [qU] at hmem
                 obtain ⟨_, rfl⟩ := hmem
                 obtain ⟨cs, n, rfl, hrun, hbr⟩ := sP (w := w) hop hu hl' hc' hz hsz hbb h0 h1 h2 h3
                 exact ⟨_, _, ⟨w.heap.size, 0, n * sz⟩, rfl, by rw [Xx]; exact hrun, nY, hbr _ _ jc⟩
               · cases hl0
           · cases hl0
         · cases hl0
       · cases hl0
     · cases h
   · cases h
 | buildSlice t n parts =>
   have Xx : (o.semAt r a.eval).run P w = (execOp a.eval o).run P w := by
     rw [Oper.semAt_eq _ _ _ (fun c hc => by rw [hop] at hc; cases hc)]
   rw [hop] at h
   simp only [jQ] at h
   split at h
   · rename_i v' s1 hl0
     split at h
     · rename_i bb x' hmem
       simp at h
       obtain ⟨rfl, rfl⟩ := h
       simp only [jG, loud] at hl0
       split at hl0
       · rename_i el hu
         split at hl0
         · rename_i z sz ps hz hsz hps
           split at hl0
           · rename_i hcond
             split at hl0
             · rename_i vs hf
               split at hl0
               · simp at hl0
                 obtain ⟨rfl, rfl⟩ := hl0
                 simp [qU] at hmem
                 obtain ⟨_, rfl⟩ := hmem
                 obtain ⟨ds, hrun, h5, hl⟩ := pV (w := w) ht hop (fun t' ht' hx => hx (bI ht')) hu hz hsz hps hcond.1 hcond.2 hf
                 exact ⟨_, _, ⟨w.heap.size, 0, n * sz⟩, rfl, by rw [Xx]; exact hrun, nY, sV jc rfl (by rw [hcond.1]) (heap_alloc_new _ _) (h5.ext (G.bO hb)) hl⟩
               · cases hl0
             · cases hl0
           · cases hl0
         · cases hl0
       · cases hl0
     · cases h
   · cases h
 | makeMap t q =>
   rw [hop] at h
   cases q with
   | some _ => simp [jQ, jG, loud] at h
   | none =>
     simp [jQ, jG, loud, qU] at h
     obtain ⟨rfl, rfl⟩ := h
     refine ⟨.map #[] 0, .map (some w.heap.size), ⟨w.heap.size, 0, 0⟩, rfl, ?_, ⟨_, jc, rfl⟩, ⟨_, #[], 0, jc, heap_alloc_new _ _, trivial, trivial⟩⟩
     rw [Oper.semAt_eq _ _ _ (fun c hc => by rw [hop] at hc; cases hc)]
     simp only [execOp, hop, Option.map_none, Instr.makeMap, Sem.run_bind, Result.andThen, run_newObj_alloc, Sem.run_pure]
 | _ => rw [hop] at h; simp [jQ] at h
def rA (ops : Array Oper) (done : Ns) (listed : Array Bool) (t : Nat) : Prop := ∃ i o, i ∈ done ∧ listed.getD i false = false ∧ ops[i]? = some o ∧ o.dst = some t
def ku (p : Nat → Bool) : List (Nat × Nat × Blk) → Mem
 | [] => []
 | (i, b, x) :: l => if p i then (b, x) :: ku p l else ku p l
theorem vg {bf : Nat} : ∀ {l : List (Nat × Nat × Blk)}, kF bf l = ku (fun i => bf.testBit i) l
 | [] => rfl
 | (i, b, x) :: l => by simp only [kF, ku]; rw [vg]
theorem KF {p : Nat → Bool} : ∀ {l : List (Nat × Nat × Blk)}, (∀ i b x, (i, b, x) ∈ l → p i = true) → Gt l = ku p l
 | [], _ => rfl
 | (i, b, x) :: l, h => by
   simp only [Gt, ku]
   rw [if_pos (h i b x (by simp)), KF fun i b x hm => h i b x (by simp [hm])]
theorem nI {p q : Nat → Bool} : ∀ {l : List (Nat × Nat × Blk)}, (∀ i b x, (i, b, x) ∈ l → p i = q i) → ku p l = ku q l
 | [], _ => rfl
 | (i, b, x) :: l, h => by
   simp only [ku]
   rw [h i b x (by simp), nI fun i b x hm => h i b x (by simp [hm])]
theorem zC {bf : Nat} {y : Nat × Nat × Blk} : ∀ {l : List (Nat × Nat × Blk)}, y ∈ kr bf l ↔ y ∈ l ∧ bf.testBit y.1 = false
 | [] => by simp [kr]
 | z :: l => by
   simp only [kr]
   split
   · rename_i hz
     rw [zC]
     constructor
     · rintro ⟨h1, h2⟩; exact ⟨by simp [h1], h2⟩
     · rintro ⟨h1, h2⟩
       rcases List.mem_cons.1 h1 with rfl | h1
       · rw [hz] at h2; cases h2
       · exact ⟨h1, h2⟩
   · rename_i hz
     rw [List.mem_cons, zC]
     constructor
     · rintro (rfl | ⟨h1, h2⟩)
       · exact ⟨by simp, by simpa using hz⟩
       · exact ⟨by simp [h1], h2⟩
     · rintro ⟨h1, h2⟩
       rcases List.mem_cons.1 h1 with rfl | h1
       · exact .inl rfl
       · exact .inr ⟨h1, h2⟩
theorem jF {bf : Nat} {f : Nat × Nat × Blk → Nat} : ∀ {l : List (Nat × Nat × Blk)}, nodup (l.map f) = true → nodup ((kr bf l).map f) = true
 | [], _ => rfl
 | z :: l, h => by
   simp only [List.map_cons, nodup, Bool.and_eq_true, Bool.not_eq_true', ← Bool.not_eq_true, List.contains_iff_mem] at h
   simp only [kr]
   split
   · exact jF h.2
   · simp only [List.map_cons, nodup, Bool.and_eq_true, Bool.not_eq_true', ← Bool.not_eq_true, List.contains_iff_mem]
     refine ⟨fun hm => h.1 ?_, jF h.2⟩
     obtain ⟨y, h1, h2⟩ := List.mem_map.1 hm
     exact List.mem_map.2 ⟨y, (zC.1 h1).1, h2⟩
theorem vY {α : Type} {f : α → Nat} : ∀ {l : List α}, nodup (l.map f) = true → ∀ {y z : α}, y ∈ l → z ∈ l → f y = f z → y = z
 | [], _, y, z, h, _, _ => by cases h
 | u :: l, h, y, z, h1, h2, h3 => by
   simp only [List.map_cons, nodup, Bool.and_eq_true, Bool.not_eq_true', ← Bool.not_eq_true, List.contains_iff_mem] at h
   rcases List.mem_cons.1 h1 with h4 | h4 <;> rcases List.mem_cons.1 h2 with h5 | h5
   · rw [h4, h5]
   · rw [h4] at h3; exact (h.1 (List.mem_map.2 ⟨z, h5, h3.symm⟩)).elim
   · rw [h5] at h3; exact (h.1 (List.mem_map.2 ⟨y, h4, h3⟩)).elim
   · exact vY h.2 h4 h5 h3
theorem zS {p : Nat → Bool} : ∀ {l : List (Nat × Nat × Blk)}, nodup (l.map fun y => y.2.1) = true → ∀ {b : Nat} {x : Blk}, get (ku p l) b = some x ↔ ∃ i, (i, b, x) ∈ l ∧ p i = true
 | [], _, b, x => by simp [ku, get_nil]
 | (i0, b0, x0) :: l, h, b, x => by
   have h0 := h
   simp only [List.map_cons, nodup, Bool.and_eq_true, Bool.not_eq_true', ← Bool.not_eq_true, List.contains_iff_mem] at h
   simp only [ku]
   split
   · rename_i hp
     simp only [qQ]
     split
     · rename_i hb
       constructor
       · intro e; cases e; exact ⟨i0, by simp [hb], hp⟩
       · rintro ⟨i, h1, _⟩
         have := vY h0 h1 (z := (i0, b0, x0)) (by simp) hb.symm
         cases this; rfl
     · rename_i hb
       rw [zS h.2]
       constructor
       · rintro ⟨i, h1, h2⟩; exact ⟨i, by simp [h1], h2⟩
       · rintro ⟨i, h1, h2⟩
         rcases List.mem_cons.1 h1 with e | h1
         · cases e; exact absurd rfl hb
         · exact ⟨i, h1, h2⟩
   · rename_i hp
     rw [zS h.2]
     constructor
     · rintro ⟨i, h1, h2⟩; exact ⟨i, by simp [h1], h2⟩
     · rintro ⟨i, h1, h2⟩
       rcases List.mem_cons.1 h1 with e | h1
       · cases e; exact absurd h2 hp
       · exact ⟨i, h1, h2⟩
structure gW (A : Amb) (I : Itp) (P : Program) (ops : Array Oper) (g : G) (d : Dr) (listed : Array Bool) (a : Act) (w : World) : Prop where
 sr : qO A I P (rA ops d.done listed) g { d.s with mem := ku (fun i => listed.getD i false) d.fl ++ d.s.mem } a w
 size : listed.size = ops.size
 sub : ∀ i, listed.getD i false = true → i ∈ d.done
 qs : ∀ i ∈ d.done, listed.getD i false = false → (∀ b x, (i, b, x) ∉ d.fl) → i ∈ d.qs
 lag : ∀ i o, i ∈ d.done → listed.getD i false = false → (∀ b x, (i, b, x) ∉ d.fl) → ops[i]? = some o → p8 A I P g ops d.s o
 yZ : ∀ i b x, (i, b, x) ∈ d.fl → i ∈ d.done ∧ i < ops.size ∧ b < d.s.nb ∧ get d.s.mem b = none
 gq : nodup (d.fl.map fun y => y.2.1) = true
 fidx : nodup (d.fl.map fun y => y.1) = true
 aZ : ∀ i b x o, (i, b, x) ∈ d.fl → listed.getD i false = false → ops[i]? = some o → g.φ b = none ∧ ∃ v, XL I P g ops d.s o b v x ∧ ∀ t, o.dst = some t → t < d.s.nt ∧ get d.s.tmps t = some v
 bar : ∀ i, i ∈ d.done → listed.getD i false = false → uZ ops i = false
 dec : oD I g d.dec
 dcl : Closed ops (· ∈ d.done)
 lcl : Closed ops (fun i => listed.getD i false = true)
theorem qO.weaken {X Y : Nat → Prop} {s : St} (h : qO A I P X g s a w) (hXY : ∀ t, X t → Y t) : qO A I P Y g s a w :=
 ⟨h.m, fun t v ht hy => h.t t v ht fun hx => hy (hXY t hx), h.nt, h.d, h.nv, h.nb⟩
theorem zo {l : Array Bool} {j i : Nat} (hj : j < l.size) : (l.setIfInBounds j true).getD i false = if i = j then true else l.getD i false := by
 by_cases h : i = j
 · subst h; simp [Array.getD_eq_getD_getElem?, hj]
 · rw [if_neg h]; simp [Array.getD_eq_getD_getElem?, Array.getElem?_setIfInBounds_ne (Ne.symm h)]
theorem lt_of_getElem? {j : Nat} {o : Oper} (ho : ops[j]? = some o) : j < ops.size := (Array.getElem?_eq_some_iff.1 ho).1
theorem p8.tmps {s s' : St} {o : Oper} (h : p8 A I P g ops s o) (hm : s'.mem = s.mem) (hn : s'.nt = s.nt) (hr : ∀ t ∈ readsOf ops o, get s'.tmps t = get s.tmps t) (hd : ∀ t, o.dst = some t → get s'.tmps t = get s.tmps t) :
   p8 A I P g ops s' o := by
 refine ⟨fun t ht => by rw [hn]; exact h.1 t ht, fun g' w he hm' a ha => ?_⟩
 obtain ⟨h1, h2⟩ := h.2 g' w he (by rw [← hm]; exact hm') a fun t ht u hu => ha t ht u (by rw [hr t ht]; exact hu)
 refine ⟨fun hw r => ?_, fun hw t u ht hu => h2 hw t u ht (by rw [← hd t ht]; exact hu)⟩
 obtain ⟨x, h3, h4⟩ := h1 hw r
 exact ⟨x, h3, fun t u ht hu => h4 t u ht (by rw [← hd t ht]; exact hu)⟩
theorem XL.tmps {s s' : St} {o : Oper} {b : Nat} {v : AV} {x : Blk} (h : XL I P g ops s o b v x) (hr : ∀ t ∈ readsOf ops o, get s'.tmps t = get s.tmps t) : XL I P g ops s' o b v x :=
 fun g' he a ha => h g' he a fun t ht u hu => ha t ht u (by rw [hr t ht]; exact hu)
theorem gW.reads {d : Dr} {listed : Array Bool} (h : gW A I P ops g d listed a w) {j : Nat} {o : Oper} (ho : ops[j]? = some o)
   (ha : ∀ e ∈ o.after.toList, Region.binds .any e = true → listed.getD e.on false = true) : ∀ t ∈ readsOf ops o, ¬ rA ops d.done listed t := by
 rintro t ht ⟨i, oi, h1, h2, h3, h4⟩
 have hb := Zx (h.bar i h1 h2) h3 h4 ho ht
 obtain ⟨o', ho', e, h5, h6, h7⟩ := fU hb
 rw [ho] at ho'; cases ho'
 have h8 := ha e h5 h6
 rcases h7 with rfl | h7
 · rw [h8] at h2; cases h2
 · have := h.lcl _ h8 _ h7
   simp only at this
   rw [this] at h2; cases h2
theorem gW.reads' {d : Dr} {listed : Array Bool} (h : gW A I P ops g d listed a w) {j : Nat} {o : Oper} (ho : ops[j]? = some o)
   (ha : ∀ e ∈ o.after.toList, Region.binds .any e = true → listed.getD e.on false = true) : Reads I g ops o d.s.tmps a := fun t ht v hv => h.sr.t t v hv (h.reads ho ha t ht)
theorem gW.iI {d : Dr} {listed : Array Bool} (h : gW A I P ops g d listed a w) {j : Nat} {o : Oper} (ho : ops[j]? = some o)
   (ha : ∀ e ∈ o.after.toList, Region.binds .any e = true → listed.getD e.on false = true) : Closed ops fun i => (listed.setIfInBounds j true).getD i false = true := by
 have hj : j < listed.size := by rw [h.size]; exact lt_of_getElem? ho
 have := h.lcl.add ho ha
 intro i hi k hk
 rw [zo hj] at hi ⊢
 have h1 := this i (by
   split at hi
   · rename_i e; exact .inl e
   · exact .inr hi) k hk
 rcases h1 with rfl | h1
 · simp
 · split
   · rfl
   · exact h1
theorem gW.MV {d : Dr} {listed : Array Bool} (h : gW A I P ops g d listed a w) : qM A I P g d.s.mem w :=
 h.sr.m.sub fun c y hc => by
   rw [zB]
   split
   · rename_i z hz
     obtain ⟨i, h1, _⟩ := (zS h.gq).1 hz
     rw [(h.yZ i c z h1).2.2.2] at hc; cases hc
   · exact hc
theorem gW.GI {d : Dr} {listed : Array Bool} (_hD : mg ops) (h : gW A I P ops g d listed a w) {j : Nat} {o : Oper} (ho : ops[j]? = some o) (hj : j ∈ d.done) (hfl : ∀ b x, (j, b, x) ∉ d.fl)
   (ha : ∀ e ∈ o.after.toList, Region.binds .any e = true → listed.getD e.on false = true) (hnt : ∀ t, o.dst = some t → t < d.s.nt) {x : Value}
   (hx : ∀ t v, o.dst = some t → get d.s.tmps t = some v → Rel I g v x) : gW A I P ops g d (listed.setIfInBounds j true) (a.put o.dst x) w := by
 have hjl : j < listed.size := by rw [h.size]; exact lt_of_getElem? ho
 have hsel : ku (fun i => (listed.setIfInBounds j true).getD i false) d.fl = ku (fun i => listed.getD i false) d.fl :=
   nI fun i b x hm => by rw [zo hjl, if_neg (fun e : i = j => hfl b x (e ▸ hm))]
 refine ⟨⟨by rw [hsel]; exact h.sr.m, fun t v hv ht => ?_, ?_, ?_, h.sr.nv, h.sr.nb⟩, by simpa using h.size, fun i hi => ?_, fun i hi hl => ?_, fun i oi hi hl hf hoi => ?_, h.yZ, h.gq, h.fidx, fun i b y oi hm hl hoi => ?_, fun i hi hl => ?_, h.dec, h.dcl, h.iI ho ha⟩
 · by_cases hd : o.dst = some t
   · refine ⟨x, ?_, hx t v hd hv⟩
     have hsz : t < a.tmps.size := by have := h.sr.nt; simp only at this; rw [this]; exact hnt t hd
     simp [Act.put, hd, hsz]
   · have hnl : ¬ rA ops d.done listed t := by
       rintro ⟨i, oi, h1, h2, h3, h4⟩
       by_cases hij : i = j
       · subst hij; rw [ho] at h3; cases h3; exact hd h4
       · exact ht ⟨i, oi, h1, by rw [zo hjl, if_neg hij]; exact h2, h3, h4⟩
     obtain ⟨y, h1, h2⟩ := h.sr.t t v hv hnl
     refine ⟨y, ?_, h2⟩
     cases hdd : o.dst with
     | none => simpa [Act.put] using h1
     | some t' =>
       have : t' ≠ t := fun e => hd (by rw [hdd, e])
       simp [Act.put, Array.getElem?_setIfInBounds_ne this, h1]
 · have := h.sr.nt
   cases hdd : o.dst <;> simpa [Act.put] using this
 · have := h.sr.d
   cases hdd : o.dst <;> simpa [Act.put] using this
 · rw [zo hjl] at hi
   split at hi
   · rename_i e; subst e; exact hj
   · exact h.sub i hi
 · rw [zo hjl] at hl
   split at hl
   · cases hl
   · exact h.qs i hi hl
 · rw [zo hjl] at hl
   split at hl
   · cases hl
   · exact h.lag i oi hi hl hf hoi
 · rw [zo hjl] at hl
   split at hl
   · cases hl
   · exact h.aZ i b y oi hm hl hoi
 · rw [zo hjl] at hl
   split at hl
   · cases hl
   · exact h.bar i hi hl
theorem gW.GA {d : Dr} {listed : Array Bool} (h : gW A I P ops g d listed a w) {j : Nat} {o : Oper} (ho : ops[j]? = some o) (hj : j ∈ d.done) (hjf : listed.getD j false = false)
   (ha : ∀ e ∈ o.after.toList, Region.binds .any e = true → listed.getD e.on false = true) {b : Nat} {x : Blk} (hm : (j, b, x) ∈ d.fl) {obj : Obj} {val : Value} {p : PB} (hpb : p.blk = w.heap.size)
   (hval : ∀ t v, o.dst = some t → get d.s.tmps t = some v → Rel I (g.place b p) v val) (hdst : ∀ t, o.dst = some t → t < d.s.nt)
   (hx : jU I P (g.place b p) b (fun i => (w.alloc obj).heap[i]?) x) :
   gW A I P ops (g.place b p) d (listed.setIfInBounds j true) (a.put o.dst val) (w.alloc obj) := by
 have hjl : j < listed.size := by rw [h.size]; exact lt_of_getElem? ho
 obtain ⟨_, _, qbH, hbm⟩ := h.yZ j b x hm
 obtain ⟨hφ, _⟩ := h.aZ j b x o hm hjf ho
 have hext := G.bO (p := p) hφ
 have UZ : g.uU (g.place b p) := ⟨rfl, Nat.le_refl _, hext.some⟩
 have Ul : ∀ {i : Nat} {z : Blk}, (i, b, z) ∈ d.fl → i = j := fun {i z} hi => by
   have := vY h.gq hi hm rfl
   cases this; rfl
 have qvD : get (ku (fun i => listed.getD i false) d.fl ++ d.s.mem) b = none := by
   rw [zB]
   split
   · rename_i z hz
     obtain ⟨i, h1, h2⟩ := (zS h.gq).1 hz
     have := Ul h1; subst this
     rw [hjf] at h2; cases h2
   · exact hbm
 have hnb : b < g.nb := by rw [h.sr.nb]; exact qbH
 have hm1 := h.sr.m.place (o := obj) (x := x) (p := p) hnb hφ qvD hpb hx
 refine ⟨⟨hm1.sub fun c y hc => ?_, fun t v hv ht => ?_, ?_, ?_, h.sr.nv, h.sr.nb⟩, by simpa using h.size, fun i hi => ?_, fun i hi hl => ?_, fun i oi hi hl hf hoi => ?_, h.yZ, h.gq, h.fidx, fun i c y oi hmi hl hoi => ?_, fun i hi hl => ?_, fun c b hc => h.dec c b hc, h.dcl, h.iI ho ha⟩
 · simp only at hc
   rw [zB] at hc
   simp only [qQ]
   split at hc
   · rename_i z hz
     cases hc
     obtain ⟨i, h1, h2⟩ := (zS h.gq).1 hz
     rw [zo hjl] at h2
     by_cases hij : i = j
     · subst hij
       have := vY h.fidx h1 hm rfl
       cases this
       rw [if_pos rfl]
     · rw [if_neg hij] at h2
       have hbc : b ≠ c := fun e => hij (Ul (e ▸ h1))
       rw [if_neg hbc, zB, (zS h.gq).2 ⟨i, h1, h2⟩]
   · rename_i hz
     have hbc : b ≠ c := fun e => by subst e; rw [hbm] at hc; cases hc
     rw [if_neg hbc, zB]
     split
     · rename_i z hz'
       obtain ⟨i, h1, h2⟩ := (zS h.gq).1 hz'
       rw [(h.yZ i c z h1).2.2.2] at hc; cases hc
     · exact hc
 · by_cases hd : o.dst = some t
   · have h1 := hdst t hd
     have hv : get d.s.tmps t = some v := hv
     have hsz : t < a.tmps.size := by have := h.sr.nt; simp only at this; rw [this]; exact h1
     exact ⟨val, by simp [Act.put, hd, hsz], hval t v hd hv⟩
   · have hnl : ¬ rA ops d.done listed t := by
       rintro ⟨i, oi, h1, h2, h3, h4⟩
       by_cases hij : i = j
       · subst hij; rw [ho] at h3; cases h3; exact hd h4
       · exact ht ⟨i, oi, h1, by rw [zo hjl, if_neg hij]; exact h2, h3, h4⟩
     obtain ⟨y, h1, h2⟩ := h.sr.t t v hv hnl
     refine ⟨y, ?_, h2.ext hext⟩
     cases hdd : o.dst with
     | none => simpa [Act.put] using h1
     | some t' =>
       have : t' ≠ t := fun e => hd (by rw [hdd, e])
       simp [Act.put, Array.getElem?_setIfInBounds_ne this, h1]
 · have := h.sr.nt
   cases hdd : o.dst <;> simpa [Act.put] using this
 · have := h.sr.d.ext hext
   cases hdd : o.dst <;> simpa [Act.put] using this
 · rw [zo hjl] at hi
   split at hi
   · rename_i e; subst e; exact hj
   · exact h.sub i hi
 · rw [zo hjl] at hl
   split at hl
   · cases hl
   · exact h.qs i hi hl
 · rw [zo hjl] at hl
   split at hl
   · cases hl
   · exact (h.lag i oi hi hl hf hoi).ext UZ
 · rw [zo hjl] at hl
   split at hl
   · cases hl
   · rename_i hij
     obtain ⟨h1, v, h2, h3⟩ := h.aZ i c y oi hmi hl hoi
     have hcb : c ≠ b := fun e => hij (Ul (e ▸ hmi))
     exact ⟨by simp [G.place, hcb, h1], v, h2.ext hext, h3⟩
 · rw [zo hjl] at hl
   split at hl
   · cases hl
   · exact h.bar i hi hl
theorem rZ {s s' : St} {dst : Option Tmp} {v : AV} (h : xg s dst v = some s') :
   s'.mem = s.mem ∧ s'.nt = s.nt ∧ s'.defers = s.defers ∧ s'.nv = s.nv ∧ s'.nb = s.nb ∧ (∀ t, dst = some t → t < s.nt) ∧ ∀ t, get s'.tmps t = if dst = some t then some v else get s.tmps t := by
 rw [HV] at h
 cases dst with
 | none => simp at h; subst h; simp
 | some d =>
   simp only at h
   split at h
   · rename_i hd
     simp at h; subst h
     refine ⟨rfl, rfl, rfl, rfl, rfl, fun t ht => by cases ht; exact hd, fun t => ?_⟩
     rw [xZ]
     by_cases ht : d = t
     · subst ht; simp
     · rw [if_neg ht, if_neg (by simp; exact ht)]
   · cases h
theorem iL {m : Ns} {l : List Nat} {i : Nat} : i ∈ QD m l ↔ i ∈ l ∧ i ∉ m := by
 rw [QB, List.mem_filter, Ns.mem_iff]; simp
theorem fZ {j : Nat} : ∀ {l : List Edge}, (vL l).testBit j = true ↔ ∃ e ∈ l, Region.binds .any e = true ∧ e.on = j
 | [] => by simp [vL]
 | e :: l => by
   simp only [vL]
   split
   · rename_i hb
     show ((vL l) ||| (1 <<< e.on)).testBit j = true ↔ _
     rw [Nat.testBit_or, Bool.or_eq_true, fZ, Nat.one_shiftLeft, Nat.testBit_two_pow, decide_eq_true_eq]
     constructor
     · rintro (⟨e', h1, h2⟩ | h)
       · exact ⟨e', by simp [h1], h2⟩
       · exact ⟨e, by simp, hb, h⟩
     · rintro ⟨e', h1, h2⟩
       rcases List.mem_cons.1 h1 with rfl | h1
       · exact .inr h2.2
       · exact .inl ⟨e', h1, h2⟩
   · rename_i hb
     rw [fZ]
     constructor
     · rintro ⟨e', h1, h2⟩; exact ⟨e', by simp [h1], h2⟩
     · rintro ⟨e', h1, h2⟩
       rcases List.mem_cons.1 h1 with rfl | h1
       · exact absurd h2.1 hb
       · exact ⟨e', h1, h2⟩
theorem Bb {done : Ns} {l : List Edge} : Qy done l = true ↔ ∀ e ∈ l, Region.binds .any e = true → e.on ∈ done := by
 have h0 : Qy done l = true ↔ (vL l) &&& (show Nat from done) = vL l := by
   unfold Qy
   rw [Nat.beq_eq]; rfl
 rw [h0]
 constructor
 · intro h e he hb
   rw [Ns.mem_iff, Ns.has_eq]
   have h1 := fZ.2 ⟨e, he, hb, rfl⟩
   rw [← h, Nat.testBit_and, Bool.and_eq_true] at h1
   exact h1.2
 · intro h
   apply Nat.eq_of_testBit_eq
   intro j
   rw [Nat.testBit_and]
   cases hj : (vL l).testBit j with
   | false => rfl
   | true =>
     obtain ⟨e, he, hb, rfl⟩ := fZ.1 hj
     have := h e he hb
     rw [Ns.mem_iff, Ns.has_eq] at this
     rw [Bool.true_and]; exact this
theorem gN {o : Oper} {done : Ns} : fQ o done = true ↔ ∀ e ∈ o.after.toList, Region.binds .any e = true → e.on ∈ done := Bb
theorem gW.ahead {d : Dr} {listed : Array Bool} (hG : GOk kn.globs A) (hD : mg ops) (h : gW A I P ops g d listed a w) {i : Nat} {o : Oper} (ho : ops[i]? = some o) (hi : i ∉ d.done) (hrd : fQ o d.done = true) (hbar : uZ ops i = false)
   {v : AV} {s' : St} (hset : xg d.s o.dst v = some s') {out : Out} (hout : JA P kn ops d o = some out) (hh : Holds I g s' o out) :
   gW A I P ops g { d with s := s', done := d.done.add i, qs := i :: d.qs } listed a w := by
 obtain ⟨h1, h2, h3, h4, h5, h6, h7⟩ := rZ hset
 have hnl : listed.getD i false = false := by
   cases hl : listed.getD i false with
   | false => rfl
   | true => exact absurd (h.sub i hl) hi
 have hown : ∀ t ∈ readsOf ops o, get s'.tmps t = get d.s.tmps t := fun t ht => by
   rw [h7 t, if_neg]
   intro e
   have := hD.KE (Zx hbar ho e ho ht)
   omega
 have hst : ∀ {k : Nat} {ok : Oper}, k ∈ d.done → ops[k]? = some ok → ∀ t ∈ readsOf ops ok, get s'.tmps t = get d.s.tmps t := fun {k ok} hk hok t ht => by
   rw [h7 t, if_neg]
   intro e
   exact hi (h.dcl k hk i (Zx hbar ho e hok ht))
 have hdst : ∀ {k : Nat} {ok : Oper}, k ∈ d.done → ops[k]? = some ok → ∀ t, ok.dst = some t → get s'.tmps t = get d.s.tmps t := fun {k ok} hk hok t ht => by
   rw [h7 t, if_neg]
   intro e
   have := hD.inj ho hok e ht
   subst this; exact hi hk
 refine ⟨⟨by rw [h1]; exact h.sr.m, fun t u hu ht => ?_, by show a.tmps.size = s'.nt; rw [h2]; exact h.sr.nt, by show xH I g s'.defers a.defers; rw [h3]; exact h.sr.d, by show g.env.length = s'.nv; rw [h4]; exact h.sr.nv, by show g.nb = s'.nb; rw [h5]; exact h.sr.nb⟩, h.size, fun k hk => Ns.zu.2 (.inr (h.sub k hk)), fun k hk hl hf => ?_, fun k ok hk hl hf hok => ?_, fun k b x hm => ?_, h.gq, h.fidx, fun k b x ok hm hl hok => ?_, fun k hk hl => ?_, h.dec, ?_, h.lcl⟩
 · have hne : o.dst ≠ some t := fun e => ht ⟨i, o, Ns.zu.2 (.inl rfl), hnl, ho, e⟩
   have hu : get s'.tmps t = some u := hu
   rw [h7 t, if_neg hne] at hu
   exact h.sr.t t u hu fun ⟨k, ok, hk1, hk2, hk3, hk4⟩ => ht ⟨k, ok, Ns.zu.2 (.inr hk1), hk2, hk3, hk4⟩
 · rcases Ns.zu.1 hk with rfl | hk
   · simp
   · exact List.mem_cons_of_mem _ (h.qs k hk hl hf)
 · rcases Ns.zu.1 hk with rfl | hk
   · rw [ho] at hok; cases hok
     exact p8.Li (s := s') hG h1 h.dec hout hown hh
   · exact (h.lag k ok hk hl hf hok).tmps h1 h2 (hst hk hok) (hdst hk hok)
 · obtain ⟨h8, h9, h10, h11⟩ := h.yZ k b x hm
   exact ⟨Ns.zu.2 (.inr h8), h9, by show b < s'.nb; rw [h5]; exact h10, by show get s'.mem b = none; rw [h1]; exact h11⟩
 · obtain ⟨h8, vv, h9, h10⟩ := h.aZ k b x ok hm hl hok
   have hk := (h.yZ k b x hm).1
   exact ⟨h8, vv, h9.tmps (hst hk hok), fun t ht => ⟨by show t < s'.nt; rw [h2]; exact (h10 t ht).1, by show get s'.tmps t = _; rw [hdst hk hok t ht]; exact (h10 t ht).2⟩⟩
 · rcases Ns.zu.1 hk with rfl | hk
   · exact hbar
   · exact h.bar k hk hl
 · intro k hk j hj
   have := (h.dcl.add ho (gN.1 hrd)) k (Ns.zu.1 hk) j hj
   exact Ns.zu.2 this
theorem qM.pass (h : qM A I P g M w) : qM A I P (g.lay none) M w :=
 (h.Za (x := .rows [] .zt (.lit 0) false true) (fun _ _ h => h) ⟨fun _ _ => 0, 0, rfl, rfl, Int.le_refl _, .inr ⟨rfl, rfl, by simp [G.lay]⟩⟩).sub fun b y hb => by
   simp only [qQ]
   rw [if_neg (fun e => by have := h.lt b y hb; omega)]
   exact hb
theorem gW.float {d : Dr} {listed : Array Bool} (hD : mg ops) (h : gW A I P ops g d listed a w) {i : Nat} {o : Oper} (ho : ops[i]? = some o) (hi : i ∉ d.done) (hrd : fQ o d.done = true) (hbar : uZ ops i = false)
   {s' : St} {v : AV} (hset : xg { d.s with nb := d.s.nb + 1 } o.dst v = some s') {x : Blk} (hf : XL I P g ops d.s o d.s.nb v x) :
   gW A I P ops (g.lay none) { d with s := s', done := d.done.add i, fl := (i, d.s.nb, x) :: d.fl } listed a w := by
 obtain ⟨h1, h2, h3, h4, h5, h6, h7⟩ := rZ hset
 simp only at h1 h2 h3 h4 h5 h6 h7
 have hnl : listed.getD i false = false := by
   cases hl : listed.getD i false with
   | false => rfl
   | true => exact absurd (h.sub i hl) hi
 have hown : ∀ t ∈ readsOf ops o, get s'.tmps t = get d.s.tmps t := fun t ht => by
   rw [h7 t, if_neg]
   intro e
   have := hD.KE (Zx hbar ho e ho ht)
   omega
 have hst : ∀ {k : Nat} {ok : Oper}, k ∈ d.done → ops[k]? = some ok → ∀ t ∈ readsOf ops ok, get s'.tmps t = get d.s.tmps t := fun {k ok} hk hok t ht => by
   rw [h7 t, if_neg]
   intro e
   exact hi (h.dcl k hk i (Zx hbar ho e hok ht))
 have hdst : ∀ {k : Nat} {ok : Oper}, k ∈ d.done → ops[k]? = some ok → ∀ t, ok.dst = some t → get s'.tmps t = get d.s.tmps t := fun {k ok} hk hok t ht => by
   rw [h7 t, if_neg]
   intro e
   have := hD.inj ho hok e ht
   subst this; exact hi hk
 have hwf := h.sr.m.wf
 have hle := g.zi none
 have hext := hle.ext hwf
 have hnb := h.sr.nb
 simp only at hnb
 have UZ : g.uU (g.lay none) := ⟨rfl, by simp [G.lay], fun hb => hle.some hwf hb⟩
 have hsel : ku (fun i => listed.getD i false) ((i, d.s.nb, x) :: d.fl) = ku (fun i => listed.getD i false) d.fl := by
   simp only [ku, hnl, Bool.false_eq_true, if_false]
 refine ⟨⟨by dsimp only; rw [hsel, h1]; exact h.sr.m.pass, fun t u hu ht => ?_, by show a.tmps.size = s'.nt; rw [h2]; exact h.sr.nt, by show xH I (g.lay none) s'.defers a.defers; rw [h3]; exact h.sr.d.le hle hwf, by show g.env.length = s'.nv; rw [h4]; exact h.sr.nv, by show g.nb + 1 = s'.nb; rw [h5, hnb]⟩, h.size, fun k hk => Ns.zu.2 (.inr (h.sub k hk)), fun k hk hl hf' => ?_, fun k ok hk hl hf' hok => ?_, fun k b y hm => ?_, ?_, ?_, fun k b y ok hm hl hok => ?_, fun k hk hl => ?_, h.dec.le hle, ?_, h.lcl⟩
 · have hne : o.dst ≠ some t := fun e => ht ⟨i, o, Ns.zu.2 (.inl rfl), hnl, ho, e⟩
   have hu : get s'.tmps t = some u := hu
   rw [h7 t, if_neg hne] at hu
   exact h.sr.t.le hle hwf t u hu fun ⟨k, ok, hk1, hk2, hk3, hk4⟩ => ht ⟨k, ok, Ns.zu.2 (.inr hk1), hk2, hk3, hk4⟩
 · rcases Ns.zu.1 hk with rfl | hk
   · exact absurd (by simp) (hf' d.s.nb x)
   · exact h.qs k hk hl fun b y hm => hf' b y (by simp [hm])
 · rcases Ns.zu.1 hk with rfl | hk
   · exact absurd (by simp) (hf' d.s.nb x)
   · exact ((h.lag k ok hk hl (fun b y hm => hf' b y (by simp [hm])) hok).ext UZ).tmps h1 h2 (hst hk hok) (hdst hk hok)
 · rcases List.mem_cons.1 hm with e | hm
   · cases e
     refine ⟨Ns.zu.2 (.inl rfl), lt_of_getElem? ho, by show d.s.nb < s'.nb; rw [h5]; omega, ?_⟩
     show get s'.mem d.s.nb = none
     rw [h1]
     cases hg : get d.s.mem d.s.nb with
     | none => rfl
     | some z => have := h.MV.lt _ z hg; omega
   · obtain ⟨h8, h9, h10, h11⟩ := h.yZ k b y hm
     exact ⟨Ns.zu.2 (.inr h8), h9, by show b < s'.nb; rw [h5]; omega, by show get s'.mem b = none; rw [h1]; exact h11⟩
 · simp only [List.map_cons, nodup, Bool.and_eq_true, Bool.not_eq_true', ← Bool.not_eq_true, List.contains_iff_mem]
   refine ⟨fun hm => ?_, h.gq⟩
   obtain ⟨⟨k, b, y⟩, h8, h9⟩ := List.mem_map.1 hm
   have := (h.yZ k b y h8).2.2.1
   simp only at h9
   omega
 · simp only [List.map_cons, nodup, Bool.and_eq_true, Bool.not_eq_true', ← Bool.not_eq_true, List.contains_iff_mem]
   refine ⟨fun hm => ?_, h.fidx⟩
   obtain ⟨⟨k, b, y⟩, h8, h9⟩ := List.mem_map.1 hm
   simp only at h9
   exact hi (h9 ▸ (h.yZ k b y h8).1)
 · rcases List.mem_cons.1 hm with e | hm
   · cases e
     rw [ho] at hok; cases hok
     exact ⟨by simp [G.lay, hnb], v, (hf.ext hext).tmps hown, fun t ht => ⟨by show t < s'.nt; rw [h2]; exact h6 t ht, by show get s'.tmps t = _; rw [h7 t, if_pos ht]⟩⟩
   · obtain ⟨h8, vv, h9, h10⟩ := h.aZ k b y ok hm hl hok
     obtain ⟨hk, _, hb, _⟩ := h.yZ k b y hm
     exact ⟨by simp only [G.lay]; rw [if_neg (by omega)]; exact h8, vv, (h9.ext hext).tmps (hst hk hok), fun t ht => ⟨by show t < s'.nt; rw [h2]; exact (h10 t ht).1, by show get s'.tmps t = _; rw [hdst hk hok t ht]; exact (h10 t ht).2⟩⟩
 · rcases Ns.zu.1 hk with rfl | hk
   · exact hbar
   · exact h.bar k hk hl
 · intro k hk j hj
   have := (h.dcl.add ho (gN.1 hrd)) k (Ns.zu.1 hk) j hj
   exact Ns.zu.2 this
theorem xA {d : Dr} {bf : Nat} : ∀ {l : List Nat} {ps : List PE}, recheck P kn ops d bf l = some ps → (∀ p ∈ ps, p.den I g.env) → g.env.length = d.s.nv → g.nb = d.s.nb → g.wf →
   ∀ q ∈ l, bf.testBit q = false → ∀ o, ops[q]? = some o → ∃ out, JA P kn ops d o = some out ∧ Holds I g d.s o out
 | [], _, _, _, _, _, _, q, hq, _, _, _ => by simp at hq
 | q0 :: l, ps, h, hp, hnv, hnb, hwf, q, hq, hb, o, ho => by
   simp only [recheck] at h
   split at h
   · rename_i hb0
     rcases List.mem_cons.1 hq with rfl | hq
     · rw [hb] at hb0; cases hb0
     · exact xA h hp hnv hnb hwf q hq hb o ho
   · split at h
     · rename_i o0 ho0
       split at h
       · rename_i ps' h1 h2
         have hps : ps' = ps ∧ ∀ t, o0.dst = some t → t < d.s.nt ∧ get d.s.tmps t = some .undef := by
           split at h
           · rename_i hn; simp at h; exact ⟨h, fun t ht => by rw [hn] at ht; cases ht⟩
           · rename_i t0 hn
             split at h
             · rename_i hu
               split at h
               · rename_i hlt
                 simp at h
                 exact ⟨h, fun t ht => by rw [hn] at ht; cases ht; exact ⟨hlt, hu⟩⟩
               · cases h
             · cases h
         obtain ⟨rfl, qbp⟩ := hps
         rcases List.mem_cons.1 hq with rfl | hq
         · rw [ho0] at ho; cases ho
           exact ⟨.skip, h1, qbp⟩
         · exact xA h2 hp hnv hnb hwf q hq hb o ho
       · rename_i v p ps' h1 h2
         have hps : p ++ ps' = ps ∧ ∀ t, o0.dst = some t → t < d.s.nt ∧ ∃ u, get d.s.tmps t = some u ∧ Fix.le { nv := d.s.nv, nb := d.s.nb, kb := d.s.nb, σ := [], ρ := [] } u v = true := by
           split at h
           · rename_i hn; simp at h; exact ⟨h, fun t ht => by rw [hn] at ht; cases ht⟩
           · rename_i t0 hn
             split at h
             · rename_i u hu
               split at h
               · rename_i hlt
                 simp at h
                 exact ⟨h, fun t ht => by rw [hn] at ht; cases ht; exact ⟨hlt.1, u, hu, hlt.2⟩⟩
               · cases h
             · cases h
         obtain ⟨rfl, hval⟩ := hps
         rcases List.mem_cons.1 hq with rfl | hq
         · rw [ho0] at ho; cases ho
           refine ⟨.val v p, h1, fun p' hp' => hp p' (by simp [hp']), fun t ht => ?_⟩
           obtain ⟨h3, u, h4, h5⟩ := hval t ht
           refine ⟨h3, u, h4, fun g' x he hx => ?_⟩
           have qbQ : g'.env.length = d.s.nv := by rw [he.env]; exact hnv
           have hnb' := he.nb
           have hf : Fix.Fits I { nv := d.s.nv, nb := d.s.nb, kb := d.s.nb, σ := [], ρ := [] } g' [] := ⟨rfl, by simp; omega, Nat.le_refl _⟩
           refine (Fix.iO hf h5 hx).le ?_ ?_
           · refine ⟨⟨[], by simp [Fix.view, ← qbQ]⟩, by simp [Fix.view]; omega, fun b hb => ?_⟩
             simp only [Fix.view] at hb ⊢
             simp [Fix.img, hb]
           · intro b hb
             simp only [Fix.view] at hb ⊢
             simp [Fix.img, Nat.not_lt.2 hb]
         · exact xA h2 (fun p' hp' => hp p' (by simp [hp'])) hnv hnb hwf q hq hb o ho
       · cases h
     · cases h
theorem gL {d : Dr} : ∀ {l : List Nat} {i : Nat} {o : Oper} {x : Out}, lg P kn ops d l = some (i, o, x) → i ∈ l ∧ ops[i]? = some o ∧ fQ o d.done = true ∧ uZ ops i = false ∧ JA P kn ops d o = some x
 | [], i, o, x, h => by simp [lg] at h
 | i0 :: l, i, o, x, h => by
   simp only [lg] at h
   split at h
   · rename_i o0 ho0
     split at h
     · rename_i hr
       simp only [Bool.and_eq_true, Bool.not_eq_true'] at hr
       split at h
       · rename_i x0 hx
         simp at h
         obtain ⟨rfl, rfl, rfl⟩ := h
         exact ⟨by simp, ho0, hr.1, hr.2, hx⟩
       · obtain ⟨h1, h2⟩ := gL h; exact ⟨by simp [h1], h2⟩
     · obtain ⟨h1, h2⟩ := gL h; exact ⟨by simp [h1], h2⟩
   · obtain ⟨h1, h2⟩ := gL h; exact ⟨by simp [h1], h2⟩
theorem gU {d : Dr} : ∀ {l : List Nat} {i : Nat} {o : Oper} {v : AV} {x : Blk}, lu P kn ops d l = some (i, o, v, x) → i ∈ l ∧ ops[i]? = some o ∧ iE (gB ops d o) = true ∧ uZ ops i = false ∧ jQ P kn d.s o.op = some (v, x)
 | [], i, o, v, x, h => by simp [lu] at h
 | i0 :: l, i, o, v, x, h => by
   simp only [lu] at h
   split at h
   · rename_i o0 ho0
     split at h
     · rename_i hr
       simp only [Bool.and_eq_true, Bool.not_eq_true'] at hr
       split at h
       · rename_i v0 x0 hx
         simp at h
         obtain ⟨rfl, rfl, rfl, rfl⟩ := h
         exact ⟨by simp, ho0, hr.1, hr.2, hx⟩
       · obtain ⟨h1, h2⟩ := gU h; exact ⟨by simp [h1], h2⟩
     · obtain ⟨h1, h2⟩ := gU h; exact ⟨by simp [h1], h2⟩
   · obtain ⟨h1, h2⟩ := gU h; exact ⟨by simp [h1], h2⟩
theorem d9 {done : Ns} : ∀ {l : List Nat} {j : Nat}, j ∈ fq ops done l → j ∈ l ∧ ∃ o, ops[j]? = some o ∧ fQ o done = true
 | [], _, h => by simp [fq] at h
 | i :: l, j, h => by
   simp only [fq] at h
   split at h
   · rename_i o ho
     split at h
     · rename_i hr
       rcases List.mem_cons.1 h with rfl | h
       · exact ⟨by simp, o, ho, hr⟩
       · obtain ⟨h1, h2⟩ := d9 h; exact ⟨by simp [h1], h2⟩
     · obtain ⟨h1, h2⟩ := d9 h; exact ⟨by simp [h1], h2⟩
   · obtain ⟨h1, h2⟩ := d9 h; exact ⟨by simp [h1], h2⟩
theorem nQ {done : Ns} : ∀ {l : List Nat} {j : Nat} {o : Oper}, j ∈ l → ops[j]? = some o → fQ o done = true → j ∈ fq ops done l
 | [], _, _, h, _, _ => by simp at h
 | i :: l, j, o, h, ho, hr => by
   simp only [fq]
   rcases List.mem_cons.1 h with rfl | h
   · rw [ho]; simp [hr]
   · have := nQ h ho hr
     split
     · split
       · exact List.mem_cons_of_mem _ this
       · exact this
     · exact this
theorem Bj {f : Nat → Tree} {env : List D} : ∀ {l : List Nat}, (Im f l).vc I env → ∀ i ∈ l, (f i).vc I env
 | [], _, i, hi => by simp at hi
 | [j], h, i, hi => by simp at hi; subst hi; exact h
 | j :: k :: l, h, i, hi => by
   rcases List.mem_cons.1 hi with rfl | hi
   · exact h.1
   · exact Bj h.2 i hi
end Go.Sx
end
namespace Go.Sx
open Go
variable {A : Amb} {I : Itp} {P : Program} {g : G} {X : Nat → Prop} {ts : qD} {a : Act} {M : Mem} {w : World} {ops : Array Oper}
theorem Lj {cx : Cx} {e : Eng} (hE : zL I cx e) {s : St} {o : Oper} {k : St → Tree} {r : Option Nat} {n : Nat} {Q : Exit → Act → World → Prop} (hG : GOk cx.kn.globs A) (hs : qO A I cx.P X g s a w)
   (hx : ∀ t, .tmp t ∈ o.op.operands.toList → ¬ X t) (h : (Lx cx e s o k).vc I g.env) : o.wpIn (FW r) n cx.P a w (bW A I cx.P X g k) Q := by
 unfold Lx at h
 rw [jG] at h
 split at h
 · rename_i v s1 ps hq
   split at h
   · rename_i s' hset; exact MB hs hx hq hset h
   · exact h.elim
 · split at h
   · rename_i f l hq; exact M7 hE hG hs hx hq h
   · split at h
     · rename_i v ps hq
       split at h
       · rename_i s' hset; exact Vd hG hs hx hq hset h
       · exact h.elim
     · exact h.elim
theorem Zb : ∀ {l : List Operand} {t : Nat}, .tmp t ∈ l → t ∈ xY l
 | x :: l, t, h => by
   rcases List.mem_cons.1 h with h | h
   · subst h; simp [xY]
   · have := Zb h
     cases x <;> simp [xY, this]
 | [], _, h => by simp at h
theorem Oper.BJ {F : Fence} {o : Oper} {n : Nat} {K : Act → World → Prop} {Q : Exit → Act → World → Prop} (hh : o.wpIn F n P a w K Q) :
   o.wpIn F n P a w (fun a' w' => K a' w' ∧ ∃ x, a'.tmps = (a.put o.dst x).tmps) Q := by
 unfold Oper.wpIn at *
 refine ⟨hh.1, ?_⟩
 have hh := hh.2
 generalize (o.semAt F.round a.eval).run P w = r at *
 cases r with
 | ok x w' =>
   cases x <;> simp only [Oper.uponIn] at hh ⊢ <;>
     first
       | exact ⟨hh, _, rfl⟩
       | exact ⟨hh, undef, by cases o.dst <;> rfl⟩
       | exact ⟨hh.1, CallsIn.mono hh.2 (fun e w'' he => by cases e <;> first | exact ⟨he, _, rfl⟩ | exact he)⟩
       | exact ⟨hh.1, RowsIn.mono hh.2 (fun _ _ he => ⟨he, _, rfl⟩)⟩
       | exact ⟨hh.1, RoundIn.mono hh.2 (fun e w'' he => by cases e <;> first | exact ⟨he, _, rfl⟩ | exact he)⟩
 | halt x w' => cases x <;> simp only [Oper.uponIn] at hh ⊢ <;> exact hh
theorem Gr {old new ts : qD} {dst : Option Tmp} (h : frameT old dst new = some ts) :
   ∀ t, (dst = some t → get ts t = get new t) ∧ (dst ≠ some t → get ts t = get old t) := by
 unfold frameT at h
 intro t
 cases dst with
 | none => simp at h; subst h; simp
 | some d =>
   simp only at h
   split at h
   · rename_i v hv
     simp at h; subst h
     refine ⟨fun e => by cases e; rw [xZ, if_pos rfl, hv], fun e => by rw [xZ, if_neg (fun e' => e (by rw [e']))]⟩
   · cases h
theorem Qq {α : Type} {m : Ns} {i : Nat} {f : Nat → α} : fP (m.add i) f = f (m.add i) := KD
theorem RP {cx : Cx} {e : Eng} (hE : zL I cx e) (hG : GOk cx.kn.globs A) (hD : mg ops) {k : St → Tree} {r : Option Nat} {n : Nat} {Q : Exit → Act → World → Prop} {g0 : G}
   (hQ : ∀ g s a w, g0.Le g → qO A I cx.P (fun _ => False) g s a w → (k s).vc I g.env → Q .normal a w) :
   ∀ (m fuel : Nat) (g : G) (d : Dr) (listed : Array Bool) (a : Act) (w : World) (cov : List Nat), g0.Le g → (gy cx e ops fuel d k).vc I g.env → gW A I cx.P ops g d listed a w → (∀ i b x, (i, b, x) ∈ d.fl → g0.nb ≤ b) →
     cov.length ≤ m → (∀ i, i < ops.size → listed.getD i false = false → i ∈ cov) → wpAnyIn (FW r) n cx.P .any ops Q m listed a w := by
 -- all have been listed
 have fin : ∀ (fuel : Nat) (g : G) (d : Dr) (listed : Array Bool) (a : Act) (w : World), g0.Le g → (gy cx e ops fuel d k).vc I g.env → gW A I cx.P ops g d listed a w →
     Region.ready .any ops listed = [] → Q .normal a w := by
   intro fuel g d listed a w hg h hI hr
   have hall : ∀ i, i < ops.size → listed.getD i false = true := by
     intro i
     induction i using Nat.strongRecOn with
     | _ i ih =>
       intro hi
       cases hl : listed.getD i false with
       | true => rfl
       | false =>
         exfalso
         have : i ∈ Region.ready .any ops listed := by
           rw [mem_ready]
           refine ⟨?_, ops[i], by simp [hi], fun ed he hb => ih ed.on (hD.edge i ops[i] (by simp [hi]) ed (by simpa using he) hb) (Nat.lt_trans (hD.edge i ops[i] (by simp [hi]) ed (by simpa using he) hb) hi)⟩
           rw [Array.getD_eq_getD_getElem?] at hl ⊢
           have : i < listed.size := by rw [hI.size]; exact hi
           simp only [Array.getElem?_eq_getElem this, Option.getD_some] at hl ⊢
           exact hl
         rw [hr] at this
         cases this
   cases fuel with
   | zero => exact h.elim
   | succ f =>
     unfold gy at h
     have hnil : QD d.done (List.range ops.size) = [] := by
       rw [QB, List.filter_eq_nil_iff]
       intro i hi
       simp [Ns.mem_iff.1 (hI.sub i (hall i (List.mem_range.1 hi)))]
     rw [hnil] at h
     have hsel : Gt d.fl = ku (fun i => listed.getD i false) d.fl := KF fun i b x hm => hall i (hI.yZ i b x hm).2.1
     dsimp only at h
     rw [hsel] at h
     exact hQ g _ a w hg (hI.sr.weaken fun t ⟨i, o, _, h1, h2, _⟩ => by rw [hall i (lt_of_getElem? h2)] at h1; cases h1) h
 intro m
 induction m with
 | zero =>
   intro fuel g d listed a w cov hg h hI ZL hlen UG
   have hr : Region.ready .any ops listed = [] := by
     rw [List.eq_nil_iff_forall_not_mem]
     intro i hi
     obtain ⟨h1, o, h2, _⟩ := mem_ready.1 hi
     have hi := lt_of_getElem? h2
     have : listed.getD i false = false := by
       rw [Array.getD_eq_getD_getElem?] at h1 ⊢
       have : i < listed.size := by rw [hI.size]; exact hi
       simp only [Array.getElem?_eq_getElem this, Option.getD_some] at h1 ⊢
       exact h1
     have := UG i hi this
     have hc : cov = [] := List.length_eq_zero_iff.1 (by omega)
     rw [hc] at this; cases this
   exact ⟨hr, fin fuel g d listed a w hg h hI hr⟩
 | succ m ih =>
   intro fuel g d listed a w cov hg h hI ZL hlen UG
   refine ⟨fin fuel g d listed a w hg h hI, fun j hj => ?_⟩
   obtain ⟨hjl, o, hjo, hja⟩ := mem_ready.1 hj
   have hjs := lt_of_getElem? hjo
   have Xg : j < listed.size := by rw [hI.size]; exact hjs
   have EL : listed.getD j false = false := by
     rw [Array.getD_eq_getD_getElem?] at hjl ⊢
     simp only [Array.getElem?_eq_getElem Xg, Option.getD_some] at hjl ⊢
     exact hjl
   have JE : ∀ ed ∈ o.after.toList, Region.binds .any ed = true → listed.getD ed.on false = true := fun ed he hb => hja ed (by simpa using he) hb
   have MI : ∀ i, i < ops.size → (listed.setIfInBounds j true).getD i false = false → i ∈ cov.filter (· ≠ j) := by
     intro i hi hl
     rw [zo Xg] at hl
     split at hl
     · cases hl
     · rename_i hij
       simp [UG i hi hl, hij]
   have hlen' : (cov.filter (· ≠ j)).length ≤ m := by
     have hm := UG j hjs EL
     have : (cov.filter (· ≠ j)).length < cov.length := by
       have h1 := List.length_filter_lt_length_iff_exists (p := (· ≠ j)) (l := cov)
       exact h1.2 ⟨j, hm, by simp⟩
     omega
   unfold wpOpIn
   rw [hjo]
   simp only
   -- the executor goes on till the operation is its own next, or is behind it
   clear hlen UG
   induction fuel generalizing d g with
   | zero => exact h.elim
   | succ f ihf =>
     by_cases hjd : j ∈ d.done
     · by_cases qvL : ∃ b x, (j, b, x) ∈ d.fl
       · -- it floated
         obtain ⟨b, x, hm⟩ := qvL
         obtain ⟨hφ, v, hok, hdv⟩ := hI.aZ j b x o hm EL hjo
         obtain ⟨h1, h2⟩ := hok g ⟨⟨[], by simp⟩, fun h => h⟩ a (hI.reads' hjo JE)
         obtain ⟨obj, val, p, hpb, h3, hvr, h4⟩ := h2 (FW r).round w hφ
         rw [if_pos h1]
         refine ⟨fun _ _ => trivial, ?_⟩
         rw [h3]
         refine ih (f + 1) (g.place b p) d _ _ _ _ ⟨hg.env, hg.nb, fun c hc => ?_⟩ h (hI.GA hjo hjd EL JE hm hpb (fun t u ht hu => by rw [(hdv t ht).2] at hu; cases hu; exact hvr) (fun t ht => (hdv t ht).1) h4) ZL hlen' MI
         have := ZL j b x hm
         simp only [G.place]
         rw [if_neg (by omega)]
         exact hg.φ c hc
       · -- it lagged
         have Ua : ∀ b x, (j, b, x) ∉ d.fl := fun b x hm => qvL ⟨b, x, hm⟩
         obtain ⟨h1, h2⟩ := hI.lag j o hjd EL Ua hjo
         obtain ⟨h3, h4⟩ := h2 g w (.refl g) hI.MV a (hI.reads' hjo JE)
         split
         · rename_i hw
           obtain ⟨x, h5, h6⟩ := h3 hw (FW r).round
           refine ⟨fun _ _ => trivial, ?_⟩
           rw [h5]
           exact ih (f + 1) g d _ _ w _ hg h (hI.GI hD hjo hjd Ua JE h1 h6) ZL hlen' MI
         · rename_i hw
           have hw : Region.wanted o (yielded ops a.tmps) = false := by simpa using hw
           exact ⟨fun _ _ => trivial, ih (f + 1) g d _ _ w _ hg h (hI.GI hD hjo hjd Ua JE h1 (h4 hw)) ZL hlen' MI⟩
     · have MU : j ∈ QD d.done (List.range ops.size) := iL.2 ⟨List.mem_range.2 hjs, hjd⟩
       unfold gy at h
       split at h
       · rename_i hnil; rw [hnil] at MU; cases MU
       rename_i l hl0
       split at h
       · -- a quiet operation ahead
         rename_i i oi x hfq
         obtain ⟨h1, h2, h3, hbar, h4⟩ := gL hfq
         have hid : i ∉ d.done := (iL.1 h1).2
         cases x with
         | skip =>
           simp only at h
           split at h
           · rename_i s' hset
             obtain ⟨_, e2, _, _, _, e6, e7⟩ := rZ hset
             rw [Qq] at h
             exact ihf _ _ hg h (hI.ahead hG hD h2 hid h3 hbar hset h4 fun t ht => ⟨by rw [e2]; exact e6 t ht, by rw [e7 t, if_pos ht]⟩) ZL
           · exact h.elim
         | val v ps =>
           simp only at h
           split at h
           · rename_i s' hset
             obtain ⟨_, e2, _, _, _, e6, e7⟩ := rZ hset
             obtain ⟨hp, hk⟩ := zQ h
             rw [Qq] at hk
             exact ihf _ _ hg hk (hI.ahead hG hD h2 hid h3 hbar hset h4 ⟨hp, fun t ht => ⟨by rw [e2]; exact e6 t ht, v, by rw [e7 t, if_pos ht], fun _ _ _ hx => hx⟩⟩) ZL
           · exact h.elim
         | dec c =>
           simp only at h
           obtain ⟨hp, hk⟩ := zQ h
           obtain ⟨nn, hnn⟩ := hp (.sort false c) (by simp)
           obtain ⟨hk1, hk2⟩ := hk
           have hdec : ∀ b : Bool, b = decide (nn ≠ 0) → gW A I cx.P ops g { d with dec := (c, b) :: d.dec } listed a w := fun b hb =>
             ⟨hI.sr, hI.size, hI.sub, hI.qs, hI.lag, hI.yZ, hI.gq, hI.fidx, hI.aZ, hI.bar, fun c' b' hc' => by
               simp only [FQ] at hc'
               split at hc'
               · rename_i ec
                 simp at hc'; subst hc'; subst ec
                 exact ⟨nn, hnn, hb⟩
               · exact hI.dec c' b' hc', hI.dcl, hI.lcl⟩
           by_cases hz : nn = 0
           · subst hz
             exact ihf _ _ hg (hk2 hnn) (hdec false (by simp)) ZL
           · exact ihf _ _ hg (hk1 nn hnn hz) (hdec true (by simp [hz])) ZL
       · -- an operation that does more
         have hjr : fQ o d.done = true := gN.2 fun ed he hb => hI.sub _ (JE ed he hb)
         split at h
         · exact h.elim
         split at h
         · -- a block ahead
           rename_i i oi v x hff
           obtain ⟨h1, h2, h3, hbar, h4⟩ := gU hff
           obtain ⟨h5, o2, ho2, qbi⟩ := d9 h1
           rw [h2] at ho2; cases ho2
           have hid : i ∉ d.done := (iL.1 h5).2
           split at h
           · rename_i s' hset
             rw [Qq] at h
             refine ihf (g.lay none) _ (hg.trans (g.zi none)) h (hI.float hD h2 hid qbi hbar hset (FJ hI.dec h3 h4)) fun k b y hm => ?_
             rcases List.mem_cons.1 hm with e | hm
             · cases e
               have h6 := hI.sr.nb
               simp only at h6
               rw [← h6]; exact hg.nb
             · exact ZL k b y hm
           · exact h.elim
         rename_i hffn
         have hb := Bj h j (by
           first
             | exact nQ MU hjo hjr
             | exact (nQ (hl0 ▸ MU) hjo hjr))
         rw [hjo] at hb
         simp only at hb
         split at hb
         rotate_left
         · exact hb.elim
         rename_i hwant
         have hrd := hI.reads' hjo JE
         have hwt : Region.wanted o (yielded ops a.tmps) = true := by
           unfold iE at hwant
           split at hwant
           · rename_i hw; exact (yU hI.dec hrd).1 hw
           · cases hwant
         rw [if_pos hwt]
         have hbl : ∀ {i : Nat}, (before ops j).testBit i = true → listed.getD i false = true := fun {i} hb => by
           obtain ⟨o', ho', ed, h5, h6, h7⟩ := fU hb
           rw [hjo] at ho'; cases ho'
           have h8 := JE ed h5 h6
           rcases h7 with rfl | h7
           · exact h8
           · exact hI.lcl _ h8 _ h7
         have qbJ : g.nb = d.s.nb := hI.sr.nb
         have hjf : ∀ {i : Nat} {b : Nat} {x : Blk}, (i, b, x) ∈ d.fl → i ≠ j := fun {i b x} hm e => hjd (e ▸ (hI.yZ i b x hm).1)
         have hHM : ∀ b y, get (ku (fun i => listed.getD i false) (kr (before ops j) d.fl)) b = some y → get (kF (before ops j) d.fl ++ d.s.mem) b = none := fun b y hb => by
           obtain ⟨i, h1, h2⟩ := (zS (jF hI.gq)).1 hb
           obtain ⟨h3, h4⟩ := zC.1 h1
           rw [zB, vg]
           split
           · rename_i z hz
             obtain ⟨i', h5, h6⟩ := (zS hI.gq).1 hz
             have := vY hI.gq h3 h5 rfl
             cases this
             simp only at h4; rw [h4] at h6; cases h6
           · exact (hI.yZ i b y h3).2.2.2
         have hMH : qM A I cx.P g ((kF (before ops j) d.fl ++ d.s.mem) ++ ku (fun i => listed.getD i false) (kr (before ops j) d.fl)) w := hI.sr.m.sub fun c y hc => by
           rw [zB, zB] at hc
           simp only
           rw [zB]
           split at hc
           · rename_i z hz
             cases hc
             split at hz
             · rename_i u hu
               cases hz
               rw [vg] at hu
               obtain ⟨i, h1, h2⟩ := (zS hI.gq).1 hu
               rw [(zS hI.gq).2 ⟨i, h1, hbl h2⟩]
             · split
               · rename_i u hu
                 obtain ⟨i, h1, h2⟩ := (zS hI.gq).1 hu
                 rw [(hI.yZ i c u h1).2.2.2] at hz; cases hz
               · exact hz
           · obtain ⟨i, h1, h2⟩ := (zS (jF hI.gq)).1 hc
             rw [(zS hI.gq).2 ⟨i, (zC.1 h1).1, h2⟩]
         have hsM : qO (K4 (kF (before ops j) d.fl ++ d.s.mem) g w) I cx.P (rA ops d.done listed) g { d.s with mem := kF (before ops j) d.fl ++ d.s.mem } a w :=
           ⟨hMH.part, hI.sr.t, hI.sr.nt, hI.sr.d, hI.sr.nv, hI.sr.nb⟩
         refine Oper.wpIn_mono (fun a' w' hn => ?_) (Oper.BJ (Lj hE (hG.part hMH) hsM (fun t ht => hI.reads hjo JE t (List.mem_append_right _ (Zb ht))) hb))
         obtain ⟨⟨g', s1, hle, hs1, hk⟩, xv, hxv⟩ := hn
         dsimp only at hk
         split at hk
         · exact hk.elim
         rename_i hkeys
         have hkeys : Y9 g.nb (kF (before ops j) d.fl ++ d.s.mem) s1.mem = true := by rw [qbJ]; simpa using hkeys
         split at hk
         · exact hk.elim
         rename_i tsn hfr
         have hfs := Gr hfr
         split at hk
         rotate_left
         · exact hk.elim
         rename_i ps hrc
         obtain ⟨hp, hk⟩ := zQ hk
         rw [Qq] at hk
         have hwf := hI.sr.m.wf
         have qzm := hI.dec.le hle
         have hmf := hMH.frame hHM hle hs1.m hkeys
         have hfree : ∀ {b : Nat}, b < g.nb → get (kF (before ops j) d.fl ++ d.s.mem) b = none → get s1.mem b = none := fun {b} hb hn => by
           cases hg : get s1.mem b with
           | none => rfl
           | some z =>
             have := List.all_eq_true.1 (ZK hkeys) _ (gT hg).2
             simp only at this
             rw [if_pos hb, hn] at this
             cases this
         have qvU : ∀ {i b : Nat} {x : Blk}, (i, b, x) ∈ kr (before ops j) d.fl → get s1.mem b = none := fun {i b x} hm => by
           obtain ⟨h3, h4⟩ := zC.1 hm
           obtain ⟨_, _, h5, h6⟩ := hI.yZ i b x h3
           refine hfree (by omega) ?_
           rw [zB, vg]
           split
           · rename_i z hz
             obtain ⟨i', h7, h8⟩ := (zS hI.gq).1 hz
             have := vY hI.gq h3 h7 rfl
             cases this
             simp only at h4; rw [h4] at h8; cases h8
           · exact h6
         have hsel : ku (fun i => (listed.setIfInBounds j true).getD i false) (kr (before ops j) d.fl) = ku (fun i => listed.getD i false) (kr (before ops j) d.fl) :=
           nI fun i b x hm => by rw [zo Xg, if_neg (hjf (zC.1 hm).1)]
         have hsz : a'.tmps.size = a.tmps.size := by rw [hxv]; cases o.dst <;> simp [Act.put]
         have qbc : qO A I cx.P (rA ops (d.done.add j) (listed.setIfInBounds j true)) g' { s1 with tmps := tsn, mem := ku (fun i => (listed.setIfInBounds j true).getD i false) (kr (before ops j) d.fl) ++ s1.mem } a' w' := by
           refine ⟨hmf.sub fun c y hc => ?_, fun t v hv ht => ?_, hs1.nt, hs1.d, hs1.nv, hs1.nb⟩
           · simp only at hc
             rw [hsel, zB] at hc
             rw [zB]
             split at hc
             · rename_i z hz
               cases hc
               obtain ⟨i, h1, h2⟩ := (zS (jF hI.gq)).1 hz
               rw [qvU h1]
               exact hz
             · rw [hc]
           · have hv : get tsn t = some v := hv
             by_cases hd : o.dst = some t
             · rw [(hfs t).1 hd] at hv
               refine hs1.t t v hv ?_
               rintro ⟨i, oi, h1, h2, h3, h4⟩
               have := hD.inj hjo h3 hd h4
               subst this; exact hjd h1
             · rw [(hfs t).2 hd] at hv
               obtain ⟨y, h1, h2⟩ := hI.sr.t t v hv (by
                 rintro ⟨i, oi, h1, h2, h3, h4⟩
                 have hij : i ≠ j := fun e => hjd (e ▸ h1)
                 exact ht ⟨i, oi, Ns.zu.2 (.inr h1), by rw [zo Xg, if_neg hij]; exact h2, h3, h4⟩)
               refine ⟨y, ?_, h2.le hle hwf⟩
               rw [hxv]
               cases hdd : o.dst with
               | none => simpa [Act.put] using h1
               | some t' =>
                 have : t' ≠ t := fun e => hd (by rw [hdd, e])
                 simp [Act.put, Array.getElem?_setIfInBounds_ne this, h1]
         have hsp := xA hrc hp hs1.nv hs1.nb hs1.m.wf
         refine ih f g' { d with s := { s1 with tmps := tsn }, done := d.done.add j, fl := kr (before ops j) d.fl } _ a' w' _ (hg.trans hle) hk ⟨qbc, by simpa using hI.size, ?_, ?_, ?_, ?_, jF hI.gq, jF hI.fidx, ?_, ?_, qzm, ?_, hI.iI hjo JE⟩ (fun i b x hm => ZL i b x (zC.1 hm).1) hlen' MI
         · intro i hi
           rw [zo Xg] at hi
           split at hi
           · rename_i e; subst e; exact Ns.zu.2 (.inl rfl)
           · exact Ns.zu.2 (.inr (hI.sub i hi))
         · intro i hi hl hf
           rw [zo Xg] at hl
           split at hl
           · cases hl
           · rename_i hij
             rcases Ns.zu.1 hi with e | hi
             · exact absurd e hij
             · refine hI.qs i hi hl fun b x hm => ?_
               cases hb : (before ops j).testBit i with
               | true => have := hbl hb; rw [this] at hl; cases hl
               | false => exact hf b x (zC.2 ⟨hm, hb⟩)
         · intro i oi hi hl hf hoi
           rw [zo Xg] at hl
           split at hl
           · cases hl
           rename_i hij
           rcases Ns.zu.1 hi with e | hi
           · exact absurd e hij
           have hnb : (before ops j).testBit i = false := by
             cases hb : (before ops j).testBit i with
             | false => rfl
             | true => have := hbl hb; rw [this] at hl; cases hl
           have hnf : ∀ b x, (i, b, x) ∉ d.fl := fun b x hm => hf b x (zC.2 ⟨hm, hnb⟩)
           obtain ⟨out, h9, h10⟩ := hsp i (hI.qs i hi hl hnf) hnb oi hoi
           exact p8.Li hG (d := { d with s := { s1 with tmps := tsn } }) rfl qzm h9 (fun _ _ => rfl) h10
         · intro i b x hm
           obtain ⟨h3, h4⟩ := zC.1 hm
           obtain ⟨h5, h6, h7, _⟩ := hI.yZ i b x h3
           refine ⟨Ns.zu.2 (.inr h5), h6, ?_, qvU hm⟩
           have := hle.nb
           have h8 : g'.nb = s1.nb := hs1.nb
           show b < s1.nb
           omega
         · intro i b x oi hm hl hoi
           obtain ⟨h3, h4⟩ := zC.1 hm
           have hij := hjf h3
           rw [zo Xg, if_neg hij] at hl
           obtain ⟨h5, vv, h6, h7⟩ := hI.aZ i b x oi h3 hl hoi
           obtain ⟨hid, _, hb, _⟩ := hI.yZ i b x h3
           have hst : ∀ t ∈ readsOf ops oi, get tsn t = get d.s.tmps t := fun t ht => (hfs t).2 fun e => by
             rcases hD.read i oi j o t hoi hjo e ht with h8 | h8 | h8
             · exact hjd (hI.dcl i hid j h8)
             · exact hij h8
             · have := hbl h8; rw [this] at hl; cases hl
           have hdst : ∀ t, oi.dst = some t → get tsn t = get d.s.tmps t := fun t ht => (hfs t).2 fun e => hij (hD.inj hoi hjo ht e)
           refine ⟨by rw [hle.φ b (by omega)]; exact h5, vv, (h6.ext (hle.ext hwf)).tmps hst, fun t ht => ⟨?_, by show get tsn t = _; rw [hdst t ht]; exact (h7 t ht).2⟩⟩
           have h8 : a'.tmps.size = s1.nt := hs1.nt
           have h9 : a.tmps.size = d.s.nt := hI.sr.nt
           show t < s1.nt
           rw [← h8, hsz, h9]; exact (h7 t ht).1
         · intro i hi hl
           rw [zo Xg] at hl
           split at hl
           · cases hl
           rename_i hij
           rcases Ns.zu.1 hi with e | hi
           · exact absurd e hij
           · exact hI.bar i hi hl
         · intro i hi q hq
           have := (hI.dcl.add hjo (gN.1 hjr)) i (Ns.zu.1 hi) q hq
           exact Ns.zu.2 this
end Go.Sx
namespace Go.Sx
open Go
variable {A : Amb} {I : Itp} {P : Program} {g : G} {X : Nat → Prop} {ts : qD} {a : Act} {M : Mem} {w : World} {ops : Array Oper}
theorem Post.mono {g1 : G} {k : Ex → St → Tree} (h : g.Le g1) {e : Exit} (hp : Post A I P X g1 k e a w) : Post A I P X g k e a w := by
 obtain ⟨x, g', s', h1, h2, h3⟩ := hp
 exact ⟨x, g', s', h1, h.trans h2, h3⟩
theorem JK {l : Nat} {pl : PB} {k : Ex → St → Tree} {r : Option Nat} {n : Nat} {g2 : G} {a2 : Act} {v : Value} {w3 : World} (hle : g.Le g2) (hw2 : g2.wf) (hl : g2.φ l = some pl)
   (h : uO A I P (fun _ => False) g2 a2 (fun _ s3 => QS l k s3) v w3) : rangePost (FW r) n P pl.blk (Post A I P (fun _ => False) g k) a2 (.returned v) w3 := by
 obtain ⟨av, g3, s3, hle3, _, hs3, hk⟩ := h
 have hl3 := hle3.some hw2 hl
 unfold QS at hk
 dsimp only at hk
 split at hk
 rotate_left
 · exact hk.elim
 rename_i st j fn' ix' nt' ts' d' hg
 split at hk
 · exact hk.elim
 rename_i hst
 obtain ⟨p', q, rl, rf, hp', hq, hh, hrf, h1, h2, h3, h4, h5, h6, h7, h8⟩ := hs3.m.blk l _ hg
 rw [hl3] at hp'; cases hp'
 have hlt := hs3.m.bnd l pl hl3
 have hm4 : qM A I P g3 (put l (.loop .exhausted j fn' ix' nt' ts' d') s3.mem) (w3.putObj pl.blk (.loop { rl with state := .exhausted })) :=
   hs3.m.write hg rfl hl3 (by simp) (fun i hi => World.putObj_heap_other hi) ⟨pl, q, _, rf, hl3, hq, World.putObj_heap_same hlt, hrf, rfl, h2, h3, h4, h5, h6, h7, h8⟩
 have hs4 : qO A I P (fun _ => False) g3 { s3 with mem := put l (.loop .exhausted j fn' ix' nt' ts' d') s3.mem } a2 (w3.putObj pl.blk (.loop { rl with state := .exhausted })) :=
   ⟨hm4, hs3.t, hs3.nt, hs3.d, hs3.nv, hs3.nb⟩
 refine ⟨_, _, run_endLoop hh (by rw [h1]; exact hst), ?_⟩
 rw [h2] at hs4 ⊢
 cases j with
 | none => exact ⟨.normal, g3, { s3 with mem := put l (.loop .exhausted none fn' ix' nt' ts' d') s3.mem }, rfl, hle.trans hle3, hs4, hk⟩
 | some j =>
   cases j with
   | ret => exact wpIn_ret ⟨.ret, g3, { s3 with mem := put l (.loop .exhausted (some .ret) fn' ix' nt' ts' d') s3.mem }, rfl, hle.trans hle3, hs4, hk⟩
   | exit id => exact wpIn_exit ⟨.exit id, g3, { s3 with mem := put l (.loop .exhausted (some (.exit id)) fn' ix' nt' ts' d') s3.mem }, rfl, hle.trans hle3, hs4, hk⟩
   | goto l => exact hk.elim
theorem QN {cx : Cx} {e : Eng} (hE : zL I cx e) (hG : GOk cx.kn.globs A) {fn : FuncId} {o gf : Nat} {cap : List AV} {d : Nat} {s1 : St} {k : Ex → St → Tree} {g1 : G} {a1 : Act} {w1 : World} {q : PB} {r : Option Nat} {n : Nat}
   {rf : RF} {rl : Loop} {cs : Array Value} (hrf : QG cx.P fn o = some rf) (hle : g.Le g1) (hs : qO A I cx.P (fun _ => False) g1 s1 a1 w1) (hq : g1.φ d = some q) (h : (eP e fn o gf cap d s1 k).vc I g1.env)
   (hcap : qd I g1 cap cs.toList) (h1 : rl.state = .ready) (h2 : rl.pending = none) (h3 : rl.params.toList = rf.params) (h4 : rl.assign = rf.assign) (h5 : rl.body = rf.body) (h6 : rl.defers = q.blk) (h7 : rl.tmps = a1.tmps) :
   (∃ fn c, cx.P.funcs[gf]? = some fn ∧ fn.body = some c ∧ (fn.name == "runtime.NumGoroutine") = false) ∧
   Calls cx.P gf (#[Value.func (.yield w1.heap.size) #[] #[]] ++ cs) (w1.alloc (.loop rl)) (rangePost (FW r) n cx.P w1.heap.size (Post A I cx.P (fun _ => False) g k) a1) := by
 unfold eP at h
 let pl : PB := ⟨w1.heap.size, 0, 0⟩
 have hle2 := g1.zi (some pl)
 have hl : (g1.lay (some pl)).φ s1.nb = some pl := by simp [G.lay, hs.nb]
 have hq2 := hle2.some hs.m.wf hq
 have hm2 : qM A I cx.P (g1.lay (some pl)) ((g1.nb, .loop .ready none fn o s1.nt s1.tmps d) :: s1.mem) (w1.alloc (.loop rl)) :=
   hs.m.alloc (fun _ _ h => h) rfl ⟨pl, q, rl, rf, by simp [G.lay], hq2, heap_alloc_new w1 _, hrf, h1, h2, h3, h4, h5, h6, by rw [h7]; exact hs.nt, by rw [h7]; exact hs.t.le hle2 hs.m.wf⟩
 rw [hs.nb] at hm2
 have hs2 : qO A I cx.P (fun _ => False) (g1.lay (some pl)) (qU s1 (.loop .ready none fn o s1.nt s1.tmps d)) a1 (w1.alloc (.loop rl)) := hs.lay hm2
 have hargs : qd I (g1.lay (some pl)) ([.yld s1.nb] ++ cap) ([Value.func (.yield w1.heap.size) #[] #[]] ++ cs.toList) :=
   qd.append ⟨⟨pl, hl, rfl⟩, trivial⟩ (hcap.le hle2 hs.m.wf)
 obtain ⟨h8, h9⟩ := hE.qzu (g := g1.lay (some pl)) hG h hs2 hargs
 refine ⟨h8, ?_⟩
 have e : (#[Value.func (.yield w1.heap.size) #[] #[]] ++ cs) = ([Value.func (.yield w1.heap.size) #[] #[]] ++ cs.toList).toArray := by simp
 rw [e]
 refine h9.mono fun e w' he => ?_
 obtain ⟨v, rfl, hv⟩ := he
 exact JK (hle.trans hle2) hs2.m.wf hl hv
theorem TK {cx : Cx} {e : Eng} (hE : zL I cx e) (hG : GOk cx.kn.globs A) {fn : FuncId} {rnd r : Option Nat} {bid o : Nat} {f : Operand} {ps : Array Tmp} {ac bc : Code} {s : St} {k : Ex → St → Tree}
   (h : (yJ cx e fn rnd bid o (.rangeFunc f ps ac bc) s k).vc I g.env) (hs : qO A I cx.P (fun _ => False) g s a w) (hr : fE g rnd r) (hc : COK cx.P fn o (.rangeFunc f ps ac bc)) (n : Nat) :
   (Code.rangeFunc f ps ac bc).wpIn (FW r) n cx.P (Post A I cx.P (fun _ => False) g k) a w := by
 simp only [yJ] at h
 split at h
 rotate_left
 · exact h.elim
 rename_i gf cap hev
 have hrf : QG cx.P fn o = some { params := ps.toList, assign := ac, body := bc } := by
   have := hc 0 _ (by simp [rfs]; rfl)
   simpa using this
 obtain ⟨cs, hx, hcap⟩ : Rel I g (.func gf cap) (a.eval f) := zm hs.t hev fun _ _ h => h
 have hres : ∀ (l : Nat) (w1 : World), (resolve a.eval (rangeCall f l) 0).run cx.P w1 = .ok { target := .fn (.func gf) cs, args := #[Value.func (.yield l) #[] #[]] } w1 := by
   intro l w1
   have e : resolve a.eval (rangeCall f l) 0 = Deferred.ofValue (a.eval f) #[Value.func (.yield l) #[] #[]] := by
     have e2 : a.eval (.const (.func (.yield l) #[] #[])) = Value.func (.yield l) #[] #[] := rfl
     simp only [resolve, List.map_toArray, List.map_cons, List.map_nil, e2]
   rw [e, hx]
   simp [Deferred.ofValue]
 refine wpIn_rangeFunc fun fn' _ => ?_
 split at h
 · -- an outermost loop
   cases r with
   | some r => exact hr.elim
   | none =>
   let q : PB := ⟨w.heap.size, 0, 0⟩
   have hle1 := g.zi (some q)
   have hm1 : qM A I cx.P (g.lay (some q)) ((g.nb, .dfr true) :: s.mem) (w.alloc (.deferred (some []))) :=
     hs.m.alloc (fun _ _ h => h) rfl ⟨q, by simp [G.lay], heap_alloc_new w _⟩
   rw [hs.nb] at hm1
   have hs1 : qO A I cx.P (fun _ => False) (g.lay (some q)) { qU s (.dfr true) with defers := .blk s.nb :: s.defers } { a with defers := [{ target := .collected w.heap.size, args := #[] }] ++ a.defers } (w.alloc (.deferred (some []))) :=
     ⟨hm1, hs.t.le hle1 hs.m.wf, hs.nt, ⟨⟨q, by simp [G.lay, hs.nb], rfl⟩, hs.d.le hle1 hs.m.wf⟩, hs.nv, by simp [G.lay, qU, hs.nb]⟩
   obtain ⟨⟨fnn, c, h1, h2, h3⟩, h4⟩ := QN (r := none) (n := n) (g := g) (rl := { state := .ready, pending := none, fn := fn', tmps := a.tmps, params := ps, assign := ac, body := bc, defers := w.heap.size })
     hE hG hrf hle1 hs1 (q := q) (by simp [G.lay, hs.nb]) h (hcap.le hle1 hs.m.wf) rfl rfl rfl rfl rfl rfl rfl
   obtain ⟨W, hW⟩ : ∃ W, (w.alloc (.deferred (some []))).alloc (.loop { state := .ready, pending := none, fn := fn', tmps := a.tmps, params := ps, assign := ac, body := bc, defers := w.heap.size }) = W := ⟨_, rfl⟩
   rw [hW] at h4
   have e : (w.alloc (.deferred (some []))).heap.size = w.heap.size + 1 := by simp
   rw [e] at h4
   refine ⟨w.heap.size + 1, [{ target := .collected w.heap.size, args := #[] }], W, _, W, gf, #[Value.func (.yield (w.heap.size + 1)) #[] #[]] ++ cs, W, by rw [← hW]; exact run_enterLoop_outer _ _ _ _ _, hres _ _, fun _ _ => trivial, ?_, fun h => by simp [FW, Fence.wide] at h, ?_⟩
   · have := yh (w := W) h1 h2 h3 (#[Value.func (.yield (w.heap.size + 1)) #[] #[]] ++ cs)
     simpa [invoke] using this
   · rw [gQ]; exact h4
 · -- a loop within a round
   rename_i l0
   cases r with
   | none => exact hr.elim
   | some r =>
   obtain ⟨p0, hp0, rfl⟩ := hr
   split at h
   rotate_left
   · exact h.elim
   rename_i d hg0
   obtain ⟨p', q, rl0, rf0, hp', hq, hh, _, _, _, _, _, _, h6, _, _⟩ := hs.m.blk l0 _ hg0
   rw [hp0] at hp'; cases hp'
   obtain ⟨⟨fnn, c, h1, h2, h3⟩, h4⟩ := QN (r := some p0.blk) (n := n) (g := g) (rl := { state := .ready, pending := none, fn := fn', tmps := a.tmps, params := ps, assign := ac, body := bc, defers := rl0.defers })
     hE hG hrf (.refl g) hs hq h hcap rfl rfl rfl rfl rfl h6 rfl
   obtain ⟨W, hW⟩ : ∃ W, w.alloc (.loop { state := .ready, pending := none, fn := fn', tmps := a.tmps, params := ps, assign := ac, body := bc, defers := rl0.defers }) = W := ⟨_, rfl⟩
   rw [hW] at h4
   refine ⟨w.heap.size, [], W, _, W, gf, #[Value.func (.yield w.heap.size) #[] #[]] ++ cs, W, by rw [← hW]; exact run_enterLoop_inner hh _ _ _ _ _, hres _ _, fun _ _ => trivial, ?_, fun h => by simp [FW, Fence.wide] at h, ?_⟩
   · have := yh (w := W) h1 h2 h3 (#[Value.func (.yield w.heap.size) #[] #[]] ++ cs)
     simpa [invoke] using this
   · rw [gQ]; simpa using h4
theorem FK {cx : Cx} {e : Eng} (hE : zL I cx e) (hG : GOk cx.kn.globs A) {fn : FuncId} {rnd r : Option Nat} {bid o : Nat} {c : Code} {s : St} {k : Ex → St → Tree}
   (h : (yJ cx e fn rnd bid o c s k).vc I g.env) (hs : qO A I cx.P (fun _ => False) g s a w) (hr : fE g rnd r) (hc : COK cx.P fn o c) (n : Nat) :
   c.wpIn (FW r) n cx.P (Post A I cx.P (fun _ => False) g k) a w := by
 cases c with
 | skip => exact wpIn_skip ⟨.normal, g, s, rfl, .refl _, hs, h⟩
 | label l => exact wpIn_label ⟨.normal, g, s, rfl, .refl _, hs, h⟩
 | ret => exact wpIn_ret ⟨.ret, g, s, rfl, .refl _, hs, h⟩
 | exit id => exact wpIn_exit ⟨.exit id, g, s, rfl, .refl _, hs, h⟩
 | seq x y =>
   simp only [yJ] at h
   have hcx : COK cx.P fn o x := fun i rf hi => hc i rf (by
     simp only [rfs]
     rw [List.getElem?_append_left]
     · exact hi
     · rcases Nat.lt_or_ge i (rfs x).length with h | h
       · exact h
       · rw [List.getElem?_eq_none (by simpa using h)] at hi; cases hi)
   have hcy : COK cx.P fn (o + (rfs x).length) y := fun i rf hi => by
     have := hc ((rfs x).length + i) rf (by
       simp only [rfs]
       rw [List.getElem?_append_right (by omega)]
       simpa using hi)
     rw [← Nat.add_assoc] at this
     exact this
   refine wpIn_seq (wpIn_mono (hE.exec hG h hs hr hcx n) fun ex a1 w1 hp => ?_)
   obtain ⟨x1, g1, s1, rfl, hle, hs1, hk⟩ := hp
   cases x1 with
   | normal => exact wpIn_mono (hE.exec hG hk hs1 (hr.le hle hs.m.wf) hcy n) fun ex a2 w2 hp => hp.mono hle
   | ret => exact ⟨.ret, g1, s1, rfl, hle, hs1, hk⟩
   | exit id => exact ⟨.exit id, g1, s1, rfl, hle, hs1, hk⟩
   | goto l => exact ⟨.goto l, g1, s1, rfl, hle, hs1, hk⟩
 | block id b =>
   simp only [yJ] at h
   refine wpIn_block (wpIn_mono (hE.exec hG h hs hr (fun i rf hi => hc i rf (by simpa [rfs] using hi)) n) fun ex a1 w1 hp => ?_)
   obtain ⟨x1, g1, s1, rfl, hle, hs1, hk⟩ := hp
   cases x1 with
   | normal => exact ⟨.normal, g1, s1, rfl, hle, hs1, hk⟩
   | ret => exact ⟨.ret, g1, s1, rfl, hle, hs1, hk⟩
   | exit id' =>
     dsimp only at hk
     simp only [Ex.toX, Exit.inBlock]
     split at hk
     · rename_i he; rw [if_pos he]; exact ⟨.normal, g1, s1, rfl, hle, hs1, hk⟩
     · rename_i he; rw [if_neg he]; exact ⟨.exit id', g1, s1, rfl, hle, hs1, hk⟩
   | goto l => exact ⟨.goto l, g1, s1, rfl, hle, hs1, hk⟩
 | cond c x y =>
   simp only [yJ] at h
   have hcx : COK cx.P fn o x := fun i rf hi => hc i rf (by
     simp only [rfs]
     rw [List.getElem?_append_left]
     · exact hi
     · rcases Nat.lt_or_ge i (rfs x).length with h | h
       · exact h
       · rw [List.getElem?_eq_none (by simpa using h)] at hi; cases hi)
   have hcy : COK cx.P fn (o + (rfs x).length) y := fun i rf hi => by
     have := hc ((rfs x).length + i) rf (by
       simp only [rfs]
       rw [List.getElem?_append_right (by omega)]
       simpa using hi)
     rw [← Nat.add_assoc] at this
     exact this
   split at h
   · rename_i m hev
     obtain ⟨m', h1, h2⟩ : Rel I g (.bool (.lit m)) (a.eval c) := zm hs.t hev fun _ _ h => h
     simp [E.den] at h1; subst h1
     split at h
     · rename_i hm
       subst hm
       exact wpIn_cond_false (by simpa using h2) (hE.exec hG h hs hr hcy n)
     · rename_i hm
       exact wpIn_cond_true (by simpa [hm] using h2) (hE.exec hG h hs hr hcx n)
   · rename_i q _ hev
     obtain ⟨m, h1, h2⟩ : Rel I g (.bool q) (a.eval c) := zm hs.t hev fun _ _ h => h
     obtain ⟨h3, h4⟩ := h
     by_cases hm : m = 0
     · subst hm
       exact wpIn_cond_false (by simpa using h2) (hE.exec hG (h4 h1) hs hr hcy n)
     · exact wpIn_cond_true (by simpa [hm] using h2) (hE.exec hG (h3 m h1 hm) hs hr hcx n)
   · exact h.elim
 | loop b => exact (hE.loop hG h hs hr (fun i rf hi => hc i rf (by simpa [rfs] using hi)) n).wp
 | region id ops dr =>
   cases dr with
   | false =>
     simp only [yJ] at h
     split at h
     · exact h.elim
     rename_i hdf
     have hd : r = none ∨ ∀ (i : Nat) (o : Oper), ops[i]? = some o → vk o.op = false := by
       cases rnd with
       | none => cases r with
         | none => exact .inl rfl
         | some _ => exact hr.elim
       | some b =>
         right
         intro i o ho
         simp only [Option.isSome_some, Bool.true_and, Bool.not_eq_true] at hdf
         rw [Array.any_eq_false'] at hdf
         cases hb : vk o.op with
         | false => rfl
         | true => exact absurd hb (hdf o (Array.mem_of_getElem? ho))
     exact wpIn_region (iK hE hG hd hs h fun g' a' w' hle hn => by
       obtain ⟨g2, s2, h1, h2, h3⟩ := hn
       exact ⟨.normal, g2, s2, rfl, hle.trans h1, h2, h3⟩)
   | true =>
     simp only [yJ] at h
     split at h
     rotate_left
     · exact h.elim
     rename_i hcond
     simp only [Bool.and_eq_true] at hcond
     have hD := GH hcond.1
     have hs' : qO A I cx.P (fun _ => False) g s a { w with drawn := w.drawn + 1 } := ⟨hs.m.rH rfl, hs.t, hs.nt, hs.d, hs.nv, hs.nb⟩
     refine wpIn_region_any hcond.2 ?_
     refine RP hE hG hD (g0 := g) (k := fun s' => k .normal s') (fun g' s' a' w' h1 h2 h3 => ⟨.normal, g', s', rfl, h1, h2, h3⟩) ops.size _ g _ _ a _ (List.range ops.size) (.refl g) h ?_ (fun i b x hm => by simp at hm) (by simp) (fun i hi _ => by simpa using hi)
     refine ⟨hs'.weaken fun t h => h.elim, by simp, fun i hi => ?_, fun i hi => absurd hi Ns.uj, fun i o hi => absurd hi Ns.uj, fun i b x hm => by simp at hm, rfl, rfl, fun i b x o hm => by simp at hm, fun i hi => absurd hi Ns.uj, fun c b hc => by simp [FQ] at hc, fun i hi => absurd hi Ns.uj, fun i hi => ?_⟩
     · exfalso
       simp only [Array.getD_eq_getD_getElem?, Array.getElem?_replicate] at hi
       split at hi <;> simp at hi
     · exfalso
       simp only [Array.getD_eq_getD_getElem?, Array.getElem?_replicate] at hi
       split at hi <;> simp at hi
 | rangeFunc f ps x y => exact TK hE hG h hs hr hc n
 | _ => exact h.elim
theorem Fj {cx : Cx} {e : Eng} (hE : zL I cx e) (hG : GOk cx.kn.globs A) {fn : FuncId} {rnd r : Option Nat} {bid o : Nat} {c : Code} {s : St} {k : Ex → St → Tree}
   (h : (Zt cx e fn rnd bid o c s k).vc I g.env) (hs : qO A I cx.P (fun _ => False) g s a w) (hr : fE g rnd r) (hc : COK cx.P fn o c) (n : Nat) :
   yL (FW r) n cx.P c (Post A I cx.P (fun _ => False) g k) a w := by
 unfold Zt at h
 split at h
 · exact VI hE hG h hs hr hc n
 · refine yL.round (wpIn_mono (hE.exec hG h hs hr hc n) fun ex a1 w1 hp => ?_)
   obtain ⟨x1, g1, s1, rfl, hle, hs1, hk⟩ := hp
   cases x1 with
   | normal =>
     have hs1 : qO A I cx.P (fun _ => False) g1 { s1 with tmps := uh s.tmps s1.tmps, mem := gcR s.nb { s1 with tmps := uh s.tmps s1.tmps } } a1 w1 := { hs1 with t := fun t v h1 h2 => hs1.t t v (og h1) h2, m := hs1.m.sub fun b y hb => EO (s := { s1 with tmps := uh s.tmps s1.tmps }) hb }
     have := hE.loop hG hk hs1 (hr.le hle hs.m.wf) hc n
     intro b k' cs h1 h2 h3
     obtain ⟨e', a', w', hq, harr⟩ := this b k' cs h1 h2 h3
     exact ⟨e', a', w', hq.mono hle, harr⟩
   | ret => exact ⟨.ret, g1, s1, rfl, hle, hs1, hk⟩
   | exit id => exact ⟨.exit id, g1, s1, rfl, hle, hs1, hk⟩
   | goto l => exact ⟨.goto l, g1, s1, rfl, hle, hs1, hk⟩
theorem KP {cx : Cx} (hC : ∀ c ∈ cx.cs, COk I cx.P cx.kn.globs c) : ∀ n, zL I cx (eng cx n)
 | 0 => ⟨fun _ h => h.elim, fun _ h => h.elim, fun _ h => h.elim, fun _ h => h.elim⟩
 | n + 1 =>
   have hE := KP hC n
   ⟨fun hG h hs hr hc => FK hE hG h hs hr hc, fun hG h hs hr hc => Fj hE hG h hs hr hc, fun hG h hs hf ha => G5 hE hG hC h hs hf ha, fun hG h hs ha => bJ hE hG hC h hs ha⟩
end Go.Sx
namespace Go.Sx
open Go
variable {A : Amb} {I : Itp} {P : Program} {g : G} {X : Nat → Prop} {ts : qD} {a : Act} {M : Mem} {w : World} {ops : Array Oper}
theorem J3 {c : Contract} {v : AV} {s : St} {g2 : G} {x : Value} {w' : World} (hso : Sorts c.sorts g.env) (hnb : g.nb = c.nb) (hle : g.Le g2) (h : (Xc c v s).vc I g2.env)
   (hm : qM A I P g2 s.mem w') (hv : Rel I g2 v x) :
   ∃ outs g', Sorts c.outs outs ∧ g'.env = g.env ++ outs ∧ g'.nb = c.nb + c.fresh.length ∧ (∀ b, b < c.nb → g'.φ b = g.φ b) ∧ Rel I g' c.res x ∧ qM A I P g' (c.mods ++ c.fresh) w' ∧ ∀ p ∈ c.post, p.den I g'.env := by
 unfold Xc at h
 simp only at h
 split at h
 · exact h.elim
 rename_i hcond
 simp only [Bool.or_eq_true, Bool.not_eq_true', decide_eq_false_iff_not, not_or, Bool.not_eq_false, Decidable.not_not] at hcond
 obtain ⟨hle', hlen⟩ := hcond
 generalize hu : xE c.sorts.length c.nb c.outs.length c.fresh.length { tmps := [(0, c.res)], nt := 0, defers := [], mem := c.mods ++ c.fresh, nv := c.sorts.length, nb := c.nb } { tmps := [(0, v)], nt := 0, defers := [], mem := s.mem, nv := c.sorts.length, nb := c.nb } = u at *
 have hu1 : u.nv = c.sorts.length := by rw [← hu]; rfl
 have hu2 : u.nb = c.nb := by rw [← hu]; rfl
 have hu3 : u.kb = c.nb + c.fresh.length := by rw [← hu]; rfl
 obtain ⟨hps, _⟩ := zQ h
 obtain ⟨ds, hds, qbV⟩ := yx hlen (fun p hp => hps p (by simp [hp]))
 obtain ⟨⟨xs, hxs⟩, qbY, qw2⟩ := hle
 have hnv := hso.length
 have hfit : u.Fits I g2 ds := ⟨hds, by rw [hu1, hxs]; simp; omega, by omega⟩
 have htake : g2.env.take u.nv = g.env := by rw [hu1, hxs, ← hnv, List.take_left']; rfl
 simp only [Fix.leS, Bool.and_eq_true, beq_iff_eq] at hle'
 obtain ⟨⟨⟨⟨_, _⟩, hleT⟩, RX⟩, hok⟩ := hle'
 have aI : (u.view g2 ds).env = g.env ++ ds := by simp [Fix.view, htake]
 refine ⟨ds, u.view g2 ds, qbV, aI, by simp [Fix.view, hu3], fun b hb => ?_, ?_, Fix.qws hfit hm RX hok, fun p hp => ?_⟩
 · have : u.img b = some b := by unfold Fix.img; rw [if_pos (by omega)]
   rw [Fix.zJ this, qw2 b (by omega)]
 · have h0 : kM I g2 (fun _ => False) [(0, v)] #[x] := fun t v' hv' _ => by
     simp only [qQ] at hv'
     split at hv'
     · rename_i he; subst he; simp at hv'; subst hv'; exact ⟨_, rfl, hv⟩
     · cases hv'
   obtain ⟨y, hy, hr⟩ := Fix.ug hfit hleT h0 0 c.res (by simp [qQ]) (fun h => h)
   simp at hy; subst hy
   exact hr
 · have := PE.zl (n := c.sorts.length) hds (by rw [hxs]; simp; omega) (hps (p.subst c.sorts.length u.σ) (by simp; exact .inr ⟨p, hp, rfl⟩))
   rw [← hu1] at this
   simpa [Fix.view] using this
theorem qzw {env : List D} {a b : E} (h : (PE.tt (mkBin .le a b)).den I env) : ∃ x y, a.den I env = some (.i x) ∧ b.den I env = some (.i y) ∧ x ≤ y := by
 obtain ⟨z, h1, h2⟩ := h
 unfold mkBin at h1
 split at h1
 · rename_i x y
   refine ⟨x, y, rfl, rfl, ?_⟩
   simp only [E.den, Option.some.injEq, D.i.injEq, BO.ev] at h1
   by_cases hxy : x ≤ y
   · exact hxy
   · simp [hxy] at h1; omega
 · simp only [E.den] at h1
   split at h1
   · rename_i x y hx hy
     refine ⟨x, y, hx, hy, ?_⟩
     simp only [Option.some.injEq, D.i.injEq, BO.ev] at h1
     by_cases hxy : x ≤ y
     · exact hxy
     · simp [hxy] at h1; omega
   · cases h1
theorem qM.weak {b : Nat} {x y : Blk} (h : qM A I P g M w) (hb : get M b = some x) (hy : jU I P g b (fun i => w.heap[i]?) y) (hw : y.wr = x.wr) : qM A I P g (put b y M) w where
 wf := h.wf
 blk := fun c z hc => by
   rw [get_put] at hc
   split at hc
   · rename_i e; subst e; cases hc; exact hy
   · exact h.blk c z hc
 lt := fun c z hc => by
   rw [get_put] at hc
   split at hc
   · rename_i e; subst e; exact h.lt b x hb
   · exact h.lt c z hc
 inj := fun c d z z' p q hc hd hz hp hq e => by
   rw [get_put] at hc hd
   have h1 : ∃ z, get M c = some z ∧ z.wr = true := by
     split at hc
     · rename_i e; subst e; cases hc; exact ⟨x, hb, hw ▸ hz⟩
     · exact ⟨z, hc, hz⟩
   have h2 : ∃ z, get M d = some z := by
     split at hd
     · rename_i e; subst e; exact ⟨x, hb⟩
     · exact ⟨z', hd⟩
   obtain ⟨z1, h1, h1w⟩ := h1
   obtain ⟨z2, h2⟩ := h2
   exact h.inj c d z1 z2 p q h1 h2 h1w hp hq e
 bnd := h.bnd
 own := fun c z p hc hz hp => by
   rw [get_put] at hc
   split at hc
   · rename_i e; subst e; cases hc; exact h.own b x p hb (hw ▸ hz) hp
   · exact h.own c z p hc hz hp
 size := h.size
 keep := h.keep
 same := h.same
theorem u7 {u : Fix} : ∀ {l M : Mem}, qM A I P g M w → (∀ p ∈ (Kq u l M).2, p.den I g.env) → qM A I P g (Kq u l M).1 w
 | [], _, hm, _ => hm
 | x :: l, M, hm, hp => by
   simp only [Kq] at hp ⊢
   split
   · rename_i c y ps ht
     rw [ht] at hp
     simp only [List.mem_append] at hp
     refine u7 ?_ fun p h => hp p (.inr h)
     unfold qqA at ht
     split at ht
     · split at ht
       · split at ht
         · rename_i ks t n' wr nl hg
           split at ht
           · split at ht
             · cases ht
             · split at ht
               · rename_i row
                 simp only [Option.some.injEq, Prod.mk.injEq] at ht
                 obtain ⟨rfl, rfl, rfl⟩ := ht
                 refine hm.weak hg ?_ rfl
                 obtain ⟨f1, f2, k0, e1, e2, e3, e4⟩ := hp _ (.inl List.mem_cons_self)
                 obtain ⟨f, N, k1, k2, k3, k4⟩ := hm.blk _ _ hg
                 rw [k1] at e2; cases e2
                 rw [k2] at e3; cases e3
                 refine ⟨f1, _, e1, k2, k3, ?_⟩
                 rcases k4 with ⟨p, cs, T, fr, q1, q2, q3, q4⟩ | ⟨q1, q2, q3⟩
                 · exact .inl ⟨p, cs, T, fr, q1, q2, fun r j k hr hj => by
                     rw [e4 r j (by omega) (by omega) (List.getElem?_eq_some_iff.1 hj).1]
                     exact q3 r j k hr hj, q4⟩
                 · exact .inr ⟨q1, q2, q3⟩
               · cases ht
           · simp only [Option.some.injEq, Prod.mk.injEq] at ht
             obtain ⟨rfl, rfl, rfl⟩ := ht
             refine hm.weak hg ?_ rfl
             obtain ⟨z, a, h1, h2, h3⟩ := qzw (hp _ (.inl List.mem_cons_self))
             obtain ⟨a', m, h4, h5, h6⟩ := qzw (hp _ (.inl (List.mem_cons_of_mem _ List.mem_cons_self)))
             simp only [E.den, Option.some.injEq, D.i.injEq] at h1
             subst h1
             rw [h4] at h2; cases h2
             obtain ⟨f, N, k1, k2, k3, k4⟩ := hm.blk _ _ hg
             rw [k2] at h5; cases h5
             refine ⟨f, a, k1, h4, h3, ?_⟩
             rcases k4 with ⟨p, cs, T, fr, q1, q2, q3, q4⟩ | ⟨q1, q2, q3⟩
             · exact .inl ⟨p, cs, T, fr, q1, q2, fun r j k hr hj => q3 r j k (by omega) hj, fun hw => by
                 obtain ⟨e1, e2, e3⟩ := q4 hw
                 exact ⟨e1, e2, Nat.le_trans (Nat.mul_le_mul_right _ (by omega)) e3⟩⟩
             · exact .inr ⟨q1, by omega, q3⟩
         · cases ht
       · cases ht
     · cases ht
   · rename_i ht
     rw [ht] at hp
     exact u7 hm hp
theorem Xt {c : Contract} {v : AV} {s : St} {g2 : G} {x : Value} {w' : World} (hso : Sorts c.sorts g.env) (hnb : g.nb = c.nb) (hle : g.Le g2) (h : (finish c v s).vc I g2.env)
   (hm : qM A I P g2 s.mem w') (hv : Rel I g2 v x) :
   ∃ outs g', Sorts c.outs outs ∧ g'.env = g.env ++ outs ∧ g'.nb = c.nb + c.fresh.length ∧ (∀ b, b < c.nb → g'.φ b = g.φ b) ∧ Rel I g' c.res x ∧ qM A I P g' (c.mods ++ c.fresh) w' ∧ ∀ p ∈ c.post, p.den I g'.env := by
 unfold finish at h
 obtain ⟨hp, h'⟩ := zQ h
 exact J3 hso hnb hle h' (u7 hm hp) hv
theorem Ws {cx : Cx} (hC : ∀ c ∈ cx.cs, COk I cx.P cx.kn.globs c) {fuel : Nat} {c : Contract} (h : ∀ ds, Sorts c.sorts ds → (verify cx fuel c).vc I ds) : COk I cx.P cx.kn.globs c := by
 intro g w xs hso hnb hG hm ha hpre
 have hv := h g.env hso
 unfold verify at hv
 split at hv
 rotate_left
 · exact hv.elim
 split at hv
 rotate_left
 · exact hv.elim
 have hb := fI hv hpre
 have hE := KP hC fuel
 have hE' : zL I { cx with cs := [] } (eng cx fuel) := ⟨hE.exec, hE.loop, hE.pK, hE.qzu⟩
 have hs : qO (c.amb g w) I cx.P (fun _ => False) g { tmps := [], nt := 0, defers := [], mem := c.mem, nv := c.sorts.length, nb := c.nb } { tmps := #[], defers := [] } w :=
   ⟨hm, fun t v ht _ => by simp [get_nil] at ht, rfl, trivial, hso.length, hnb⟩
 obtain ⟨_, hcall⟩ := bJ hE' hG (fun c hc => by simp at hc) hb hs ha
 refine hcall.mono fun e w' he => ?_
 obtain ⟨v, rfl, av, g2, s2, hle, hrel, hs2, hk⟩ := he
 obtain ⟨outs, g', h1, h2, h3, h4, h5, h6, h7⟩ := Xt hso hnb hle hk hs2.m hrel
 exact ⟨v, outs, g', rfl, h1, h2, h3, h4, h5, h6, h7⟩
end Go.Sx
noncomputable section
namespace Go.Sx
open Go
variable {I : Itp} {P : Program}
theorem COk.bare {gl : List Glob} {c : Contract} (h : COk I P gl c) (hm : c.mem = []) (hnb : c.nb = 0) {ds : List D} (hso : Sorts c.sorts ds) {xs : List Value} (w : World) (hG : GOk gl { w0 := w, X := fun _ => False }) (ha : qd I { env := ds, φ := fun _ => none, nb := 0 } c.args xs)
   (hp : ∀ p ∈ c.pre, p.den I ds) : Calls P c.fn xs.toArray w fun e w' => ∃ v outs g', e = .returned v ∧ Sorts c.outs outs ∧ g'.env = ds ++ outs ∧ Rel I g' c.res v ∧ (∀ p ∈ c.post, p.den I g'.env) ∧
     w'.os = w.os ∧ w'.output = w.output ∧ w.heap.size ≤ w'.heap.size ∧ ∀ i, i < w.heap.size → w'.heap[i]? = w.heap[i]? := by
 let g : G := { env := ds, φ := fun _ => none, nb := 0 }
 have hX : ∀ i, ¬ (c.amb g w).X i := by
   rintro i ⟨b, x, p, h1, _⟩
   rw [hm] at h1; simp [get_nil] at h1
 have hmr : qM (c.amb g w) I P g c.mem w := by
   rw [hm]
   exact ⟨fun _ _ => rfl, fun b x hb => by simp [get_nil] at hb, fun b x hb => by simp [get_nil] at hb, fun b c x y p q hb => by simp [get_nil] at hb, fun b p hb => by simp [g] at hb, fun b x p hb => by simp [get_nil] at hb, Nat.le_refl _, fun _ _ _ => rfl, rfl, rfl⟩
 refine (h g w xs hso (by rw [hnb]) (fun x hx => let ⟨h1, _, h3⟩ := hG x hx; ⟨h1, hX _, h3⟩) hmr ha hp).mono fun e w' he => ?_
 obtain ⟨v, outs, g', rfl, h1, h2, _, _, h5, h6, h7⟩ := he
 exact ⟨v, outs, g', rfl, h1, h2, h5, h7, h6.same.1, h6.same.2, h6.size, fun i hi => h6.keep i hi (hX i)⟩
end Go.Sx
end
noncomputable section
namespace Go.Sx
open Go
variable {I : Itp}
def E.qV (fs : Nat → Option Bool) (ss : List Bool) : E → Option Bool
 | .lit _ => some false
 | .var i => ss[i]?
 | .bin _ a b => if a.qV fs ss = some false ∧ b.qV fs ss = some false then some false else none
 | .wrap _ a => if a.qV fs ss = some false then some false else none
 | .zt => some true
 | .kt _ => some true
 | .bt _ => some true
 | .sel t r _ => if t.qV fs ss = some true ∧ r.qV fs ss = some false then some false else none
 | .upd t r _ v => if t.qV fs ss = some true ∧ r.qV fs ss = some false ∧ v.qV fs ss = some false then some true else none
 | .cat t n u => if t.qV fs ss = some true ∧ n.qV fs ss = some false ∧ u.qV fs ss = some true then some true else none
 | .sh t n => if t.qV fs ss = some true ∧ n.qV fs ss = some false then some true else none
 | .teq t n u m => if (t.qV fs ss = some true ∧ n.qV fs ss = some false) ∧ u.qV fs ss = some true ∧ m.qV fs ss = some false then some false else none
 | .fn j a b c d => if (a.qV fs ss).isSome ∧ (b.qV fs ss).isSome ∧ (c.qV fs ss).isSome ∧ (d.qV fs ss).isSome then fs j else none
def D.is : Bool → D → Prop
 | true, .t _ => True
 | false, .i _ => True
 | _, _ => False
theorem D.ZM {d : D} (h : d.is false) : ∃ n, d = .i n := by cases d with | i n => exact ⟨n, rfl⟩ | t f => exact h.elim
theorem D.Gg {d : D} (h : d.is true) : ∃ f, d = .t f := by cases d with | i n => exact h.elim | t f => exact ⟨f, rfl⟩
def Itp.tot (I : Itp) (fs : Nat → Option Bool) : Prop := ∀ j s, fs j = some s → ∀ a b c d, ∃ x, I.ap j a b c d = some x ∧ x.is s
theorem Sorts.get : ∀ {ss : List Bool} {env : List D} {i : Nat} {b : Bool}, Sorts ss env → ss[i]? = some b → ∃ d, env[i]? = some d ∧ d.is b
 | true :: l, .t f :: m, 0, b, _, h => by simp at h; subst h; exact ⟨_, rfl, trivial⟩
 | false :: l, .i f :: m, 0, b, _, h => by simp at h; subst h; exact ⟨_, rfl, trivial⟩
 | true :: l, .t f :: m, i + 1, b, hs, h => by simpa using Sorts.get (ss := l) (env := m) (i := i) hs (by simpa using h)
 | false :: l, .i f :: m, i + 1, b, hs, h => by simpa using Sorts.get (ss := l) (env := m) (i := i) hs (by simpa using h)
 | [], [], _, _, _, h => by simp at h
 | [], _ :: _, _, _, h, _ => h.elim
 | true :: _, [], _, _, h, _ => h.elim
 | false :: _, [], _, _, h, _ => h.elim
 | true :: _, .i _ :: _, _, _, h, _ => h.elim
 | false :: _, .t _ :: _, _, _, h, _ => h.elim
theorem Sorts.app : ∀ {ss : List Bool} {env : List D} {b : Bool} {d : D}, Sorts ss env → d.is b → Sorts (ss ++ [b]) (env ++ [d])
 | [], [], true, .t _, _, _ => trivial
 | [], [], false, .i _, _, _ => trivial
 | [], [], true, .i _, _, h => h.elim
 | [], [], false, .t _, _, h => h.elim
 | true :: l, .t _ :: m, _, _, hs, h => Sorts.app (ss := l) (env := m) hs h
 | false :: l, .i _ :: m, _, _, hs, h => Sorts.app (ss := l) (env := m) hs h
 | [], _ :: _, _, _, h, _ => h.elim
 | true :: _, [], _, _, h, _ => h.elim
 | false :: _, [], _, _, h, _ => h.elim
 | true :: _, .i _ :: _, _, _, h, _ => h.elim
 | false :: _, .t _ :: _, _, _, h, _ => h.elim
theorem E.tu {fs : Nat → Option Bool} (hI : I.tot fs) {ss : List Bool} {env : List D} (hs : Sorts ss env) : ∀ {e : E} {b : Bool}, e.qV fs ss = some b → ∃ d, e.den I env = some d ∧ d.is b := by
 intro e
 induction e with
 | lit n => intro b h; simp only [E.qV, Option.some.injEq] at h; subst h; exact ⟨_, rfl, trivial⟩
 | zt => intro b h; simp only [E.qV, Option.some.injEq] at h; subst h; exact ⟨_, rfl, trivial⟩
 | kt row => intro b h; simp only [E.qV, Option.some.injEq] at h; subst h; exact ⟨_, rfl, trivial⟩
 | bt b' => intro b h; simp only [E.qV, Option.some.injEq] at h; subst h; exact ⟨_, rfl, trivial⟩
 | var i => intro b h; exact hs.get h
 | bin o x y ihx ihy =>
   intro b h
   simp only [E.qV] at h
   split at h
   · rename_i hc
     cases h
     obtain ⟨d1, h1, k1⟩ := ihx hc.1
     obtain ⟨d2, h2, k2⟩ := ihy hc.2
     obtain ⟨n1, rfl⟩ := D.ZM k1
     obtain ⟨n2, rfl⟩ := D.ZM k2
     exact ⟨.i (o.ev n1 n2), by simp [E.den, h1, h2], trivial⟩
   · cases h
 | wrap k x ihx =>
   intro b h
   simp only [E.qV] at h
   split at h
   · rename_i hc
     cases h
     obtain ⟨d1, h1, k1⟩ := ihx hc
     obtain ⟨n1, rfl⟩ := D.ZM k1
     exact ⟨.i (k.wrap n1), by simp [E.den, h1], trivial⟩
   · cases h
 | sel t r c iht ihr =>
   intro b h
   simp only [E.qV] at h
   split at h
   · rename_i hc
     cases h
     obtain ⟨d1, h1, k1⟩ := iht hc.1
     obtain ⟨d2, h2, k2⟩ := ihr hc.2
     obtain ⟨f, rfl⟩ := D.Gg k1
     obtain ⟨n2, rfl⟩ := D.ZM k2
     exact ⟨.i (f n2 c), by simp [E.den, h1, h2], trivial⟩
   · cases h
 | upd t r c v iht ihr ihv =>
   intro b h
   simp only [E.qV] at h
   split at h
   · rename_i hc
     cases h
     obtain ⟨d1, h1, k1⟩ := iht hc.1
     obtain ⟨d2, h2, k2⟩ := ihr hc.2.1
     obtain ⟨d3, h3, k3⟩ := ihv hc.2.2
     obtain ⟨f, rfl⟩ := D.Gg k1
     obtain ⟨n2, rfl⟩ := D.ZM k2
     obtain ⟨n3, rfl⟩ := D.ZM k3
     exact ⟨.t (qg f n2 c n3), by simp only [E.den, h1, h2, h3], trivial⟩
   · cases h
 | cat t n u iht ihr ihv =>
   intro b h
   simp only [E.qV] at h
   split at h
   · rename_i hc
     cases h
     obtain ⟨d1, h1, k1⟩ := iht hc.1
     obtain ⟨d2, h2, k2⟩ := ihr hc.2.1
     obtain ⟨d3, h3, k3⟩ := ihv hc.2.2
     obtain ⟨f, rfl⟩ := D.Gg k1
     obtain ⟨n2, rfl⟩ := D.ZM k2
     obtain ⟨f3, rfl⟩ := D.Gg k3
     exact ⟨.t (BN f n2 f3), by simp only [E.den, h1, h2, h3], trivial⟩
   · cases h
 | sh t n iht ihn =>
   intro b h
   simp only [E.qV] at h
   split at h
   · rename_i hc
     cases h
     obtain ⟨d1, h1, k1⟩ := iht hc.1
     obtain ⟨d2, h2, k2⟩ := ihn hc.2
     obtain ⟨f, rfl⟩ := D.Gg k1
     obtain ⟨n2, rfl⟩ := D.ZM k2
     exact ⟨.t fun r c => f (r + n2) c, by simp [E.den, h1, h2], trivial⟩
   · cases h
 | teq t n u m iht ihn ihu ihm =>
   intro b h
   simp only [E.qV] at h
   split at h
   · rename_i hc
     cases h
     obtain ⟨d1, h1, k1⟩ := iht hc.1.1
     obtain ⟨d2, h2, k2⟩ := ihn hc.1.2
     obtain ⟨d3, h3, k3⟩ := ihu hc.2.1
     obtain ⟨d4, h4, k4⟩ := ihm hc.2.2
     obtain ⟨f, rfl⟩ := D.Gg k1
     obtain ⟨n2, rfl⟩ := D.ZM k2
     obtain ⟨f3, rfl⟩ := D.Gg k3
     obtain ⟨n4, rfl⟩ := D.ZM k4
     exact ⟨.i (strEq f n2 f3 n4), by simp only [E.den, h1, h2, h3, h4], trivial⟩
   · cases h
 | fn j x y z u ihx ihy ihz ihu =>
   intro b h
   simp only [E.qV] at h
   split at h
   · rename_i hc
     obtain ⟨h1, h2, h3, h4⟩ := hc
     obtain ⟨b1, h1⟩ := Option.isSome_iff_exists.1 h1
     obtain ⟨b2, h2⟩ := Option.isSome_iff_exists.1 h2
     obtain ⟨b3, h3⟩ := Option.isSome_iff_exists.1 h3
     obtain ⟨b4, h4⟩ := Option.isSome_iff_exists.1 h4
     obtain ⟨d1, g1, _⟩ := ihx h1
     obtain ⟨d2, g2, _⟩ := ihy h2
     obtain ⟨d3, g3, _⟩ := ihz h3
     obtain ⟨d4, g4, _⟩ := ihu h4
     obtain ⟨x, hx, hx'⟩ := hI j b h d1 d2 d3 d4
     exact ⟨x, by simp only [E.den, g1, g2, g3, g4]; exact hx, hx'⟩
   · cases h
def PE.tf : Bool → E → PE
 | true, e => .tt e
 | false, e => .ff e
def qzr (o : BO) (a b : E) : PE :=
 match o with
 | .lt => .tt (.bin .le b a)
 | .le => .tt (.bin .lt b a)
 | .eq => .tt (.bin .ne a b)
 | .ne => .tt (.bin .eq a b)
 | o => .ff (.bin o a b)
def E.flat (s : Bool) : E → List PE
 | .bin o a b =>
   if s = true ∧ o = .and then a.flat true ++ b.flat true
   else if s = false ∧ o = .or then a.flat false ++ b.flat false
   else if o = .eq ∧ b = .lit 0 then a.flat (!s)
   else if o = .ne ∧ b = .lit 0 then a.flat s
   else if s = true then [.tt (.bin o a b)] else [qzr o a b]
 | e => [.tf s e]
theorem Qf {env : List D} {o : BO} {a b : E} : (PE.tt (.bin o a b)).den I env ↔ ∃ x y, a.den I env = some (.i x) ∧ b.den I env = some (.i y) ∧ o.ev x y ≠ 0 := by
 constructor
 · rintro ⟨n, h1, h2⟩
   simp only [E.den] at h1
   split at h1
   · rename_i x y hx hy; simp only [Option.some.injEq, D.i.injEq] at h1; exact ⟨x, y, hx, hy, by rw [h1]; exact h2⟩
   · cases h1
 · rintro ⟨x, y, hx, hy, h⟩
   exact ⟨o.ev x y, by simp [E.den, hx, hy], h⟩
theorem Z0 {env : List D} {o : BO} {a b : E} : (PE.ff (.bin o a b)).den I env ↔ ∃ x y, a.den I env = some (.i x) ∧ b.den I env = some (.i y) ∧ o.ev x y = 0 := by
 constructor
 · intro h1
   simp only [PE.den, E.den] at h1
   split at h1
   · rename_i x y hx hy; simp only [Option.some.injEq, D.i.injEq] at h1; exact ⟨x, y, hx, hy, h1⟩
   · cases h1
 · rintro ⟨x, y, hx, hy, h⟩
   simp [PE.den, E.den, hx, hy, h]
theorem qzS {env : List D} {a : E} : (PE.tt a).den I env ↔ ∃ x, a.den I env = some (.i x) ∧ x ≠ 0 := Iff.rfl
theorem qyx {env : List D} {a : E} : (PE.ff a).den I env ↔ a.den I env = some (.i 0) := Iff.rfl
theorem RB {env : List D} {o : BO} {a b : E} : (qzr o a b).den I env ↔ (PE.ff (.bin o a b)).den I env := by
 have key : ∀ (o' : BO) (h : ∀ x y, o'.ev x y ≠ 0 ↔ o.ev x y = 0), (PE.tt (.bin o' a b)).den I env ↔ (PE.ff (.bin o a b)).den I env := by
   intro o' h
   rw [Qf, Z0]
   constructor
   · rintro ⟨x, y, h1, h2, h3⟩; exact ⟨x, y, h1, h2, (h x y).1 h3⟩
   · rintro ⟨x, y, h1, h2, h3⟩; exact ⟨x, y, h1, h2, (h x y).2 h3⟩
 have key2 : ∀ (o' : BO) (h : ∀ x y, o'.ev y x ≠ 0 ↔ o.ev x y = 0), (PE.tt (.bin o' b a)).den I env ↔ (PE.ff (.bin o a b)).den I env := by
   intro o' h
   rw [Qf, Z0]
   constructor
   · rintro ⟨x, y, h1, h2, h3⟩; exact ⟨y, x, h2, h1, (h y x).1 h3⟩
   · rintro ⟨x, y, h1, h2, h3⟩; exact ⟨y, x, h2, h1, (h x y).2 h3⟩
 cases o with
 | lt => exact key2 .le fun x y => by simp only [BO.ev]; split <;> split <;> simp <;> omega
 | le => exact key2 .lt fun x y => by simp only [BO.ev]; split <;> split <;> simp <;> omega
 | eq => exact key .ne fun x y => by simp only [BO.ev]; split <;> simp
 | ne => exact key .eq fun x y => by simp only [BO.ev]; split <;> simp
 | _ => exact Iff.rfl
theorem E.nU {env : List D} : ∀ {e : E} {s : Bool}, (∀ q ∈ e.flat s, q.den I env) ↔ (PE.tf s e).den I env := by
 intro e
 induction e with
 | bin o a b iha ihb =>
   intro s
   simp only [E.flat]
   split
   · rename_i h
     obtain ⟨rfl, rfl⟩ := h
     have h1 := iha (s := true)
     have h2 := ihb (s := true)
     simp only [PE.tf] at h1 h2 ⊢
     rw [Qf]
     simp only [List.mem_append, or_imp, forall_and, h1, h2, qzS, BO.ev]
     constructor
     · rintro ⟨⟨x, h3, h4⟩, ⟨y, h5, h6⟩⟩; exact ⟨x, y, h3, h5, by simp [h4, h6]⟩
     · rintro ⟨x, y, h3, h5, h6⟩
       have : x ≠ 0 ∧ y ≠ 0 := by by_cases h : x ≠ 0 ∧ y ≠ 0; exact h; simp [h] at h6
       exact ⟨⟨x, h3, this.1⟩, ⟨y, h5, this.2⟩⟩
   split
   · rename_i h
     obtain ⟨rfl, rfl⟩ := h
     have h1 := iha (s := false)
     have h2 := ihb (s := false)
     simp only [PE.tf] at h1 h2 ⊢
     rw [Z0]
     simp only [List.mem_append, or_imp, forall_and, h1, h2, qyx, BO.ev]
     constructor
     · rintro ⟨h3, h4⟩; exact ⟨0, 0, h3, h4, by simp⟩
     · rintro ⟨x, y, h3, h5, h6⟩
       have : x = 0 ∧ y = 0 := by
         by_cases hx : x = 0
         · by_cases hy : y = 0
           · exact ⟨hx, hy⟩
           · simp [hy] at h6
         · simp [hx] at h6
       obtain ⟨rfl, rfl⟩ := this
       exact ⟨h3, h5⟩
   split
   · rename_i h
     obtain ⟨rfl, rfl⟩ := h
     rw [iha]
     cases s with
     | true =>
       simp only [PE.tf, Bool.not_true]
       rw [Qf, qyx]
       constructor
       · intro h; exact ⟨0, 0, h, rfl, by simp [BO.ev]⟩
       · rintro ⟨x, y, h1, h2, h3⟩
         simp only [E.den, Option.some.injEq, D.i.injEq] at h2
         subst h2
         have : x = 0 := by by_cases h : x = 0; exact h; simp [BO.ev, h] at h3
         subst this; exact h1
     | false =>
       simp only [PE.tf, Bool.not_false]
       rw [Z0, qzS]
       constructor
       · rintro ⟨x, h, h0⟩; exact ⟨x, 0, h, rfl, by simp [BO.ev, h0]⟩
       · rintro ⟨x, y, h1, h2, h3⟩
         simp only [E.den, Option.some.injEq, D.i.injEq] at h2
         subst h2
         exact ⟨x, h1, fun h => by simp [BO.ev, h] at h3⟩
   split
   · rename_i h
     obtain ⟨rfl, rfl⟩ := h
     rw [iha]
     cases s with
     | true =>
       simp only [PE.tf]
       rw [Qf, qzS]
       constructor
       · rintro ⟨x, h, h0⟩; exact ⟨x, 0, h, rfl, by simp [BO.ev, h0]⟩
       · rintro ⟨x, y, h1, h2, h3⟩
         simp only [E.den, Option.some.injEq, D.i.injEq] at h2
         subst h2
         exact ⟨x, h1, fun h => by simp [BO.ev, h] at h3⟩
     | false =>
       simp only [PE.tf]
       rw [Z0, qyx]
       constructor
       · intro h; exact ⟨0, 0, h, rfl, by simp [BO.ev]⟩
       · rintro ⟨x, y, h1, h2, h3⟩
         simp only [E.den, Option.some.injEq, D.i.injEq] at h2
         subst h2
         have : x = 0 := by by_cases h : x = 0; exact h; simp [BO.ev, h] at h3
         subst this; exact h1
   split
   · rename_i h; subst h; simp [PE.tf]
   · rename_i h
     have : s = false := by simpa using h
     subst this
     simpa [PE.tf] using RB
 | _ => intro s; simp [E.flat]
def PE.flat : PE → List PE
 | .tt e => e.flat true
 | .ff e => e.flat false
 | p => [p]
theorem PE.nU {env : List D} {p : PE} : (∀ q ∈ p.flat, q.den I env) ↔ p.den I env := by
 cases p with
 | tt e => exact E.nU
 | ff e => exact E.nU
 | _ => simp [PE.flat]
theorem PE.zV {env xs : List D} {p : PE} (h : p.den I env) : p.den I (env ++ xs) := by
 cases p with
 | tt e => obtain ⟨n, h1, h2⟩ := h; exact ⟨n, E.zV h1, h2⟩
 | ff e => exact E.zV (e := e) h
 | rng k e => obtain ⟨n, h1, h2⟩ := h; exact ⟨n, E.zV h1, h2⟩
 | same a b => obtain ⟨d, h1, h2⟩ := h; exact ⟨d, E.zV h1, E.zV h2⟩
 | pr j l => obtain ⟨ds, h1, h2⟩ := h; exact ⟨ds, rT h1, h2⟩
 | sort b e => cases b with
   | true => obtain ⟨d, h1⟩ := h; exact ⟨d, E.zV h1⟩
   | false => obtain ⟨d, h1⟩ := h; exact ⟨d, E.zV h1⟩
 | col t c lo hi => obtain ⟨f, h1, h2⟩ := h; exact ⟨f, E.zV h1, h2⟩
 | agr t u n w => obtain ⟨f, g, k, h1, h2, h3, h4⟩ := h; exact ⟨f, g, k, E.zV h1, E.zV h2, E.zV h3, h4⟩
 | byt t n => obtain ⟨f, k, h1, h2, h3⟩ := h; exact ⟨f, k, E.zV h1, E.zV h2, h3⟩
def MH (s : Bool) : PE → Bool
 | .tt (.lit n) => s && n != 0
 | .ff (.lit n) => s && n == 0
 | _ => false
theorem Rc {env : List D} {p : PE} (h : MH true p = true) : p.den I env := by
 unfold MH at h
 split at h
 · exact ⟨_, rfl, by simpa using h⟩
 · rename_i n; have : n = 0 := by simpa using h
   subst this; rfl
 · cases h
def known (fs : Nat → Option Bool) (ss : List Bool) (K : List PE) (p : PE) : Bool :=
 match p with
 | .sort b e => decide (e.qV fs ss = some b) || K.contains (.sort b e)
 | .same a b => (decide (a = b) && (a.qV fs ss).isSome) || K.contains (.same a b)
 | p => p.flat.all fun q => K.contains q || MH true q
theorem iA {fs : Nat → Option Bool} (hI : I.tot fs) {ss : List Bool} {env : List D} (hs : Sorts ss env) {K : List PE} (hK : ∀ p ∈ K, p.den I env) {p : PE} (h : known fs ss K p = true) : p.den I env := by
 have gen : ∀ p : PE, (p.flat.all fun q => K.contains q || MH true q) = true → p.den I env := by
   intro p h
   rw [← PE.nU]
   intro q hq
   have := List.all_eq_true.1 h q hq
   simp only [Bool.or_eq_true, List.contains_iff_mem] at this
   rcases this with h1 | h1
   · exact hK q h1
   · exact Rc h1
 cases p with
 | sort b e =>
   simp only [known, Bool.or_eq_true, decide_eq_true_eq, List.contains_iff_mem] at h
   rcases h with h | h
   · obtain ⟨d, h1, h2⟩ := E.tu hI hs h
     cases b with
     | true => obtain ⟨f, rfl⟩ := D.Gg h2; exact ⟨f, h1⟩
     | false => obtain ⟨f, rfl⟩ := D.ZM h2; exact ⟨f, h1⟩
   · exact hK _ h
 | same a b =>
   simp only [known, Bool.or_eq_true, Bool.and_eq_true, decide_eq_true_eq, List.contains_iff_mem] at h
   rcases h with ⟨rfl, h⟩ | h
   · obtain ⟨b, h⟩ := Option.isSome_iff_exists.1 h
     obtain ⟨d, h1, _⟩ := E.tu hI hs h
     exact ⟨d, h1, h1⟩
   · exact hK _ h
 | tt e => exact gen _ h
 | ff e => exact gen _ h
 | rng k e => exact gen _ h
 | pr j l => exact gen _ h
 | byt t n => exact gen _ h
 | col t c lo hi => exact gen _ h
 | agr t u n w => exact gen _ h
def Tree.isOk : Tree → Bool
 | .ok => true
 | _ => false
theorem Tree.kg {t : Tree} {env : List D} (h : t.isOk = true) : t.vc I env := by cases t <;> first | trivial | cases h
def D6 (o : BO) (a b : E) : E :=
 match o with
 | .add => mkAdd a b
 | o => mkBin o a b
def E.sub (σ : List E) : E → E
 | .lit n => .lit n
 | .var i => (σ[i]?).getD .zt
 | .bin o a b => D6 o (a.sub σ) (b.sub σ)
 | .wrap k a => mkWrap k (a.sub σ)
 | .zt => .zt
 | .kt row => .kt row
 | .bt b => .bt b
 | .sel t r c => wo (t.sub σ) (r.sub σ) c
 | .upd t r c v => .upd (t.sub σ) (r.sub σ) c (v.sub σ)
 | .cat t n u => .cat (t.sub σ) (n.sub σ) (u.sub σ)
 | .sh t n => .sh (t.sub σ) (n.sub σ)
 | .teq t n u m => .teq (t.sub σ) (n.sub σ) (u.sub σ) (m.sub σ)
 | .fn j a b c d => .fn j (a.sub σ) (b.sub σ) (c.sub σ) (d.sub σ)
theorem Rf {env : List D} {o : BO} {a b : E} {x y : Int} (ha : a.den I env = some (.i x)) (hb : b.den I env = some (.i y)) : (mkBin o a b).den I env = some (.i (o.ev x y)) := by
 unfold mkBin
 split
 · simp only [E.den, Option.some.injEq, D.i.injEq] at ha hb; subst ha hb; rfl
 · simp only [E.den, ha, hb]
theorem D7 {env : List D} {a b : E} {x y : Int} (ha : a.den I env = some (.i x)) (hb : b.den I env = some (.i y)) : (mkAdd a b).den I env = some (.i (x + y)) := by
 unfold mkAdd
 split
 · simp only [E.den, Option.some.injEq, D.i.injEq] at ha hb; subst ha hb; rfl
 · simp only [E.den, Option.some.injEq, D.i.injEq] at ha; subst ha; simpa using hb
 · simp only [E.den, Option.some.injEq, D.i.injEq] at hb; subst hb; simpa using ha
 · rename_i a' p q _
   obtain ⟨u, v, h1, h2, rfl⟩ := pQ ha
   simp [E.den] at h2 hb
   subst h2; subst hb
   split
   · rw [h1]; congr 2; omega
   · simp only [E.den, h1, BO.ev]; congr 2; omega
 · simp only [E.den, ha, hb, BO.ev]
theorem D5 {env : List D} {o : BO} {a b : E} {x y : Int} (ha : a.den I env = some (.i x)) (hb : b.den I env = some (.i y)) : (D6 o a b).den I env = some (.i (o.ev x y)) := by
 unfold D6
 split
 · exact D7 ha hb
 · exact Rf ha hb
theorem VN {env : List D} {k : IntKind} {a : E} {x : Int} (ha : a.den I env = some (.i x)) : (mkWrap k a).den I env = some (.i (k.wrap x)) := by
 unfold mkWrap
 split
 · simp only [E.den, Option.some.injEq, D.i.injEq] at ha; subst ha; rfl
 · simp only [E.den, ha]
theorem ME {env' : List D} : ∀ {σ : List E} {env : List D}, qK I env' σ = some env → ∀ {i : Nat} {d : D}, env[i]? = some d → ∃ e, σ[i]? = some e ∧ e.den I env' = some d
 | [], env, h, i, d, hd => by simp only [qK, Option.some.injEq] at h; subst h; simp at hd
 | e :: σ, env, h, i, d, hd => by
   simp only [qK] at h
   split at h
   · rename_i d0 ds h1 h2
     cases h
     cases i with
     | zero => simp at hd; subst hd; exact ⟨e, rfl, h1⟩
     | succ i => simpa using ME h2 (i := i) (by simpa using hd)
   · cases h
theorem E.zG {σ : List E} {env env' : List D} (hσ : qK I env' σ = some env) : ∀ {e : E} {d : D}, e.den I env = some d → (e.sub σ).den I env' = some d := by
 intro e
 induction e with
 | lit n => intro d h; exact h
 | zt => intro d h; exact h
 | kt row => intro d h; exact h
 | bt b => intro d h; exact h
 | var i =>
   intro d h
   obtain ⟨e, h1, h2⟩ := ME hσ h
   simp only [E.sub, h1]; exact h2
 | bin o a b iha ihb =>
   intro d h
   simp only [E.den] at h
   split at h
   · rename_i x y h1 h2; cases h; exact D5 (iha h1) (ihb h2)
   · cases h
 | wrap k a ih =>
   intro d h
   simp only [E.den] at h
   split at h
   · rename_i x h1; cases h; exact VN (ih h1)
   · cases h
 | sel t r c iht ihr =>
   intro d h
   simp only [E.den] at h
   split at h
   · rename_i x y h1 h2; cases h; exact jS (iht h1) (ihr h2)
   · cases h
 | upd t r c v iht ihr ihv =>
   intro d h
   simp only [E.den] at h
   split at h
   · rename_i x y z h1 h2 h3; cases h; simp only [E.sub, E.den, iht h1, ihr h2, ihv h3]
   · cases h
 | cat t n u iht ihn ihu =>
   intro d h
   simp only [E.den] at h
   split at h
   · rename_i x y z h1 h2 h3; cases h; simp only [E.sub, E.den, iht h1, ihn h2, ihu h3]
   · cases h
 | sh t n iht ihn =>
   intro d h
   simp only [E.den] at h
   split at h
   · rename_i x y h1 h2; cases h; simp only [E.sub, E.den, iht h1, ihn h2]
   · cases h
 | teq t n u m iht ihn ihu ihm =>
   intro d h
   simp only [E.den] at h
   split at h
   · rename_i x y z v h1 h2 h3 h4; cases h; simp only [E.sub, E.den, iht h1, ihn h2, ihu h3, ihm h4]
   · cases h
 | fn j a b c d iha ihb ihc ihd =>
   intro x h
   simp only [E.den] at h
   split at h
   · rename_i x1 x2 x3 x4 h1 h2 h3 h4; simp only [E.sub, E.den, iha h1, ihb h2, ihc h3, ihd h4]; exact h
   · cases h
theorem GN {σ : List E} {env env' : List D} (hσ : qK I env' σ = some env) : ∀ {l : List E} {ds : List D}, qK I env l = some ds → qK I env' (l.map (E.sub σ)) = some ds
 | [], _, h => h
 | e :: l, ds, h => by
   simp only [qK] at h
   split at h
   · rename_i d ds' h1 h2
     cases h
     simp only [List.map_cons, qK, E.zG hσ h1, GN hσ h2]
   · cases h
def PE.sub (σ : List E) : PE → PE
 | .tt e => .tt (e.sub σ)
 | .ff e => .ff (e.sub σ)
 | .rng k e => .rng k (e.sub σ)
 | .same a b => .same (a.sub σ) (b.sub σ)
 | .pr j l => .pr j (l.map (E.sub σ))
 | .sort b e => .sort b (e.sub σ)
 | .byt t n => .byt (t.sub σ) (n.sub σ)
 | .col t c lo hi => .col (t.sub σ) c lo hi
 | .agr t u n w => .agr (t.sub σ) (u.sub σ) (n.sub σ) w
theorem PE.zG {σ : List E} {env env' : List D} (hσ : qK I env' σ = some env) : ∀ {p : PE}, p.den I env → (p.sub σ).den I env'
 | .tt _, ⟨n, h1, h2⟩ => ⟨n, E.zG hσ h1, h2⟩
 | .ff e, h => E.zG (e := e) hσ h
 | .rng _ _, ⟨n, h1, h2⟩ => ⟨n, E.zG hσ h1, h2⟩
 | .same _ _, ⟨d, h1, h2⟩ => ⟨d, E.zG hσ h1, E.zG hσ h2⟩
 | .pr _ _, ⟨ds, h1, h2⟩ => ⟨ds, GN hσ h1, h2⟩
 | .sort true _, ⟨f, h⟩ => ⟨f, E.zG hσ h⟩
 | .sort false _, ⟨f, h⟩ => ⟨f, E.zG hσ h⟩
 | .col _ _ _ _, ⟨f, h1, h2⟩ => ⟨f, E.zG hσ h1, h2⟩
 | .agr _ _ _ _, ⟨f, g, k, h1, h2, h3, h4⟩ => ⟨f, g, k, E.zG hσ h1, E.zG hσ h2, E.zG hσ h3, h4⟩
 | .byt _ _, ⟨f, k, h1, h2, h3⟩ => ⟨f, k, E.zG hσ h1, E.zG hσ h2, h3⟩
def PE.sorted (fs : Nat → Option Bool) (ss : List Bool) : PE → Bool
 | .tt e | .ff e | .rng _ e | .sort _ e | .col e _ _ _ => (e.qV fs ss).isSome
 | .same a b | .byt a b => (a.qV fs ss).isSome && (b.qV fs ss).isSome
 | .agr t u n _ => (t.qV fs ss).isSome && ((u.qV fs ss).isSome && (n.qV fs ss).isSome)
 | .pr _ l => l.all fun e => (e.qV fs ss).isSome
section
variable {fs : Nat → Option Bool} (hI : I.tot fs) {ss : List Bool} {σ : List E} {env env' : List D} (hs : Sorts ss env) (hσ : qK I env' σ = some env)
include hI hs hσ
theorem E.zO {e : E} {d : D} (h1 : (e.qV fs ss).isSome = true) (h2 : (e.sub σ).den I env' = some d) : e.den I env = some d := by
 obtain ⟨b, hb⟩ := Option.isSome_iff_exists.1 h1
 obtain ⟨d', h3, _⟩ := E.tu hI hs hb
 have := E.zG hσ h3
 rw [this] at h2; cases h2; exact h3
theorem KT : ∀ {l : List E} {ds : List D}, (l.all fun e => (e.qV fs ss).isSome) = true → qK I env' (l.map (E.sub σ)) = some ds → qK I env l = some ds
 | [], _, _, h => h
 | e :: l, ds, hl, h => by
   simp only [List.all_cons, Bool.and_eq_true] at hl
   simp only [List.map_cons, qK] at h
   split at h
   · rename_i d ds' h1 h2
     cases h
     simp only [qK, E.zO hI hs hσ hl.1 h1, KT hl.2 h2]
   · cases h
theorem PE.zO {p : PE} (h1 : p.sorted fs ss = true) (h2 : (p.sub σ).den I env') : p.den I env := by
 cases p with
 | tt e => obtain ⟨n, h3, h4⟩ := h2; exact ⟨n, E.zO hI hs hσ h1 h3, h4⟩
 | ff e => exact E.zO hI hs hσ h1 h2
 | rng k e => obtain ⟨n, h3, h4⟩ := h2; exact ⟨n, E.zO hI hs hσ h1 h3, h4⟩
 | same a b =>
   simp only [PE.sorted, Bool.and_eq_true] at h1
   obtain ⟨d, h3, h4⟩ := h2
   exact ⟨d, E.zO hI hs hσ h1.1 h3, E.zO hI hs hσ h1.2 h4⟩
 | pr j l => obtain ⟨ds, h3, h4⟩ := h2; exact ⟨ds, KT hI hs hσ h1 h3, h4⟩
 | sort b e => cases b with
   | true => obtain ⟨n, h3⟩ := h2; exact ⟨n, E.zO hI hs hσ h1 h3⟩
   | false => obtain ⟨n, h3⟩ := h2; exact ⟨n, E.zO hI hs hσ h1 h3⟩
 | col t c lo hi => obtain ⟨f, h3, h4⟩ := h2; exact ⟨f, E.zO hI hs hσ h1 h3, h4⟩
 | agr t u n w =>
   simp only [PE.sorted, Bool.and_eq_true] at h1
   obtain ⟨f, g, k, h3, h4, h5, h6⟩ := h2
   exact ⟨f, g, k, E.zO hI hs hσ h1.1 h3, E.zO hI hs hσ h1.2.1 h4, E.zO hI hs hσ h1.2.2 h5, h6⟩
 | byt t m =>
   simp only [PE.sorted, Bool.and_eq_true] at h1
   obtain ⟨f, k, h3, h4, h5⟩ := h2
   exact ⟨f, k, E.zO hI hs hσ h1.1 h3, E.zO hI hs hσ h1.2 h4, h5⟩
end
def isVar : E → Bool
 | .var _ => true
 | _ => false
def defined (σ : List E) : PE → List E
 | .same (.var i) e => if ((σ[i]?).map isVar) = some true then σ.set i (e.sub σ) else σ
 | _ => σ
theorem GR {env' : List D} {e : E} {d : D} : ∀ {σ : List E} {env : List D} {i : Nat}, qK I env' σ = some env → env[i]? = some d → e.den I env' = some d → qK I env' (σ.set i e) = some env
 | [], env, i, h, hi, _ => by simp only [qK, Option.some.injEq] at h; subst h; simp at hi
 | e0 :: σ, env, i, h, hi, he => by
   simp only [qK] at h
   split at h
   · rename_i d0 ds h1 h2
     cases h
     cases i with
     | zero => simp at hi; subst hi; simp only [List.set_cons_zero, qK, he, h2]
     | succ i => simp only [List.set_cons_succ, qK, h1, GR h2 (by simpa using hi) he]
   · cases h
theorem aK {σ : List E} {env env' : List D} (hσ : qK I env' σ = some env) {p : PE} (hp : p.den I env) : qK I env' (defined σ p) = some env := by
 unfold defined
 split
 · split
   · obtain ⟨d, h1, h2⟩ := hp
     exact GR hσ h1 (E.zG hσ h2)
   · exact hσ
 · exact hσ
def Tree.tidy (fs : Nat → Option Bool) : List Bool → List E → List Bool → List PE → Tree → Tree
 | _, _, _, _, .ok => .ok
 | _, _, _, _, .fail n => .fail n
 | ss, σ, ss', K, .assert p t => if p.sorted fs ss then
     let q := p.sub σ
     if known fs ss' K q then t.tidy fs ss σ ss' K else .assert q (t.tidy fs ss σ ss' (q.flat ++ K))
   else .fail 200
 | ss, σ, ss', K, .assume p t =>
   let q := p.sub σ
   if known fs ss' K q then t.tidy fs ss σ ss' K else
   let t' := t.tidy fs ss (defined σ p) ss' (q.flat ++ K)
   if t'.isOk then .ok else .assume q t'
 | ss, σ, ss', K, .branch e a b => if e.qV fs ss = some false then
     let c := e.sub σ
     if known fs ss' K (.tt c) then a.tidy fs ss σ ss' K else if known fs ss' K (.ff c) then b.tidy fs ss σ ss' K else
     let a' := a.tidy fs ss σ ss' (c.flat true ++ K)
     let b' := b.tidy fs ss σ ss' (c.flat false ++ K)
     if a'.isOk && b'.isOk then .ok else .branch c a' b'
   else .fail 201
 | ss, σ, ss', K, .both a b =>
   let a' := a.tidy fs ss σ ss' K
   let b' := b.tidy fs ss σ ss' K
   if a'.isOk then b' else if b'.isOk then a' else .both a' b'
 | ss, σ, ss', K, .yQ s t =>
   let t' := t.tidy fs (ss ++ [s]) (σ ++ [.var ss'.length]) (ss' ++ [s]) K
   if t'.isOk then .ok else .yQ s t'
theorem KC {env' : List D} {e : E} {d : D} (he : e.den I env' = some d) : ∀ {σ : List E} {env : List D}, qK I env' σ = some env → qK I env' (σ ++ [e]) = some (env ++ [d])
 | [], env, h => by simp only [qK, Option.some.injEq] at h; subst h; simp [qK, he]
 | e0 :: σ, env, h => by
   simp only [qK] at h
   split at h
   · rename_i d0 ds h1 h2
     cases h
     simp only [List.cons_append, qK, h1, KC he h2]
   · cases h
theorem Tree.I9 {fs : Nat → Option Bool} (hI : I.tot fs) : ∀ {t : Tree} {ss : List Bool} {σ : List E} {ss' : List Bool} {K : List PE} {env env' : List D}, Sorts ss env → Sorts ss' env' → qK I env' σ = some env → (∀ p ∈ K, p.den I env') →
   (t.tidy fs ss σ ss' K).vc I env' → t.vc I env := by
 intro t
 have Iu : ∀ {K : List PE} {p : PE} {env : List D}, (∀ p ∈ K, p.den I env) → p.den I env → ∀ q ∈ p.flat ++ K, q.den I env := fun hK hp q hq => by
   rcases List.mem_append.1 hq with h | h
   · exact PE.nU.2 hp q h
   · exact hK q h
 induction t with
 | ok => intros; trivial
 | fail n => intro _ _ _ _ _ _ _ _ _ _ h; exact h
 | assert p t ih =>
   intro ss σ ss' K env env' hs hs' hσ hK h
   simp only [Tree.tidy] at h
   split at h
   · rename_i hsr
     split at h
     · rename_i hk
       exact ⟨PE.zO hI hs hσ hsr (iA hI hs' hK hk), ih hs hs' hσ hK h⟩
     · exact ⟨PE.zO hI hs hσ hsr h.1, ih hs hs' hσ (Iu hK h.1) h.2⟩
   · exact h.elim
 | assume p t ih =>
   intro ss σ ss' K env env' hs hs' hσ hK h hp
   simp only [Tree.tidy] at h
   have hq := PE.zG hσ hp
   split at h
   · exact ih hs hs' hσ hK h
   split at h
   · rename_i hk; exact ih hs hs' (aK hσ hp) (Iu hK hq) (Tree.kg hk)
   · exact ih hs hs' (aK hσ hp) (Iu hK hq) (h hq)
 | branch e a b iha ihb =>
   intro ss σ ss' K env env' hs hs' hσ hK h
   simp only [Tree.tidy] at h
   split at h
   rotate_left
   · exact h.elim
   split at h
   · rename_i hk
     obtain ⟨m, h1, h2⟩ := iA hI hs' hK hk
     exact ⟨fun _ _ _ => iha hs hs' hσ hK h, fun h3 => by rw [E.zG hσ h3] at h1; cases h1; exact (h2 rfl).elim⟩
   split at h
   · rename_i hk
     have h1 : (e.sub σ).den I env' = some (.i 0) := iA hI hs' hK hk
     exact ⟨fun n h2 h3 => by rw [E.zG hσ h2] at h1; cases h1; exact (h3 rfl).elim, fun _ => ihb hs hs' hσ hK h⟩
   have hT : ∀ n, e.den I env = some (.i n) → n ≠ 0 → ∀ q ∈ (e.sub σ).flat true ++ K, q.den I env' := fun n h1 h2 => Iu (p := .tt (e.sub σ)) hK ⟨n, E.zG hσ h1, h2⟩
   have hF : e.den I env = some (.i 0) → ∀ q ∈ (e.sub σ).flat false ++ K, q.den I env' := fun h1 => Iu (p := .ff (e.sub σ)) hK (E.zG hσ h1)
   split at h
   · rename_i hk
     simp only [Bool.and_eq_true] at hk
     exact ⟨fun n h1 h2 => iha hs hs' hσ (hT n h1 h2) (Tree.kg hk.1), fun h1 => ihb hs hs' hσ (hF h1) (Tree.kg hk.2)⟩
   · exact ⟨fun n h1 h2 => iha hs hs' hσ (hT n h1 h2) (h.1 n (E.zG hσ h1) h2), fun h1 => ihb hs hs' hσ (hF h1) (h.2 (E.zG hσ h1))⟩
 | both a b iha ihb =>
   intro ss σ ss' K env env' hs hs' hσ hK h
   simp only [Tree.tidy] at h
   split at h
   · rename_i hk; exact ⟨iha hs hs' hσ hK (Tree.kg hk), ihb hs hs' hσ hK h⟩
   split at h
   · rename_i hk; exact ⟨iha hs hs' hσ hK h, ihb hs hs' hσ hK (Tree.kg hk)⟩
   · exact ⟨iha hs hs' hσ hK h.1, ihb hs hs' hσ hK h.2⟩
 | yQ s t ih =>
   intro ss σ ss' K env env' hs hs' hσ hK h
   simp only [Tree.tidy] at h
   have go : ∀ d : D, d.is s → (∀ q ∈ K, q.den I (env' ++ [d])) ∧ qK I (env' ++ [d]) (σ ++ [.var ss'.length]) = some (env ++ [d]) := fun d _ =>
     ⟨fun q hq => PE.zV (hK q hq), KC (by simp only [E.den, ← hs'.length, List.getElem?_concat_length]) (rT hσ)⟩
   cases s with
   | true =>
     intro f
     obtain ⟨hK', Uc⟩ := go (.t f) trivial
     split at h
     · rename_i hk; exact ih (hs.app (b := true) trivial) (hs'.app (b := true) (d := .t f) trivial) Uc hK' (Tree.kg hk)
     · exact ih (hs.app (b := true) trivial) (hs'.app (b := true) (d := .t f) trivial) Uc hK' (h f)
   | false =>
     intro f
     obtain ⟨hK', Uc⟩ := go (.i f) trivial
     split at h
     · rename_i hk; exact ih (hs.app (b := false) trivial) (hs'.app (b := false) (d := .i f) trivial) Uc hK' (Tree.kg hk)
     · exact ih (hs.app (b := false) trivial) (hs'.app (b := false) (d := .i f) trivial) Uc hK' (h f)
def qc (fs : Nat → Option Bool) (cx : Cx) (fuel : Nat) (c : Contract) : Tree := (verify cx fuel c).tidy fs c.sorts (xk 0 c.sorts.length) c.sorts []
theorem dL {fs : Nat → Option Bool} (hI : I.tot fs) {cx : Cx} (hC : ∀ c ∈ cx.cs, COk I cx.P cx.kn.globs c) {fuel : Nat} {c : Contract} (h : ∀ ds, Sorts c.sorts ds → (qc fs cx fuel c).vc I ds) : COk I cx.P cx.kn.globs c :=
 Ws hC fun ds hd => by
   have h1 := oQ (I := I) (env := []) (outs := ds) ds.length (Nat.le_refl _)
   simp only [List.nil_append, List.length_nil, List.take_length] at h1
   rw [hd.length] at h1
   exact Tree.I9 hI hd hd h1 (by simp) (h ds hd)
theorem ze {fs : Nat → Option Bool} (hI : I.tot fs) {cx : Cx} (hC : ∀ c ∈ cx.cs, COk I cx.P cx.kn.globs c) {fuel : Nat} {c : Contract} (h : (qc fs cx fuel c).isOk = true) : COk I cx.P cx.kn.globs c :=
 dL hI hC fun _ _ => Tree.kg h
def wD : Nat → Option Bool := fun _ => none
theorem qP (I : Itp) : I.tot wD := fun _ _ h => by cases h
end Go.Sx
noncomputable section
namespace Go.Sx
open Go
variable {f : Nat → D → D → D → D → Option D} {p q : Nat → List D → Prop} {P : Program} {g : G} {A : Amb}
theorem E.jv (env : List D) : ∀ e : E, e.den ⟨f, p⟩ env = e.den ⟨f, q⟩ env := by
 intro e
 induction e with
 | lit n => rfl
 | zt => rfl
 | kt row => rfl
 | bt b => rfl
 | var i => rfl
 | bin o a b iha ihb => simp only [E.den, iha, ihb]
 | wrap k a ih => simp only [E.den, ih]
 | sel t r c iht ihr => simp only [E.den, iht, ihr]
 | upd t r c v iht ihr ihv => simp only [E.den, iht, ihr, ihv]
 | cat t n u iht ihn ihu => simp only [E.den, iht, ihn, ihu]
 | sh t n iht ihn => simp only [E.den, iht, ihn]
 | teq t n u m iht ihn ihu ihm => simp only [E.den, iht, ihn, ihu, ihm]
 | fn j a b c d iha ihb ihc ihd => simp only [E.den, iha, ihb, ihc, ihd]; rfl
mutual
theorem Rel.pr : ∀ {v : AV} {x : Value}, Rel ⟨f, p⟩ g v x → Rel ⟨f, q⟩ g v x := by
 intro v x h
 have he : ∀ (e : E) (d : D), e.den ⟨f, p⟩ g.env = some d → e.den ⟨f, q⟩ g.env = some d := fun e d h => by rw [← E.jv (p := p)]; exact h
 match v with
 | .any => simp [Rel]
 | .undef => simpa [Rel] using h
 | .bool e => obtain ⟨n, h1, h2⟩ := h; exact ⟨n, he _ _ h1, h2⟩
 | .int k e => obtain ⟨n, h1, h2⟩ := h; exact ⟨n, he _ _ h1, h2⟩
 | .wF => simpa [Rel] using h
 | .ptr b r s k => obtain ⟨n, p', h1, h2⟩ := h; exact ⟨n, p', he _ _ h1, h2⟩
 | .qz => simpa [Rel] using h
 | .slice b lo n s nl => obtain ⟨l, m, h1, h2, h3⟩ := h; exact ⟨l, m, he _ _ h1, he _ _ h2, h3⟩
 | .func fn l => obtain ⟨cs, h1, h2⟩ := h; exact ⟨cs, h1, qd.pr h2⟩
 | .yld b => exact h
 | .jM => simpa [Rel] using h
 | .agg l => obtain ⟨cs, h1, h2⟩ := h; exact ⟨cs, h1, qd.pr h2⟩
 | .tup l => obtain ⟨cs, h1, h2⟩ := h; exact ⟨cs, h1, qd.pr h2⟩
 | .big l ks t n m => obtain ⟨tf, xs, ys, zs, h1, h2, h3, h4, h5⟩ := h; exact ⟨tf, xs, ys, zs, he _ _ h1, h2, qd.pr h3, qd.pr h4, h5⟩
 | .cap0 => simpa [Rel] using h
 | .empty => simpa [Rel] using h
 | .asl b k n s => simpa [Rel] using h
 | .wZ fn l m => obtain ⟨ms, cs, h1, h2, h3⟩ := h; exact ⟨ms, cs, h1, qd.pr h2, qd.pr h3⟩
 | .gG b k => simpa [Rel] using h
 | .str l => simpa [Rel] using h
 | .kK t n => obtain ⟨tf, k, s, h1, h2, h3⟩ := h; exact ⟨tf, k, s, he _ _ h1, he _ _ h2, h3⟩
 | .fC => simpa [Rel] using h
 | .mref b => simpa [Rel] using h
 | .xV => simpa [Rel] using h
 | .yV => simpa [Rel] using h
 | .sat e => obtain ⟨n, h1, h2⟩ := h; exact ⟨n, he _ _ h1, h2⟩
 | .ifo e => obtain ⟨n, h1, h2⟩ := h; exact ⟨n, he _ _ h1, h2⟩
theorem qd.pr : ∀ {l : List AV} {xs : List Value}, qd ⟨f, p⟩ g l xs → qd ⟨f, q⟩ g l xs := by
 intro l xs h
 match l, xs with
 | [], [] => trivial
 | v :: l, x :: xs => exact ⟨Rel.pr h.1, qd.pr h.2⟩
 | [], _ :: _ => simp [qd] at h
 | _ :: _, [] => simp [qd] at h
end
theorem jU.pr {b : Nat} {H : Nat → Option Obj} : ∀ {x : Blk}, jU ⟨f, p⟩ P g b H x → jU ⟨f, q⟩ P g b H x
 | .cells l wr, ⟨pb, c, T, fr, h1, h2, h3, h4⟩ => ⟨pb, c, T, fr, h1, h2, fun i v hv => let ⟨x, a, b⟩ := h3 i v hv; ⟨x, a, Rel.pr b⟩, h4⟩
 | .rows ks t len wr nl, ⟨tf, n, h1, h2, h3⟩ => ⟨tf, n, by rw [← E.jv (p := p)]; exact h1, by rw [← E.jv (p := p)]; exact h2, h3⟩
 | .big l ks t n m wr, ⟨pb, c, T, fr, tf, h1, h2, h3, h4, h5, h6, h7⟩ =>
   ⟨pb, c, T, fr, tf, h1, h2, by rw [← E.jv (p := p)]; exact h3, fun i v hv => let ⟨x, a, b⟩ := h4 i v hv; ⟨x, a, Rel.pr b⟩, h5, fun i v hv => let ⟨x, a, b⟩ := h6 i v hv; ⟨x, a, Rel.pr b⟩, h7⟩
 | .loop st pend fn ix nt ts d, ⟨pb, qb, r, rf, h1, h2, h3, h4, h5, h6, h7, h8, h9, h10, h11, h12⟩ =>
   ⟨pb, qb, r, rf, h1, h2, h3, h4, h5, h6, h7, h8, h9, h10, h11, fun t v a b => let ⟨x, c, d⟩ := h12 t v a b; ⟨x, c, Rel.pr d⟩⟩
 | .dfr sh, h => h
 | .mp l m, ⟨pb, es, c, h1, h2, h3, h4⟩ => ⟨pb, es, c, h1, h2, qd.pr h3, qd.pr h4⟩
 | .smp _ _ _ _ _, ⟨pb, es, c, tf, h1, h2, h3, h4, h5⟩ => ⟨pb, es, c, tf, h1, h2, by rw [← E.jv (p := p)]; exact h3, by rw [← E.jv (p := p)]; exact h4, h5⟩
 | .iter _ _ _, ⟨pb, n, m, h1, h2, h3, h4, h5⟩ => ⟨pb, n, m, h1, h2, by rw [← E.jv (p := p)]; exact h3, by rw [← E.jv (p := p)]; exact h4, h5⟩
theorem qM.pr {M : Mem} {w : World} (h : qM A ⟨f, p⟩ P g M w) : qM A ⟨f, q⟩ P g M w where
 wf := h.wf
 blk := fun b x hb => jU.pr (h.blk b x hb)
 lt := h.lt
 inj := h.inj
 bnd := h.bnd
 own := h.own
 size := h.size
 keep := h.keep
 same := h.same
theorem MO (env : List D) : ∀ l : List E, qK ⟨f, p⟩ env l = qK ⟨f, q⟩ env l
 | [] => rfl
 | e :: l => by simp only [qK, E.jv (p := p) (q := q) env e, MO env l]
theorem PE.jv {env : List D} : ∀ {e : PE}, (∀ j l, e = .pr j l → ∀ ds, p j ds → q j ds) → e.den ⟨f, p⟩ env → e.den ⟨f, q⟩ env
 | .tt e, _, ⟨n, h1, h2⟩ => ⟨n, by rw [← E.jv (p := p)]; exact h1, h2⟩
 | .ff e, _, h => by have h : e.den ⟨f, p⟩ env = some (.i 0) := h; show e.den ⟨f, q⟩ env = some (.i 0); rw [← E.jv (p := p)]; exact h
 | .rng k e, _, ⟨n, h1, h2⟩ => ⟨n, by rw [← E.jv (p := p)]; exact h1, h2⟩
 | .same a b, _, ⟨d, h1, h2⟩ => ⟨d, by rw [← E.jv (p := p)]; exact h1, by rw [← E.jv (p := p)]; exact h2⟩
 | .pr j l, hj, ⟨ds, h1, h2⟩ => ⟨ds, by rw [← MO (p := p)]; exact h1, hj j l rfl ds h2⟩
 | .sort true e, _, ⟨n, h1⟩ => ⟨n, by rw [← E.jv (p := p)]; exact h1⟩
 | .sort false e, _, ⟨n, h1⟩ => ⟨n, by rw [← E.jv (p := p)]; exact h1⟩
 | .col _ _ _ _, _, ⟨f, h1, h2⟩ => ⟨f, by rw [← E.jv (p := p)]; exact h1, h2⟩
 | .agr _ _ _ _, _, ⟨f, g, k, h1, h2, h3, h4⟩ => ⟨f, g, k, by rw [← E.jv (p := p)]; exact h1, by rw [← E.jv (p := p)]; exact h2, by rw [← E.jv (p := p)]; exact h3, h4⟩
 | .byt _ _, _, ⟨f, k, h1, h2, h3⟩ => ⟨f, k, by rw [← E.jv (p := p)]; exact h1, by rw [← E.jv (p := p)]; exact h2, h3⟩
theorem COk.pr {gl : List Glob} {c : Contract} {pre post : List PE} (h : COk ⟨f, p⟩ P gl c) (hpre : ∀ env, Sorts c.sorts env → (∀ e ∈ pre, e.den ⟨f, q⟩ env) → ∀ e ∈ c.pre, e.den ⟨f, p⟩ env)
   (hpost : ∀ env, (∀ e ∈ c.post, e.den ⟨f, p⟩ env) → ∀ e ∈ post, e.den ⟨f, q⟩ env) : COk ⟨f, q⟩ P gl { c with pre := pre, post := post } := by
 intro g w xs hso hnb hG hm ha hp
 refine (h g w xs hso hnb hG hm.pr (qd.pr ha) (hpre _ hso hp)).mono fun e w' he => ?_
 obtain ⟨v, outs, g', h1, h2, h3, h4, h5, h6, h7, h8⟩ := he
 exact ⟨v, outs, g', h1, h2, h3, h4, h5, h6.pr, h7.pr, hpost _ h8⟩
theorem COk.weak {I : Itp} {gl : List Glob} {c : Contract} {post : List PE} (h : COk I P gl c)
   (hpost : ∀ env outs, Sorts c.sorts env → Sorts c.outs outs → (∀ e ∈ c.pre, e.den I env) → (∀ e ∈ c.post, e.den I (env ++ outs)) → ∀ e ∈ post, e.den I (env ++ outs)) : COk I P gl { c with post := post } := by
 intro g w xs hso hnb hG hm ha hp
 refine (h g w xs hso hnb hG hm ha hp).mono fun e w' he => ?_
 obtain ⟨v, outs, g', h1, h2, h3, h4, h5, h6, h7, h8⟩ := he
 exact ⟨v, outs, g', h1, h2, h3, h4, h5, h6, h7, by rw [h3] at h8 ⊢; exact hpost g.env outs hso h2 hp h8⟩
end Go.Sx
noncomputable section
namespace Go.Sx
open Go Go.ChangeShapes Go.WideShapes Go.ChangeAt Go.RowKit
structure Kept (W W' : World) : Prop where
 os : W'.os = W.os
 output : W'.output = W.output
 size : W.heap.size ≤ W'.heap.size
 old : ∀ i, i < W.heap.size → W'.heap[i]? = W.heap[i]?
theorem Kept.refl (W : World) : Kept W W := ⟨rfl, rfl, Nat.le_refl _, fun _ _ => rfl⟩
theorem Kept.keptBut {W W' : World} (h : Kept W W') (may : MemPlace → Prop) : W.keptBut W' may := by
 refine ⟨h.os, h.output, fun i hi => ?_⟩
 rw [h.old i hi]
 split
 · rename_i a b; cases b.symm.trans a; exact ⟨rfl, rfl, rfl, fun _ _ => rfl⟩
 · rename_i a b; cases b.symm.trans a; exact .inr ⟨rfl, rfl⟩
 · rfl
theorem Kept.sameAt {W W' : World} (h : Kept W W') {p : MemPlace} (hp : p.block < W.heap.size) : W.sameAt W' p := by
 cases p with
 | cell b off => simp only [World.sameAt, World.cell?]; rw [h.old b hp]
 | map b => exact h.old b hp
variable {H : Type} {enc : TypeId × Value → H} {P : Program}
theorem Kept.trodAll {W W' : World} (h : Kept W W') (hl : laidOutB P = true) : ∀ {ts : List TypeId} {vs : List Value} {ds : List (DataW H)} {ps : List MemPlace}, (∀ t ∈ ts, P.readableRec t = true ∧ t < P.types.size) →
   DataW.TrodAll enc P W 0 (fun _ => true) true ts vs ds ps → (∀ p ∈ ps, p.block < W.heap.size) → ∀ sp : Nat → Bool, (∀ p ∈ ps, sp p.block = true) → DataW.TrodAll enc P W' 0 sp true ts vs ds ps
 | [], _, _, _, _, ht, _, _, _ => by
   obtain ⟨rfl, rfl, rfl⟩ := trodAll_nil ht
   exact trodAll_mk0
 | t :: ts, _, _, _, hr, ht, hlt, sp, hs => by
   obtain ⟨v, vs', d, ds', p, q, rfl, rfl, rfl, h0, r0⟩ := trodAll_cons ht
   have hr0 := hr t (by simp)
   exact trodAll_cons_mk (WideElems.Trod_stays hl hr0.1 hr0.2 h0 (fun x hx => h.sameAt (hlt x (by simp [hx]))) (fun x hx => hs x (by simp [hx])))
     (Kept.trodAll h hl (fun t ht => hr t (by simp [ht])) r0 (fun p hp => hlt p (by simp [hp])) sp (fun p hp => hs p (by simp [hp])))
theorem LB {f : Func} {s : ChangeSpec} {tb : TypeId} {apart fresh : Bool} {W W' : World} {args : Array Value} {ds gs : List (DataW H)} {before : List MemPlace}
   (hl : laidOutB P = true) (hrt : f.resultTypes = #[tb]) (hb : P.underlying tb = some .bool) (hv : s.vars = []) (hrd : ∀ t ∈ f.params.toList, P.readableRec t = true ∧ t < P.types.size)
   (hres : (s.fn H (ds ++ gs)).results = [.lit (.bool true)]) (hargs : (s.fn H (ds ++ gs)).args = ds) (hvs : (s.fn H (ds ++ gs)).vars = [])
   (hW : DataW.Whole enc P f.params.toList s.vars apart W args.toList ds gs before) (hk : Kept W W') : s.post enc P f apart fresh false false W args (.bool true) W' := by
 have hlt := hW.lt
 have hW0 := hW
 obtain ⟨p, q, hA, hV, rfl, hz, hn⟩ := hW
 rw [hv] at hV
 obtain ⟨rfl, rfl⟩ := trodVars_none hV
 simp only [List.append_nil] at hW0 hlt hres hargs hvs hz hn
 have hA' : ∀ sp : Nat → Bool, (∀ x ∈ p, sp x.block = true) → DataW.TrodAll enc P W' 0 sp true f.params.toList args.toList ds p := hk.trodAll hl hrd hA hlt
 have hR : ∀ (b : Nat) (sp : Nat → Bool) (hd : Bool), DataW.TrodAll enc P W' b sp hd f.resultTypes.toList ((Value.bool true).resultList f.resultTypes.size) [.lit (.bool true)] [] := fun b sp hd => by
   rw [hrt]; exact trodAll_mk1 (shut_bool hb true)
 refine ⟨ds, [], p, [], p, [], hW0, ?_, ?_, ?_, World.keptBut_mono (fun x hx => ⟨hx, .inr (.inl hx)⟩) (hk.keptBut _), fun h => by cases h⟩
 · simp only [List.append_nil, hres]; exact hR _ _ _
 · simp only [List.append_nil, hargs]
   exact hA' _ fun x hx => by simpa using hlt x hx
 · simp only [List.append_nil, hvs, hv]; rfl
end Go.Sx
end
namespace Go.Sx
open Go
theorem qY {P : Prop} [Decidable P] : ((if P then (1 : Int) else 0) ≠ 0) = P := by by_cases h : P <;> simp [h]
theorem qX {P : Prop} [Decidable P] : ((if P then (1 : Int) else 0) = 0) = ¬ P := by by_cases h : P <;> simp [h]
theorem qo {P : Prop} [Decidable P] : ((if P then (0 : Int) else 1) ≠ 0) = ¬ P := by by_cases h : P <;> simp [h]
theorem zero_eq {P : Prop} [Decidable P] : ((if P then (0 : Int) else 1) = 0) = P := by by_cases h : P <;> simp [h]
theorem min_i64 : IntKind.i64.min = -9223372036854775808 := rfl
theorem max_i64 : IntKind.i64.max = 9223372036854775807 := rfl
theorem min_u8 : IntKind.u8.min = 0 := rfl
theorem max_u8 : IntKind.u8.max = 255 := rfl
theorem min_u16 : IntKind.u16.min = 0 := rfl
theorem max_u16 : IntKind.u16.max = 65535 := rfl
theorem min_u32 : IntKind.u32.min = 0 := rfl
theorem max_u32 : IntKind.u32.max = 4294967295 := rfl
theorem min_u64 : IntKind.u64.min = 0 := rfl
theorem max_u64 : IntKind.u64.max = 18446744073709551615 := rfl
theorem kU {l : List Bool} {Q : List D → Prop} (h : ∀ T ds, Sorts l ds → Q (.t T :: ds)) : ∀ ds, Sorts (true :: l) ds → Q ds := by
 intro ds hs
 match ds, hs with
 | .t T :: ds, hs => exact h T ds hs
 | [], hs => exact hs.elim
 | .i _ :: _, hs => exact hs.elim
theorem qx {l : List Bool} {Q : List D → Prop} (h : ∀ n ds, Sorts l ds → Q (.i n :: ds)) : ∀ ds, Sorts (false :: l) ds → Q ds := by
 intro ds hs
 match ds, hs with
 | .i n :: ds, hs => exact h n ds hs
 | [], hs => exact hs.elim
 | .t _ :: _, hs => exact hs.elim
theorem zk {Q : List D → Prop} (h : Q []) : ∀ ds, Sorts [] ds → Q ds := by
 intro ds hs
 match ds, hs with
 | [], _ => exact h
 | _ :: _, hs => exact hs.elim
theorem qJ {I : Itp} {P : Program} {gl : List Glob} : ∀ c ∈ ([] : List Contract), COk I P gl c := fun _ h => by cases h
theorem qw {I : Itp} {P : Program} {gl : List Glob} {c : Contract} {l : List Contract} (h : COk I P gl c) (hl : ∀ c ∈ l, COk I P gl c) : ∀ d ∈ c :: l, COk I P gl d := fun d hd => by
 rcases List.mem_cons.1 hd with rfl | hd
 · exact h
 · exact hl d hd
theorem qL {fs : Nat → Option Bool} {I : Itp} (hI : I.tot fs) {cx : Cx} {fuel : Nat} {c : Contract} {t : Tree} (hC : ∀ c ∈ cx.cs, COk I cx.P cx.kn.globs c) (ht : qc fs cx fuel c = t) (h : ∀ ds, Sorts c.sorts ds → t.vc I ds) : COk I cx.P cx.kn.globs c :=
 dL hI hC fun ds hs => by rw [ht]; exact h ds hs
theorem qxc {x : Int} (h0 : 0 ≤ x) (h1 : x < 1024) : jH 6 .i64 x 64 = x / 64 := by
 have h2 : x.tdiv 64 = x / 64 := Int.tdiv_eq_ediv_of_nonneg h0
 simp only [jH, h2, IntKind.wrap, IntKind.signed, IntKind.bits]
 have : x / 64 % 18446744073709551616 = x / 64 := Int.emod_eq_of_lt (by omega) (by omega)
 simp only [Int.reducePow, Bool.true_and, this]
 rw [if_neg]
 simp; omega
theorem R3 (x : Int) : jH 0 .u64 (jH 5 .u64 0 x) 1 = 0 := by
 have : jH 5 .u64 0 x = 0 := by simp [jH]
 rw [this]; rfl
end Go.Sx
noncomputable section
namespace Go.Sx
open Go Go.RowKit
variable {A : Amb} {I : Itp} {P : Program} {g : G} {M : Mem} {w w' : World} {gl : List Glob}
structure wJ (w w' : World) : Prop where
 os : w'.os = w.os
 output : w'.output = w.output
 size : w.heap.size ≤ w'.heap.size
 block : ∀ k, k < w.heap.size → w'.heap[k]? = w.heap[k]?
theorem wJ.refl (w : World) : wJ w w := ⟨rfl, rfl, Nat.le_refl _, fun _ _ => rfl⟩
theorem wJ.below (h : Below w.heap.size w w') : wJ w w' := ⟨h.os, h.output, h.size, h.block⟩
def G.vars (g : G) (ds : List D) : G := { g with env := g.env ++ ds }
theorem qM.stays (h : qM A I P g M w) (hs : wJ w w') (ds : List D) : qM A I P (g.vars ds) [] w' where
 wf := h.wf
 blk b x hb := by simp [get_nil] at hb
 lt b x hb := by simp [get_nil] at hb
 inj b c x y p q hb := by simp [get_nil] at hb
 bnd b p hb := Nat.lt_of_lt_of_le (h.bnd b p hb) hs.size
 own b x p hb := by simp [get_nil] at hb
 size := Nat.le_trans h.size hs.size
 keep i hi hX := by rw [hs.block i (Nat.lt_of_lt_of_le hi h.size)]; exact h.keep i hi hX
 same := ⟨by rw [hs.os]; exact h.same.1, by rw [hs.output]; exact h.same.2⟩
theorem COk.lib {c : Contract} (KW : c.mods = []) (hfr : c.fresh = [])
   (H : ∀ (g : G) (w : World) (xs : List Value), Sorts c.sorts g.env → GOk gl (c.amb g w) → qM (c.amb g w) I P g c.mem w → qd I g c.args xs → (∀ p ∈ c.pre, p.den I g.env) →
     Calls P c.fn xs.toArray w fun e w' => ∃ v outs, e = .returned v ∧ Sorts c.outs outs ∧ Rel I (g.vars outs) c.res v ∧ wJ w w' ∧ (∀ p ∈ c.post, p.den I (g.env ++ outs))) : COk I P gl c := by
 intro g w xs hso hnb hG hm ha hp
 refine (H g w xs hso hG hm ha hp).mono fun e w' he => ?_
 obtain ⟨v, outs, rfl, h1, h2, h3, h4⟩ := he
 refine ⟨v, outs, g.vars outs, rfl, h1, rfl, ?_, fun _ _ => rfl, h2, ?_, h4⟩
 · rw [hfr]; exact hnb
 · rw [KW, hfr]; exact hm.stays h3 outs
theorem COk.qgD {c : Contract} {x : Blk} (KW : c.mods = []) (hfr : c.fresh = [(c.nb, x)])
   (H : ∀ (g : G) (w : World) (xs : List Value), Sorts c.sorts g.env → GOk gl (c.amb g w) → qM (c.amb g w) I P g c.mem w → qd I g c.args xs → (∀ p ∈ c.pre, p.den I g.env) → g.nb = c.nb →
     Calls P c.fn xs.toArray w fun e w' => ∃ v outs o p w1, e = .returned v ∧ Sorts c.outs outs ∧ wJ w w1 ∧ w' = w1.alloc o ∧ p.blk = w1.heap.size ∧
       Rel I ((g.vars outs).lay (some p)) c.res v ∧ jU I P ((g.vars outs).lay (some p)) g.nb (fun i => (w1.alloc o).heap[i]?) x ∧ (∀ p ∈ c.post, p.den I (g.env ++ outs))) : COk I P gl c := by
 intro g w xs hso hnb hG hm ha hp
 refine (H g w xs hso hG hm ha hp hnb).mono fun e w' he => ?_
 obtain ⟨v, outs, o, p, w1, rfl, h1, h3, rfl, h4, h5, h6, h7⟩ := he
 refine ⟨v, outs, (g.vars outs).lay (some p), rfl, h1, rfl, ?_, fun b hb => ?_, h5, ?_, h7⟩
 · rw [hfr]; show g.nb + 1 = _; rw [hnb]; rfl
 · have hb' : b ≠ g.nb := by omega
   simp [G.lay, G.vars, hb']
 · rw [KW, hfr, ← hnb]
   exact (hm.stays h3 outs).alloc (M' := []) (fun _ _ h => h) h4 h6
end Go.Sx
end
noncomputable section
namespace Go.Sx
open Go
variable {I : Itp}
def Tree.only : Tree → List Bool → Tree
 | t, [] => t
 | .ok, _ => .ok
 | .fail n, _ => .fail n
 | .assert q t, p => .assert q (t.only p)
 | .assume q t, p => .assume q (t.only p)
 | .yQ s t, p => .yQ s (t.only p)
 | .branch e a _, true :: p => .branch e (a.only p) .ok
 | .branch e _ b, false :: p => .branch e .ok (b.only p)
 | .both a _, true :: p => a.only p
 | .both _ b, false :: p => b.only p
theorem Tree.qF : ∀ {t : Tree} {p : List Bool} {env : List D}, t.vc I env → (t.only p).vc I env := by
 intro t
 induction t with
 | ok => intro p env _; cases p <;> trivial
 | fail n => intro p env h; exact h.elim
 | assert q t ih =>
   intro p env h
   cases p with
   | nil => exact h
   | cons c p => exact ⟨h.1, ih h.2⟩
 | assume q t ih =>
   intro p env h
   cases p with
   | nil => exact h
   | cons c p => exact fun hq => ih (h hq)
 | branch e a b iha ihb =>
   intro p env h
   match p with
   | [] => exact h
   | true :: p => exact ⟨fun n hn h0 => iha (h.1 n hn h0), fun _ => trivial⟩
   | false :: p => exact ⟨fun _ _ _ => trivial, fun hn => ihb (h.2 hn)⟩
 | both a b iha ihb =>
   intro p env h
   match p with
   | [] => exact h
   | true :: p => exact iha (p := p) h.1
   | false :: p => exact ihb (p := p) h.2
 | yQ s t ih =>
   intro p env h
   cases p with
   | nil => exact h
   | cons c p =>
     cases s with
     | true => exact fun f => ih (h f)
     | false => exact fun f => ih (h f)
def nD (q : PE) (t : Tree) : Tree := if t.isOk then .ok else .assume q t
def vU (c : E) (a b : Tree) : Tree := if a.isOk && b.isOk then .ok else .branch c a b
def DI (a b : Tree) : Tree := if a.isOk then b else if b.isOk then a else .both a b
def uw (s : Bool) (t : Tree) : Tree := if t.isOk then .ok else .yQ s t
theorem VR {q : PE} {t : Tree} {env : List D} : (nD q t).vc I env ↔ (Tree.assume q t).vc I env := by
 unfold nD
 split
 · rename_i h; exact ⟨fun _ _ => Tree.kg h, fun _ => trivial⟩
 · exact Iff.rfl
theorem xQ {c : E} {a b : Tree} {env : List D} : (vU c a b).vc I env ↔ (Tree.branch c a b).vc I env := by
 unfold vU
 split
 · rename_i h
   simp only [Bool.and_eq_true] at h
   exact ⟨fun _ => ⟨fun _ _ _ => Tree.kg h.1, fun _ => Tree.kg h.2⟩, fun _ => trivial⟩
 · exact Iff.rfl
theorem Rb {a b : Tree} {env : List D} : (DI a b).vc I env ↔ (Tree.both a b).vc I env := by
 unfold DI
 split
 · rename_i h; exact ⟨fun hb => ⟨Tree.kg h, hb⟩, fun h => h.2⟩
 · split
   · rename_i h; exact ⟨fun ha => ⟨ha, Tree.kg h⟩, fun h => h.1⟩
   · exact Iff.rfl
theorem tT {s : Bool} {t : Tree} {env : List D} : (uw s t).vc I env ↔ (Tree.yQ s t).vc I env := by
 unfold uw
 split
 · rename_i h
   refine ⟨fun _ => ?_, fun _ => trivial⟩
   cases s with
   | true => exact fun _ => Tree.kg h
   | false => exact fun _ => Tree.kg h
 · exact Iff.rfl
def Tree.zZ (fs : Nat → Option Bool) : List Bool → List E → List Bool → List PE → Tree → List Bool → Tree
 | ss, σ, ss', K, t, [] => t.tidy fs ss σ ss' K
 | _, _, _, _, .ok, _ => .ok
 | _, _, _, _, .fail n, _ => .fail n
 | ss, σ, ss', K, .assert p t, l => if p.sorted fs ss then
     let q := p.sub σ
     if known fs ss' K q then t.zZ fs ss σ ss' K l else .assert q (t.zZ fs ss σ ss' (q.flat ++ K) l)
   else .fail 200
 | ss, σ, ss', K, .assume p t, l =>
   let q := p.sub σ
   if known fs ss' K q then t.zZ fs ss σ ss' K l else nD q (t.zZ fs ss (defined σ p) ss' (q.flat ++ K) l)
 | ss, σ, ss', K, .branch e a b, d :: l => if e.qV fs ss = some false then
     let c := e.sub σ
     if known fs ss' K (.tt c) then a.zZ fs ss σ ss' K (d :: l) else if known fs ss' K (.ff c) then b.zZ fs ss σ ss' K (d :: l) else
     if d then vU c (a.zZ fs ss σ ss' (c.flat true ++ K) l) .ok else vU c .ok (b.zZ fs ss σ ss' (c.flat false ++ K) l)
   else .fail 201
 | ss, σ, ss', K, .both a b, d :: l => if d then a.zZ fs ss σ ss' K l else b.zZ fs ss σ ss' K l
 | ss, σ, ss', K, .yQ s t, l => uw s (t.zZ fs (ss ++ [s]) (σ ++ [.var ss'.length]) (ss' ++ [s]) K l)
theorem Tree.zN {fs : Nat → Option Bool} {ss : List Bool} {σ : List E} {ss' : List Bool} {K : List PE} (t : Tree) : t.zZ fs ss σ ss' K [] = t.tidy fs ss σ ss' K := by cases t <;> rfl
theorem Tree.NZ {fs : Nat → Option Bool} : ∀ {t : Tree} {ss : List Bool} {σ : List E} {ss' : List Bool} {K : List PE} {p : List Bool} {env : List D},
   (t.zZ fs ss σ ss' K (p ++ [true])).vc I env → (t.zZ fs ss σ ss' K (p ++ [false])).vc I env → (t.zZ fs ss σ ss' K p).vc I env := by
 intro t
 induction t with
 | ok => intro ss σ ss' K p env _ _; cases p <;> trivial
 | fail n => intro ss σ ss' K p env h _; cases p <;> exact h
 | assert q t ih =>
   intro ss σ ss' K p env h1 h2
   have e : ∀ c l, (Tree.assert q t).zZ fs ss σ ss' K (c :: l) = (if q.sorted fs ss then (if known fs ss' K (q.sub σ) then t.zZ fs ss σ ss' K (c :: l) else .assert (q.sub σ) (t.zZ fs ss σ ss' ((q.sub σ).flat ++ K) (c :: l))) else .fail 200) := fun _ _ => rfl
   have e0 : (Tree.assert q t).zZ fs ss σ ss' K p = (if q.sorted fs ss then (if known fs ss' K (q.sub σ) then t.zZ fs ss σ ss' K p else .assert (q.sub σ) (t.zZ fs ss σ ss' ((q.sub σ).flat ++ K) p)) else .fail 200) := by
     cases p with
     | nil => rw [Tree.zN, Tree.zN, Tree.zN]; rfl
     | cons c l => exact e c l
   obtain ⟨c1, l1, g1⟩ : ∃ c l, p ++ [true] = c :: l := by cases p <;> simp
   obtain ⟨c2, l2, g2⟩ : ∃ c l, p ++ [false] = c :: l := by cases p <;> simp
   rw [g1, e, ← g1] at h1
   rw [g2, e, ← g2] at h2
   rw [e0]
   split
   · rename_i hs
     rw [if_pos hs] at h1 h2
     split
     · rename_i hk
       rw [if_pos hk] at h1 h2
       exact ih h1 h2
     · rename_i hk
       rw [if_neg hk] at h1 h2
       exact ⟨h1.1, ih h1.2 h2.2⟩
   · rename_i hs
     rw [if_neg hs] at h1
     exact h1
 | assume q t ih =>
   intro ss σ ss' K p env h1 h2
   have e : ∀ c l, (Tree.assume q t).zZ fs ss σ ss' K (c :: l) = (if known fs ss' K (q.sub σ) then t.zZ fs ss σ ss' K (c :: l) else nD (q.sub σ) (t.zZ fs ss (defined σ q) ss' ((q.sub σ).flat ++ K) (c :: l))) := fun _ _ => rfl
   have e0 : (Tree.assume q t).zZ fs ss σ ss' K p = (if known fs ss' K (q.sub σ) then t.zZ fs ss σ ss' K p else nD (q.sub σ) (t.zZ fs ss (defined σ q) ss' ((q.sub σ).flat ++ K) p)) := by
     cases p with
     | nil => rw [Tree.zN, Tree.zN, Tree.zN]; rfl
     | cons c l => exact e c l
   obtain ⟨c1, l1, g1⟩ : ∃ c l, p ++ [true] = c :: l := by cases p <;> simp
   obtain ⟨c2, l2, g2⟩ : ∃ c l, p ++ [false] = c :: l := by cases p <;> simp
   rw [g1, e, ← g1] at h1
   rw [g2, e, ← g2] at h2
   rw [e0]
   split
   · rename_i hk
     rw [if_pos hk] at h1 h2
     exact ih h1 h2
   · rename_i hk
     rw [if_neg hk] at h1 h2
     rw [VR] at h1 h2 ⊢
     exact fun hq => ih (h1 hq) (h2 hq)
 | branch x a b iha ihb =>
   intro ss σ ss' K p env h1 h2
   have e : ∀ d l, (Tree.branch x a b).zZ fs ss σ ss' K (d :: l) = (if x.qV fs ss = some false then (if known fs ss' K (.tt (x.sub σ)) then a.zZ fs ss σ ss' K (d :: l) else if known fs ss' K (.ff (x.sub σ)) then b.zZ fs ss σ ss' K (d :: l) else
     if d then vU (x.sub σ) (a.zZ fs ss σ ss' ((x.sub σ).flat true ++ K) l) .ok else vU (x.sub σ) .ok (b.zZ fs ss σ ss' ((x.sub σ).flat false ++ K) l)) else .fail 201) := fun _ _ => rfl
   have en : (Tree.branch x a b).zZ fs ss σ ss' K [] = (if x.qV fs ss = some false then (if known fs ss' K (.tt (x.sub σ)) then a.zZ fs ss σ ss' K [] else if known fs ss' K (.ff (x.sub σ)) then b.zZ fs ss σ ss' K [] else
     vU (x.sub σ) (a.zZ fs ss σ ss' ((x.sub σ).flat true ++ K) []) (b.zZ fs ss σ ss' ((x.sub σ).flat false ++ K) [])) else .fail 201) := by
     rw [Tree.zN, Tree.zN, Tree.zN, Tree.zN, Tree.zN]; rfl
   cases p with
   | nil =>
     rw [List.nil_append, e] at h1 h2
     rw [en]
     split
     · rename_i hs
       rw [if_pos hs] at h1 h2
       split
       · rename_i hk
         rw [if_pos hk] at h1 h2
         exact iha (p := []) h1 h2
       · rename_i hk
         rw [if_neg hk] at h1 h2
         split
         · rename_i hk2
           rw [if_pos hk2] at h1 h2
           exact ihb (p := []) h1 h2
         · rename_i hk2
           rw [if_neg hk2] at h1 h2
           rw [if_pos rfl, xQ] at h1
           rw [if_neg (by decide), xQ] at h2
           rw [xQ]
           exact ⟨h1.1, h2.2⟩
     · rename_i hs
       rw [if_neg hs] at h1
       exact h1
   | cons d p =>
     rw [List.cons_append, e] at h1 h2
     rw [e]
     split
     · rename_i hs
       rw [if_pos hs] at h1 h2
       split
       · rename_i hk
         rw [if_pos hk] at h1 h2
         exact iha (p := d :: p) h1 h2
       · rename_i hk
         rw [if_neg hk] at h1 h2
         split
         · rename_i hk2
           rw [if_pos hk2] at h1 h2
           exact ihb (p := d :: p) h1 h2
         · rename_i hk2
           rw [if_neg hk2] at h1 h2
           cases d with
           | true =>
             rw [if_pos rfl, xQ] at h1 h2 ⊢
             exact ⟨fun n hn h0 => iha (h1.1 n hn h0) (h2.1 n hn h0), fun _ => trivial⟩
           | false =>
             rw [if_neg (by decide), xQ] at h1 h2 ⊢
             exact ⟨fun _ _ _ => trivial, fun hn => ihb (h1.2 hn) (h2.2 hn)⟩
     · rename_i hs
       rw [if_neg hs] at h1
       exact h1
 | both a b iha ihb =>
   intro ss σ ss' K p env h1 h2
   cases p with
   | nil =>
     have e : (Tree.both a b).zZ fs ss σ ss' K [] = DI (a.tidy fs ss σ ss' K) (b.tidy fs ss σ ss' K) := by rw [Tree.zN]; rfl
     rw [e, Rb]
     have h1 : (a.zZ fs ss σ ss' K []).vc I env := h1
     have h2 : (b.zZ fs ss σ ss' K []).vc I env := h2
     rw [Tree.zN] at h1 h2
     exact ⟨h1, h2⟩
   | cons d p =>
     cases d with
     | true => exact iha (p := p) h1 h2
     | false => exact ihb (p := p) h1 h2
 | yQ s t ih =>
   intro ss σ ss' K p env h1 h2
   have e : ∀ c l, (Tree.yQ s t).zZ fs ss σ ss' K (c :: l) = uw s (t.zZ fs (ss ++ [s]) (σ ++ [.var ss'.length]) (ss' ++ [s]) K (c :: l)) := fun _ _ => rfl
   have e0 : (Tree.yQ s t).zZ fs ss σ ss' K p = uw s (t.zZ fs (ss ++ [s]) (σ ++ [.var ss'.length]) (ss' ++ [s]) K p) := by
     cases p with
     | nil => rw [Tree.zN, Tree.zN]; rfl
     | cons c l => exact e c l
   obtain ⟨c1, l1, g1⟩ : ∃ c l, p ++ [true] = c :: l := by cases p <;> simp
   obtain ⟨c2, l2, g2⟩ : ∃ c l, p ++ [false] = c :: l := by cases p <;> simp
   rw [g1, e, ← g1, tT] at h1
   rw [g2, e, ← g2, tT] at h2
   rw [e0, tT]
   cases s with
   | true => exact fun f => ih (h1 f) (h2 f)
   | false => exact fun f => ih (h1 f) (h2 f)
inductive Cut where
 | leaf
 | node (a b : Cut)
def Cut.paths : Cut → List Bool → List (List Bool)
 | .leaf, p => [p]
 | .node a b, p => a.paths (p ++ [true]) ++ b.paths (p ++ [false])
def piece (fs : Nat → Option Bool) (cx : Cx) (fuel : Nat) (c : Contract) (p : List Bool) : Tree := (verify cx fuel c).zZ fs c.sorts (xk 0 c.sorts.length) c.sorts [] p
theorem FB {fs : Nat → Option Bool} {cx : Cx} {fuel : Nat} {ct : Contract} {env : List D} : ∀ (c : Cut) (p : List Bool), (∀ q ∈ c.paths p, (piece fs cx fuel ct q).vc I env) → (piece fs cx fuel ct p).vc I env
 | .leaf, p, h => h p (by simp [Cut.paths])
 | .node a b, p, h => Tree.NZ (FB a _ fun q hq => h q (by simp [Cut.paths, hq])) (FB b _ fun q hq => h q (by simp [Cut.paths, hq]))
theorem nX {fs : Nat → Option Bool} (hI : I.tot fs) {cx : Cx} (hC : ∀ c ∈ cx.cs, COk I cx.P cx.kn.globs c) {fuel : Nat} {c : Contract} (k : Cut)
   (h : ∀ p ∈ k.paths [], ∀ ds, Sorts c.sorts ds → (piece fs cx fuel c p).vc I ds) : COk I cx.P cx.kn.globs c :=
 dL (fuel := fuel) hI hC fun ds hd => by
   have := FB (fs := fs) (cx := cx) (fuel := fuel) (ct := c) (env := ds) (I := I) k [] fun p hp => h p hp ds hd
   unfold piece at this
   rwa [Tree.zN] at this
theorem qH {α : Type} {Q : α → Prop} {a : α} {l : List α} (h : Q a) (hl : ∀ b ∈ l, Q b) : ∀ b ∈ a :: l, Q b := fun b hb => by
 rcases List.mem_cons.1 hb with rfl | hb
 · exact h
 · exact hl b hb
theorem Dl {α : Type} {Q : α → Prop} : ∀ b ∈ ([] : List α), Q b := fun b hb => by cases hb
end Go.Sx
end
noncomputable section
namespace Go.Sx
open Go
inductive Bc (W : World) (ks : List CK) : Value → Int → (Int → Nat → Int) → Prop
 | none (T : Int → Nat → Int) : Bc W ks (.slice none 0 0) 0 T
 | some (b off len cap : Nat) (c : Array Value) (T : TypeId) (fr : Nat × Nat) (f : Int → Nat → Int) (hl : len ≤ cap) (hb : W.heap[b]? = some (.cells c T fr))
     (hc : ∀ r j : Nat, ∀ k : CK, r < len → ks[j]? = some k → c[off + r * ks.length + j]? = some (k.val (f r j))) : Bc W ks (.slice (some ⟨b, off, none⟩) len cap) len f
structure pU where
 ks : List CK
 v : Value
 n : Int
 T : Int → Nat → Int
 iT : Nat
 iN : Nat
def pU.pb (x : pU) : Option PB := match x.v with
 | .slice (some a) _ cap => some { blk := a.block, base := a.off, tot := cap * x.ks.length }
 | _ => none
def ZO : Nat → List pU → Mem
 | _, [] => []
 | i, x :: l => (i, .rows x.ks (.var x.iT) (.var x.iN) false true) :: ZO (i + 1) l
theorem yP : ∀ {l : List pU} {i b : Nat} {y : Blk}, get (ZO i l) b = some y → ∃ x, i ≤ b ∧ l[b - i]? = some x ∧ y = .rows x.ks (.var x.iT) (.var x.iN) false true
 | [], i, b, y, h => by simp [ZO, get_nil] at h
 | x :: l, i, b, y, h => by
   simp only [ZO, qQ] at h
   split at h
   · rename_i e; subst e; cases h; exact ⟨x, Nat.le_refl _, by simp, rfl⟩
   · rename_i e
     obtain ⟨z, h1, h2, h3⟩ := yP h
     refine ⟨z, by omega, ?_, h3⟩
     rw [show b - i = (b - (i + 1)) + 1 by omega]
     simpa using h2
theorem RG {W : World} {I : Itp} {P : Program} (l : List pU) (env : List D) (hl : ∀ x ∈ l, Bc W x.ks x.v x.n x.T ∧ env[x.iT]? = some (.t x.T) ∧ env[x.iN]? = some (.i x.n)) :
   ∃ g : G, g.env = env ∧ g.nb = l.length ∧ (∀ c : Contract, c.mem = ZO 0 l → qM (c.amb g W) I P g c.mem W ∧ ∀ i, ¬ (c.amb g W).X i) ∧
     ∀ i x, l[i]? = some x → Rel I g (.slice i (.lit 0) (.var x.iN) x.ks.length true) x.v := by
 let g : G := { env := env, φ := fun i => (l[i]?).bind pU.pb, nb := l.length }
 refine ⟨g, rfl, rfl, fun c hc => ?_, fun i x hx => ?_⟩
 · have hX : ∀ i, ¬ (c.amb g W).X i := by
     rintro i ⟨b, y, p, h1, h2, _⟩
     rw [hc] at h1
     obtain ⟨x, _, _, rfl⟩ := yP h1
     cases h2
   refine ⟨?_, hX⟩
   rw [hc]
   refine ⟨fun b hb => ?_, fun b y hy => ?_, fun b y hy => ?_, fun b c x y p q hx _ hw => ?_, fun b p hp => ?_, fun b x p hx hw => ?_, Nat.le_refl _, fun _ _ _ => rfl, rfl, rfl⟩
   · show (l[b]?).bind pU.pb = none
     rw [List.getElem?_eq_none hb]; rfl
   · obtain ⟨x, _, h2, rfl⟩ := yP hy
     simp only [Nat.sub_zero] at h2
     obtain ⟨hv, hT, hN⟩ := hl x (List.mem_of_getElem? h2)
     obtain ⟨ks, v, n, T, iT, iN⟩ := x
     have hφ : g.φ b = pU.pb ⟨ks, v, n, T, iT, iN⟩ := by show (l[b]?).bind pU.pb = _; rw [h2]; rfl
     cases hv with
     | none T => exact ⟨_, 0, hT, hN, Int.le_refl _, .inr ⟨rfl, rfl, hφ⟩⟩
     | some b' off len cap c T' fr f hl hb hc =>
       refine ⟨_, (len : Int), hT, hN, Int.natCast_nonneg _, .inl ⟨_, c, T', fr, hφ, hb, fun r j k hr hj => ?_, fun h => by cases h⟩⟩
       exact hc r j k (by simpa using hr) hj
   · obtain ⟨x, _, h2, _⟩ := yP hy
     simp only [Nat.sub_zero] at h2
     exact (List.getElem?_eq_some_iff.1 h2).1
   · obtain ⟨z, _, _, rfl⟩ := yP hx
     cases hw
   · have hp : (l[b]?).bind pU.pb = some p := hp
     rcases h2 : l[b]? with _ | x
     · rw [h2] at hp; cases hp
     · rw [h2, Option.bind_some] at hp
       obtain ⟨hv, _, _⟩ := hl x (List.mem_of_getElem? h2)
       obtain ⟨ks, v, n, T, iT, iN⟩ := x
       cases hv with
       | none T => cases hp
       | some b' off len cap c T' fr f hl hb hc =>
         cases hp
         exact (Array.getElem?_eq_some_iff.1 hb).1
   · obtain ⟨z, _, _, rfl⟩ := yP hx
     cases hw
 · obtain ⟨hv, _, hN⟩ := hl x (List.mem_of_getElem? hx)
   have hφ : g.φ i = x.pb := by show (l[i]?).bind pU.pb = _; rw [hx]; rfl
   obtain ⟨ks, v, n, T, iT, iN⟩ := x
   cases hv with
   | none T => exact ⟨0, 0, rfl, hN, Int.le_refl _, Int.le_refl _, .inr ⟨rfl, rfl, _, rfl⟩⟩
   | some b' off len cap c T' fr f hl hb hc => exact ⟨0, len, rfl, hN, Int.le_refl _, by omega, .inl ⟨_, cap, hφ, by simp, by simpa using hl, by simp⟩⟩
end Go.Sx
end
