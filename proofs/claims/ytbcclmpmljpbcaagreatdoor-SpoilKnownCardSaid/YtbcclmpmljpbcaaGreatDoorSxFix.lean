/-
  A state that is an instance of a pattern: the pattern's word of it. Conditions: none.
-/
import Derived.Test.YtbcclmpmljpbcaaGreatDoorSxRun
noncomputable section
namespace Go.Sx
open Go

variable {A : Amb} {I : Itp} {P : Program} {g : G} {X : Nat → Prop} {ts : Tmps} {a : Act} {M : Mem} {w : World}

theorem dens_get {env : List D} : ∀ {σ : List E} {ds : List D}, dens I env σ = some ds → ∀ {i : Nat} {e : E}, σ[i]? = some e → ∃ d, e.den I env = some d ∧ ds[i]? = some d
  | [], ds, h, i, e, hi => by simp at hi
  | e0 :: σ, ds, h, i, e, hi => by
    simp only [dens] at h
    split at h
    · rename_i d ds' h1 h2
      simp at h; subst h
      cases i with
      | zero => simp at hi; subst hi; exact ⟨d, h1, rfl⟩
      | succ i => obtain ⟨d', h3, h4⟩ := dens_get h2 (i := i) (by simpa using hi); exact ⟨d', h3, by simpa using h4⟩
    · cases h
theorem dens_length {env : List D} : ∀ {σ : List E} {ds : List D}, dens I env σ = some ds → ds.length = σ.length
  | [], ds, h => by simp [dens] at h; subst h; rfl
  | e :: σ, ds, h => by
    simp only [dens] at h
    split at h
    · rename_i d ds' h1 h2; simp at h; subst h; simp [dens_length h2]
    · cases h

theorem subst_den {env ds : List D} {n : Nat} {σ : List E} (hσ : dens I env σ = some ds) (hn : n ≤ env.length) : ∀ {e : E} {d : D}, (e.subst n σ).den I env = some d → e.den I (env.take n ++ ds) = some d := by
  intro e
  induction e with
  | lit x => intro d h; exact h
  | zt => intro d h; exact h
  | kt row => intro d h; exact h
  | bt b => intro d h; exact h
  | var i =>
    intro d h
    simp only [E.subst] at h
    split at h
    · rename_i hi
      simp only [E.den] at h ⊢
      rw [List.getElem?_append_left (by simp; omega), List.getElem?_take_of_lt hi]; exact h
    · rename_i hi
      cases hs : σ[i - n]? with
      | none => rw [hs] at h; simp [E.den] at h
      | some e' =>
        rw [hs] at h
        obtain ⟨d', h1, h2⟩ := dens_get hσ hs
        simp at h
        rw [h1] at h; simp at h; subst h
        simp only [E.den]
        rw [List.getElem?_append_right (by simp; omega), ← h2]
        congr 1; simp; omega
  | bin o a b iha ihb =>
    intro d h
    simp only [E.subst, E.den] at h ⊢
    split at h
    · rename_i x y h1 h2; rw [iha h1, ihb h2]; exact h
    · cases h
  | wrap k a ih =>
    intro d h
    simp only [E.subst, E.den] at h ⊢
    split at h
    · rename_i x h1; rw [ih h1]; exact h
    · cases h
  | sel t r c iht ihr =>
    intro d h
    simp only [E.subst, E.den] at h ⊢
    split at h
    · rename_i x y h1 h2; rw [iht h1, ihr h2]; exact h
    · cases h
  | upd t r c v iht ihr ihv =>
    intro d h
    simp only [E.subst, E.den] at h ⊢
    split at h
    · rename_i x y z h1 h2 h3; rw [iht h1, ihr h2, ihv h3]; exact h
    · cases h
  | cat t n u iht ihn ihu =>
    intro d h
    simp only [E.subst, E.den] at h ⊢
    split at h
    · rename_i x y z h1 h2 h3; rw [iht h1, ihn h2, ihu h3]; exact h
    · cases h
  | sh t n iht ihn =>
    intro d h
    simp only [E.subst, E.den] at h ⊢
    split at h
    · rename_i x y h1 h2; rw [iht h1, ihn h2]; exact h
    · cases h
  | teq t n u m iht ihn ihu ihm =>
    intro d h
    simp only [E.subst, E.den] at h ⊢
    split at h
    · rename_i x y z v h1 h2 h3 h4; rw [iht h1, ihn h2, ihu h3, ihm h4]; exact h
    · cases h
  | fn j a b c d iha ihb ihc ihd =>
    intro x h
    simp only [E.subst, E.den] at h ⊢
    split at h
    · rename_i x1 x2 x3 x4 h1 h2 h3 h4; rw [iha h1, ihb h2, ihc h3, ihd h4]; exact h
    · cases h

/-- The pattern's own view: its variables' values, its blocks' places. -/
def Fix.view (u : Fix) (g : G) (ds : List D) : G := { env := g.env.take u.nv ++ ds, φ := fun b => (u.img b).bind g.φ, nb := u.kb }

/-- The substitution fits. -/
structure Fix.Fits (I : Itp) (u : Fix) (g : G) (ds : List D) : Prop where
  σ : dens I g.env u.σ = some ds
  nv : u.nv ≤ g.env.length
  kb : u.nb ≤ u.kb

theorem Fix.img_lt {u : Fix} (h : u.nb ≤ u.kb) {b c : Nat} (hb : u.img b = some c) : b < u.kb := by
  unfold Fix.img at hb
  split at hb
  · omega
  · split at hb
    · assumption
    · cases hb

theorem Fix.view_wf {u : Fix} {ds : List D} (h : u.nb ≤ u.kb) : (u.view g ds).wf := fun b hb => by
  cases hi : u.img b with
  | none => simp [Fix.view, hi]
  | some c => have := Fix.img_lt h hi; simp only [Fix.view] at hb; omega

theorem Fix.view_φ {u : Fix} {ds : List D} {b c : Nat} (h : u.img b = some c) : (u.view g ds).φ b = g.φ c := by simp [Fix.view, h]

section
variable {u : Fix} {ds : List D}

theorem Fix.e_den (hf : u.Fits I g ds) {p f : E} {d : D} (h : (u.e p == f) = true) (hd : f.den I g.env = some d) : p.den I (u.view g ds).env = some d := by
  have : u.e p = f := by simpa using h
  rw [← this] at hd
  exact subst_den hf.σ hf.nv hd

mutual
theorem Fix.le_rel (hf : u.Fits I g ds) : ∀ {p v : AV} {x : Value}, u.le p v = true → Rel I g v x → Rel I (u.view g ds) p x := by
  intro p v x h hv
  match p with
  | .any => simp [Rel]
  | .undef => cases v <;> first | (simp [Fix.le] at h; done) | simpa [Rel] using hv
  | .bool e =>
    cases v with
    | bool f =>
      simp only [Fix.le] at h
      obtain ⟨n, h1, h2⟩ := hv
      exact ⟨n, Fix.e_den hf h h1, h2⟩
    | _ => simp [Fix.le] at h
  | .int k e =>
    cases v with
    | int k' f =>
      simp only [Fix.le, Bool.and_eq_true, beq_iff_eq] at h
      obtain ⟨rfl, h⟩ := h
      obtain ⟨n, h1, h2⟩ := hv
      exact ⟨n, Fix.e_den hf (by simpa using h) h1, h2⟩
    | _ => simp [Fix.le] at h
  | .nilptr => cases v <;> first | (simp [Fix.le] at h; done) | simpa [Rel] using hv
  | .ptr b r s k =>
    cases v with
    | ptr c q s' k' =>
      simp only [Fix.le, Bool.and_eq_true, beq_iff_eq] at h
      obtain ⟨⟨⟨hb, hr⟩, rfl⟩, rfl⟩ := h
      obtain ⟨n, p, h1, h2, h3, h4⟩ := hv
      exact ⟨n, p, Fix.e_den hf (by simpa using hr) h1, h2, by rw [Fix.view_φ hb]; exact h3, h4⟩
    | _ => simp [Fix.le] at h
  | .nilslice => cases v <;> first | (simp [Fix.le] at h; done) | simpa [Rel] using hv
  | .slice b lo n s nl =>
    have emp : ∀ {ad : Option Addr}, x = .slice ad 0 0 → nl = true → (u.e n == .lit 0) = true → (u.e lo == .lit 0) = true → Rel I (u.view g ds) (.slice b lo n s nl) x := fun {ad} hx hnl hn hlo => by
      have h1 := Fix.e_den (p := n) (f := .lit 0) hf hn rfl
      have h2 := Fix.e_den (p := lo) (f := .lit 0) hf hlo rfl
      exact ⟨0, 0, h2, h1, Int.le_refl _, Int.le_refl _, .inr ⟨hnl, rfl, ad, hx⟩⟩
    cases v with
    | slice c lo' n' s' nl' =>
      simp only [Fix.le, Bool.and_eq_true, beq_iff_eq] at h
      obtain ⟨⟨⟨⟨hb, hlo⟩, hn⟩, rfl⟩, hnl⟩ := h
      obtain ⟨l, m, h1, h2, h3, h4, h5⟩ := hv
      refine ⟨l, m, Fix.e_den hf (by simpa using hlo) h1, Fix.e_den hf (by simpa using hn) h2, h3, h4, ?_⟩
      rcases h5 with ⟨p, cap, h5, h6⟩ | ⟨h5, h6⟩
      · exact .inl ⟨p, cap, by rw [Fix.view_φ hb]; exact h5, h6⟩
      · refine .inr ⟨?_, h6⟩
        rw [h5] at hnl; simpa using hnl
    | nilslice =>
      simp only [Fix.le, Bool.and_eq_true] at h
      simp only [Rel] at hv
      exact emp hv h.1.1 h.1.2 h.2
    | cap0 =>
      simp only [Fix.le, Bool.and_eq_true] at h
      obtain ⟨ad, hv⟩ := hv
      exact emp hv h.1.1 h.1.2 h.2
    | capN =>
      simp only [Fix.le, Bool.and_eq_true] at h
      obtain ⟨ad, hv⟩ := hv
      exact emp hv h.1.1 h.1.2 h.2
    | _ => simp [Fix.le] at h
  | .capN => cases v <;> first | (simp [Fix.le] at h; done) | simpa [Rel] using hv
  | .strT t n =>
    cases v with
    | strT t' n' =>
      simp only [Fix.le, Bool.and_eq_true] at h
      obtain ⟨f, k, s, h1, h2, h3⟩ := hv
      exact ⟨f, k, s, Fix.e_den hf h.1 h1, Fix.e_den hf h.2 h2, h3⟩
    | str l =>
      simp only [Fix.le, Bool.and_eq_true] at h
      obtain ⟨s, h1, h2⟩ := hv
      obtain ⟨f, h3, h4⟩ := strTab_den (I := I) (env := g.env) l
      exact ⟨f, _, s, Fix.e_den hf h.1 h3, Fix.e_den hf h.2 rfl, h1, by rw [h2], fun i b hb => h4 i b (by rw [← h2]; exact hb)⟩
    | _ => simp [Fix.le] at h
  | .func f l =>
    cases v with
    | func f' m =>
      simp only [Fix.le, Bool.and_eq_true, beq_iff_eq] at h
      obtain ⟨rfl, h⟩ := h
      obtain ⟨cs, h1, h2⟩ := hv
      exact ⟨cs, h1, Fix.les_rel hf h h2⟩
    | _ => simp [Fix.le] at h
  | .yld b =>
    cases v with
    | yld c =>
      simp only [Fix.le, beq_iff_eq] at h
      obtain ⟨p, h1, h2⟩ := hv
      exact ⟨p, by rw [Fix.view_φ h]; exact h1, h2⟩
    | _ => simp [Fix.le] at h
  | .mref b =>
    cases v with
    | mref c =>
      simp only [Fix.le, beq_iff_eq] at h
      obtain ⟨p, h1, h2⟩ := hv
      exact ⟨p, by rw [Fix.view_φ h]; exact h1, h2⟩
    | _ => simp [Fix.le] at h
  | .nilmap => cases v <;> first | (simp [Fix.le] at h; done) | simpa [Rel] using hv
  | .nilif => cases v <;> first | (simp [Fix.le] at h; done) | simpa [Rel] using hv
  | .sat e =>
    simp only [Fix.le] at h
    split at h
    · rename_i f hf'
      obtain ⟨n, h1, h2⟩ := code_rel hf' hv
      exact ⟨n, Fix.e_den hf h h1, h2⟩
    · cases h
  | .ifo e =>
    cases v with
    | ifo f =>
      simp only [Fix.le] at h
      obtain ⟨n, h1, h2⟩ := hv
      exact ⟨n, Fix.e_den hf h h1, h2⟩
    | nilif =>
      simp only [Fix.le] at h
      simp only [Rel] at hv
      exact ⟨0, Fix.e_den hf h rfl, .inl ⟨rfl, hv⟩⟩
    | _ => simp [Fix.le] at h
  | .nilfunc => cases v <;> first | (simp [Fix.le] at h; done) | simpa [Rel] using hv
  | .agg l =>
    cases v with
    | agg m =>
      simp only [Fix.le] at h
      obtain ⟨cs, h1, h2⟩ := hv
      exact ⟨cs, h1, Fix.les_rel hf h h2⟩
    | _ => simp [Fix.le] at h
  | .tup l =>
    cases v with
    | tup m =>
      simp only [Fix.le] at h
      obtain ⟨cs, h1, h2⟩ := hv
      exact ⟨cs, h1, Fix.les_rel hf h h2⟩
    | _ => simp [Fix.le] at h
  | .big l ks t n m =>
    cases v with
    | big l' ks' t' n' m' =>
      simp only [Fix.le, Bool.and_eq_true, beq_iff_eq] at h
      obtain ⟨⟨⟨⟨h1, rfl⟩, h3⟩, rfl⟩, h5⟩ := h
      obtain ⟨f, xs, ys, zs, h6, h7, h8, h9, h10⟩ := hv
      exact ⟨f, xs, ys, zs, Fix.e_den hf (by simpa using h3) h6, h7, Fix.les_rel hf h1 h8, Fix.les_rel hf h5 h9, h10⟩
    | _ => simp [Fix.le] at h
  | .cap0 => cases v <;> first | (simp [Fix.le] at h; done) | simpa [Rel] using hv
  | .empty =>
    cases v with
    | empty => simpa [Rel] using hv
    | cap0 => obtain ⟨ad, hv⟩ := hv; exact ⟨ad, 0, hv⟩
    | _ => simp [Fix.le] at h
  | .asl b k n s =>
    cases v with
    | asl c k' n' s' =>
      simp only [Fix.le, Bool.and_eq_true, beq_iff_eq] at h
      obtain ⟨⟨⟨h1, rfl⟩, rfl⟩, rfl⟩ := h
      obtain ⟨p, cap, h2, h3⟩ := hv
      exact ⟨p, cap, by rw [Fix.view_φ h1]; exact h2, h3⟩
    | _ => simp [Fix.le] at h
  | .bfunc f l m =>
    cases v with
    | bfunc f' l' m' =>
      simp only [Fix.le, Bool.and_eq_true, beq_iff_eq] at h
      obtain ⟨⟨rfl, h1⟩, h2⟩ := h
      obtain ⟨ms, cs, h3, h4, h5⟩ := hv
      exact ⟨ms, cs, h3, Fix.les_rel hf h1 h4, Fix.les_rel hf h2 h5⟩
    | _ => simp [Fix.le] at h
  | .gptr b k =>
    cases v with
    | gptr b' k' =>
      simp only [Fix.le, Bool.and_eq_true, beq_iff_eq] at h
      obtain ⟨rfl, rfl⟩ := h
      simpa [Rel] using hv
    | _ => simp [Fix.le] at h
  | .str l =>
    cases v with
    | str m =>
      simp only [Fix.le, beq_iff_eq] at h
      subst h
      simpa [Rel] using hv
    | _ => simp [Fix.le] at h
theorem Fix.les_rel (hf : u.Fits I g ds) : ∀ {l m : List AV} {xs : List Value}, u.les l m = true → Rels I g m xs → Rels I (u.view g ds) l xs := by
  intro l m xs h hm
  match l, m, xs with
  | [], [], [] => trivial
  | a :: l, b :: m, x :: xs =>
    simp only [Fix.les, Bool.and_eq_true] at h
    exact ⟨Fix.le_rel hf h.1 hm.1, Fix.les_rel hf h.2 hm.2⟩
  | [], _ :: _, _ => simp [Fix.les] at h
  | _ :: _, [], _ => simp [Fix.les] at h
  | [], [], _ :: _ => simp [Rels] at hm
  | _ :: _, _ :: _, [] => simp [Rels] at hm
end

theorem Fix.leT_rel (hf : u.Fits I g ds) {X : Nat → Prop} : ∀ {p ts : Tmps} {xs : Array Value}, u.leT p ts = true → TRel I g X ts xs → TRel I (u.view g ds) X p xs
  | [], ts, xs, _, _ => fun t v h => by simp [get_nil] at h
  | (t0, v0) :: p, ts, xs, h, ht => by
    simp only [Fix.leT, Bool.and_eq_true] at h
    obtain ⟨h1, h2⟩ := h
    have ih := Fix.leT_rel hf h2 ht
    intro t v hv hX
    simp only [get_cons] at hv
    split at hv
    · rename_i he
      subst he
      simp at hv; subst hv
      split at h1
      · rename_i w0 hw
        obtain ⟨x, h3, h4⟩ := ht t0 w0 hw hX
        exact ⟨x, h3, Fix.le_rel hf h1 h4⟩
      · cases h1
    · exact ih t v hv hX

theorem Fix.lesP_get : ∀ {l m : List AV}, u.lesP l m = true → ∀ {i : Nat} {v : AV}, l[i]? = some v → ∃ v', m[i]? = some v' ∧ u.le v v' = true
  | [], _, _, i, v, hv => by simp at hv
  | _ :: _, [], hm, _, _, _ => by simp [Fix.lesP] at hm
  | a :: l, b :: m, hm, i, v, hv => by
    simp only [Fix.lesP, Bool.and_eq_true] at hm
    cases i with
    | zero => simp at hv; subst hv; exact ⟨b, rfl, hm.1⟩
    | succ i => simpa using Fix.lesP_get hm.2 (i := i) (by simpa using hv)
theorem Fix.les_get : ∀ {l m : List AV}, u.les l m = true → l.length = m.length ∧ ∀ {i : Nat} {v : AV}, l[i]? = some v → ∃ v', m[i]? = some v' ∧ u.le v v' = true
  | [], [], _ => ⟨rfl, fun hv => by simp at hv⟩
  | [], _ :: _, hm => by simp [Fix.les] at hm
  | _ :: _, [], hm => by simp [Fix.les] at hm
  | a :: l, b :: m, hm => by
    simp only [Fix.les, Bool.and_eq_true] at hm
    obtain ⟨h1, h2⟩ := Fix.les_get hm.2
    refine ⟨by simp [h1], fun {i v} hv => ?_⟩
    cases i with
    | zero => simp at hv; subst hv; exact ⟨b, rfl, hm.1⟩
    | succ i => simpa using h2 (i := i) (by simpa using hv)

theorem Fix.leB_rel (hf : u.Fits I g ds) {b c : Nat} (hb : u.img b = some c) {H : Nat → Option Obj} : ∀ {x y : Blk}, u.leB x y = true → BRel I P g c H y → BRel I P (u.view g ds) b H x := by
  intro x y h hy
  cases x with
  | cells l w =>
    cases y with
    | cells m w' =>
      simp only [Fix.leB, Bool.and_eq_true] at h
      obtain ⟨hw, h⟩ := h
      obtain ⟨p, cs, T, fr, h1, h2, h3, h4⟩ := hy
      refine ⟨p, cs, T, fr, by rw [Fix.view_φ hb]; exact h1, h2, fun i v hv => ?_, fun hw2 => h4 (by rw [hw2] at hw; simpa using hw)⟩
      obtain ⟨v', h5, h6⟩ := Fix.lesP_get h hv
      obtain ⟨x, h7, h8⟩ := h3 i v' h5
      exact ⟨x, h7, Fix.le_rel hf h6 h8⟩
    | _ => simp [Fix.leB] at h
  | rows ks t n w nl =>
    cases y with
    | rows ks' t' n' w' nl' =>
      simp only [Fix.leB, Bool.and_eq_true, beq_iff_eq] at h
      obtain ⟨⟨⟨⟨rfl, ht⟩, hn⟩, hw⟩, hnl⟩ := h
      obtain ⟨f, m, h1, h2, h3, h4⟩ := hy
      refine ⟨f, m, Fix.e_den hf (by simpa using ht) h1, Fix.e_den hf (by simpa using hn) h2, h3, ?_⟩
      rcases h4 with ⟨p, cs, T, fr, h4, h5, h6, h7⟩ | ⟨h4, h5, h6⟩
      · exact .inl ⟨p, cs, T, fr, by rw [Fix.view_φ hb]; exact h4, h5, h6, fun hw2 => h7 (by rw [hw2] at hw; simpa using hw)⟩
      · exact .inr ⟨by rw [h4] at hnl; simpa using hnl, h5, by rw [Fix.view_φ hb]; exact h6⟩
    | _ => simp [Fix.leB] at h
  | big l ks t n m w =>
    cases y with
    | big l' ks' t' n' m' w' =>
      simp only [Fix.leB, Bool.and_eq_true, beq_iff_eq] at h
      obtain ⟨⟨⟨⟨⟨hl, rfl⟩, ht⟩, rfl⟩, hm⟩, hw⟩ := h
      obtain ⟨p, cs, T, fr, f, h1, h2, h3, h4, h5, h6, h7⟩ := hy
      obtain ⟨hlen, hget⟩ := Fix.les_get hl
      refine ⟨p, cs, T, fr, f, by rw [Fix.view_φ hb]; exact h1, h2, Fix.e_den hf (by simpa using ht) h3, fun i v hv => ?_, by rw [hlen]; exact h5, fun i v hv => ?_, fun hw2 => h7 (by rw [hw2] at hw; simpa using hw)⟩
      · obtain ⟨v', h8, h9⟩ := hget hv
        obtain ⟨x, h10, h11⟩ := h4 i v' h8
        exact ⟨x, h10, Fix.le_rel hf h9 h11⟩
      · obtain ⟨v', h8, h9⟩ := Fix.lesP_get hm hv
        obtain ⟨x, h10, h11⟩ := h6 i v' h8
        exact ⟨x, by rw [hlen]; exact h10, Fix.le_rel hf h9 h11⟩
    | _ => simp [Fix.leB] at h
  | loop st p f ix nt ts d =>
    cases y with
    | loop st' p' f' ix' nt' ts' d' =>
      simp only [Fix.leB, Bool.and_eq_true, beq_iff_eq] at h
      obtain ⟨⟨⟨⟨⟨⟨rfl, rfl⟩, rfl⟩, rfl⟩, rfl⟩, hts⟩, hd⟩ := h
      obtain ⟨q, q', r, rf, h1, h2, h3, h4, h5, h6, h7, h8, h9, h10, h11, h12⟩ := hy
      exact ⟨q, q', r, rf, by rw [Fix.view_φ hb]; exact h1, by rw [Fix.view_φ hd]; exact h2, h3, h4, h5, h6, h7, h8, h9, h10, h11, Fix.leT_rel hf hts h12⟩
    | _ => simp [Fix.leB] at h
  | dfr x =>
    cases y with
    | dfr y =>
      simp only [Fix.leB, beq_iff_eq] at h
      subst h
      obtain ⟨p, h1, h2⟩ := hy
      exact ⟨p, by rw [Fix.view_φ hb]; exact h1, h2⟩
    | _ => simp [Fix.leB] at h
  | mp l m =>
    cases y with
    | mp l' m' =>
      simp only [Fix.leB, Bool.and_eq_true] at h
      obtain ⟨p, es, c, h1, h2, h3, h4⟩ := hy
      exact ⟨p, es, c, by rw [Fix.view_φ hb]; exact h1, h2, Fix.les_rel hf h.1 h3, Fix.les_rel hf h.2 h4⟩
    | _ => simp [Fix.leB] at h

theorem Fix.leB_wr {x y : Blk} (h : u.leB x y = true) (hw : x.wr = true) : y.wr = true := by
  cases x <;> cases y <;> first | (simp [Fix.leB] at h; done) | rfl | (simp only [Fix.leB, Bool.and_eq_true, Blk.wr] at h hw ⊢; simp_all)

/-- A pattern's block: it stands for one that is there, or for no block (a slice that is nil). -/
theorem Fix.leM_get : ∀ {p M : Mem}, u.leM p M = true → ∀ {b : Nat} {x : Blk}, get p b = some x →
    (∃ c y, u.img b = some c ∧ get M c = some y ∧ u.leB x y = true) ∨
    (u.img b = none ∧ b < u.kb ∧ ∃ ks t n w, x = .rows ks t n w true ∧ u.e n = .lit 0 ∧ u.e t = .zt)
  | [], M, _, b, x, h => by simp [get_nil] at h
  | (b0, x0) :: p, M, hm, b, x, h => by
    simp only [Fix.leM, Bool.and_eq_true] at hm
    simp only [get_cons] at h
    split at h
    · rename_i he
      subst he
      simp at h; subst h
      have h1 := hm.1
      split at h1
      · rename_i c hc
        split at h1
        · rename_i y hy; exact .inl ⟨c, y, hc, hy, h1⟩
        · cases h1
      · rename_i hc
        split at h1
        · rename_i ks t n w nl
          simp only [Bool.and_eq_true, beq_iff_eq, decide_eq_true_eq] at h1
          obtain ⟨⟨⟨h2, h3⟩, h4⟩, h5⟩ := h1
          subst h2
          exact .inr ⟨hc, h5, ks, t, n, w, rfl, h3, h4⟩
        · cases h1
    · exact Fix.leM_get hm.2 h

theorem Fix.imgs_mem : ∀ {p : Mem} {b c : Nat} {x : Blk}, get p b = some x → u.img b = some c → c ∈ u.imgs p
  | [], b, c, x, h, _ => by simp [get_nil] at h
  | (b0, x0) :: p, b, c, x, h, hc => by
    simp only [get_cons] at h
    simp only [Fix.imgs]
    split at h
    · rename_i he; subst he; rw [hc]; simp
    · have := Fix.imgs_mem h hc
      split
      · simp [this]
      · exact this

theorem Fix.imgs_inj : ∀ {p : Mem}, nodup (u.imgs p) = true → ∀ {b c d : Nat} {x y : Blk}, get p b = some x → get p c = some y → u.img b = some d → u.img c = some d → b = c
  | [], _, b, c, d, x, y, h, _, _, _ => by simp [get_nil] at h
  | (b0, x0) :: p, hn, b, c, d, x, y, hb, hc, hbd, hcd => by
    simp only [Fix.imgs] at hn
    simp only [get_cons] at hb hc
    by_cases h1 : b0 = b
    · by_cases h2 : b0 = c
      · omega
      · rw [if_neg h2] at hc
        subst h1
        rw [hbd] at hn
        simp only [nodup, Bool.and_eq_true] at hn
        have := Fix.imgs_mem hc hcd
        simp [this] at hn
    · rw [if_neg h1] at hb
      by_cases h2 : b0 = c
      · subst h2
        rw [hcd] at hn
        simp only [nodup, Bool.and_eq_true] at hn
        have := Fix.imgs_mem hb hbd
        simp [this] at hn
      · rw [if_neg h2] at hc
        refine Fix.imgs_inj ?_ hb hc hbd hcd
        split at hn
        · simp only [nodup, Bool.and_eq_true] at hn; exact hn.2
        · exact hn

theorem Fix.mrel (hf : u.Fits I g ds) {p : Mem} (hm : MRel A I P g M w) (hle : u.leM p M = true) (hok : u.ok p = true) : MRel A I P (u.view g ds) p w := by
  simp only [Fix.ok, Bool.and_eq_true] at hok
  refine ⟨Fix.view_wf hf.kb, fun b x hx => ?_, fun b x hx => ?_, fun b c x y q r hx hy hwx hq hr e => ?_, fun b q hq => ?_, fun b x q hx hw hq => ?_, hm.size, hm.keep, hm.same⟩
  · rcases Fix.leM_get hle hx with ⟨c, y, h1, h2, h3⟩ | ⟨h1, h2, ks, t, n, w', rfl, h3, h4⟩
    · exact Fix.leB_rel hf h1 h3 (hm.blk c y h2)
    · have ht := Fix.e_den (p := t) (f := .zt) hf (by simp [h4]) rfl
      have hn := Fix.e_den (p := n) (f := .lit 0) hf (by simp [h3]) rfl
      exact ⟨_, 0, ht, hn, Int.le_refl _, .inr ⟨rfl, rfl, by simp [Fix.view, h1]⟩⟩
  · rcases Fix.leM_get hle hx with ⟨c, y, h1, _⟩ | ⟨_, h2, _⟩
    · exact Fix.img_lt hf.kb h1
    · exact h2
  · rcases Fix.leM_get hle hx with ⟨b', x', h1, h2, hxb⟩ | ⟨h1, _⟩
    · rcases Fix.leM_get hle hy with ⟨c', y', h3, h4, _⟩ | ⟨h3, _⟩
      · rw [Fix.view_φ h1] at hq
        rw [Fix.view_φ h3] at hr
        have := hm.inj b' c' x' y' q r h2 h4 (Fix.leB_wr hxb hwx) hq hr e
        subst this
        exact Fix.imgs_inj hok.2 hx hy h1 h3
      · simp [Fix.view, h3] at hr
    · simp [Fix.view, h1] at hq
  · cases hi : u.img b with
    | none => simp [Fix.view, hi] at hq
    | some c => rw [Fix.view_φ hi] at hq; exact hm.bnd c q hq
  · rcases Fix.leM_get hle hx with ⟨c, y, h1, h2, h3⟩ | ⟨h1, _⟩
    · rw [Fix.view_φ h1] at hq
      exact hm.own c y q h2 (Fix.leB_wr h3 hw) hq
    · simp [Fix.view, h1] at hq

theorem Fix.leD_rel (hf : u.Fits I g ds) : ∀ {l m : List DV} {xs : List Deferred}, u.leD l m = true → DRel I g m xs → DRel I (u.view g ds) l xs
  | [], [], [], _, _ => trivial
  | .blk b :: l, .blk c :: m, x :: xs, h, hm => by
    simp only [Fix.leD, Bool.and_eq_true, beq_iff_eq] at h
    obtain ⟨⟨p, h1, h2⟩, h3⟩ := hm
    exact ⟨⟨p, by rw [Fix.view_φ h.1]; exact h1, h2⟩, Fix.leD_rel hf h.2 h3⟩
  | .fn f l1 l2 :: l, .fn f' m1 m2 :: m, x :: xs, h, hm => by
    simp only [Fix.leD, Bool.and_eq_true, beq_iff_eq] at h
    obtain ⟨⟨⟨rfl, h4⟩, h5⟩, h6⟩ := h
    obtain ⟨⟨ms, cs, h1, h2, h2'⟩, h3⟩ := hm
    exact ⟨⟨ms, cs, h1, Fix.les_rel hf h4 h2, Fix.les_rel hf h5 h2'⟩, Fix.leD_rel hf h6 h3⟩
  | .blk _ :: _, .fn .. :: _, _, h, _ => by simp [Fix.leD] at h
  | .fn .. :: _, .blk _ :: _, _, h, _ => by simp [Fix.leD] at h
  | [], _ :: _, _, h, _ => by simp [Fix.leD] at h
  | _ :: _, [], _, h, _ => by simp [Fix.leD] at h
  | [], [], _ :: _, _, h => by simp [DRel] at h
  | _ :: _, _ :: _, [], _, h => by simp [DRel] at h

theorem Fix.srel (hf : u.Fits I g ds) {h s : St} (hs : SRel A I P X g s a w) (hle : u.leS h s = true) (hnv : h.nv = u.nv + ds.length) (hnb : h.nb = u.kb) : SRel A I P X (u.view g ds) h a w := by
  simp only [Fix.leS, Bool.and_eq_true, beq_iff_eq] at hle
  obtain ⟨⟨⟨⟨⟨_, h1⟩, h2⟩, h3⟩, h4⟩, h5⟩ := hle
  refine ⟨Fix.mrel hf hs.m h4 h5, Fix.leT_rel hf h3 hs.t, by rw [hs.nt, h1], Fix.leD_rel hf h2 hs.d, ?_, by rw [hnb]; rfl⟩
  rw [hnv]
  have := hf.nv
  simp [Fix.view]; omega
end
end Go.Sx
