/-
  What a symbolic state says of a machine's: the relation, and how it abides new variables and new blocks. Conditions: none.
-/
import Derived.Test.YtbcclmpmljpbcaaGreatDoorSxExec
import Derived.Laws.World
import Derived.Laws.Cells
noncomputable section
namespace Go.Sx
open Go

structure PB where
  blk : Nat
  base : Nat
  tot : Nat

structure G where
  env : List D
  φ : Nat → Option PB
  nb : Nat

def G.wf (g : G) : Prop := ∀ b, g.nb ≤ b → g.φ b = none

structure G.Le (g g' : G) : Prop where
  env : ∃ xs, g'.env = g.env ++ xs
  nb : g.nb ≤ g'.nb
  φ : ∀ b, b < g.nb → g'.φ b = g.φ b

theorem G.Le.refl (g : G) : g.Le g := ⟨⟨[], by simp⟩, Nat.le_refl _, fun _ _ => rfl⟩
theorem G.Le.trans {g h k : G} (a : g.Le h) (b : h.Le k) : g.Le k := by
  obtain ⟨⟨xs, hx⟩, h1, h2⟩ := a
  obtain ⟨⟨ys, hy⟩, h3, h4⟩ := b
  exact ⟨⟨xs ++ ys, by rw [hy, hx, List.append_assoc]⟩, Nat.le_trans h1 h3, fun b hb => by rw [h4 b (Nat.lt_of_lt_of_le hb h1), h2 b hb]⟩
theorem G.wf.lt {g : G} (h : g.wf) {b : Nat} {p : PB} (hb : g.φ b = some p) : b < g.nb := by
  rcases Nat.lt_or_ge b g.nb with h1 | h1
  · exact h1
  · rw [h b h1] at hb; cases hb
theorem G.Le.some {g g' : G} (h : g.Le g') (hw : g.wf) {b : Nat} {p : PB} (hb : g.φ b = some p) : g'.φ b = some p := by
  rw [h.φ b (hw.lt hb)]; exact hb

theorem E.den_more {I : Itp} {env xs : List D} : ∀ {e : E} {d : D}, e.den I env = some d → e.den I (env ++ xs) = some d := by
  intro e
  induction e with
  | lit n => intro d h; exact h
  | zt => intro d h; exact h
  | kt row => intro d h; exact h
  | bt b => intro d h; exact h
  | var i =>
    intro d h
    simp only [E.den] at h ⊢
    obtain ⟨hl, _⟩ := List.getElem?_eq_some_iff.1 h
    rw [List.getElem?_append_left hl]; exact h
  | bin o a b iha ihb =>
    intro d h
    simp only [E.den] at h ⊢
    split at h
    · rename_i x y h1 h2; rw [iha h1, ihb h2]; exact h
    · cases h
  | wrap k a ih =>
    intro d h
    simp only [E.den] at h ⊢
    split at h
    · rename_i x h1; rw [ih h1]; exact h
    · cases h
  | sel t r c iht ihr =>
    intro d h
    simp only [E.den] at h ⊢
    split at h
    · rename_i x y h1 h2; rw [iht h1, ihr h2]; exact h
    · cases h
  | upd t r c v iht ihr ihv =>
    intro d h
    simp only [E.den] at h ⊢
    split at h
    · rename_i x y z h1 h2 h3; rw [iht h1, ihr h2, ihv h3]; exact h
    · cases h
  | cat t n u iht ihn ihu =>
    intro d h
    simp only [E.den] at h ⊢
    split at h
    · rename_i x y z h1 h2 h3; rw [iht h1, ihn h2, ihu h3]; exact h
    · cases h
  | sh t n iht ihn =>
    intro d h
    simp only [E.den] at h ⊢
    split at h
    · rename_i x y h1 h2; rw [iht h1, ihn h2]; exact h
    · cases h
  | teq t n u m iht ihn ihu ihm =>
    intro d h
    simp only [E.den] at h ⊢
    split at h
    · rename_i x y z v h1 h2 h3 h4; rw [iht h1, ihn h2, ihu h3, ihm h4]; exact h
    · cases h
  | fn j a b c d iha ihb ihc ihd =>
    intro x h
    simp only [E.den] at h ⊢
    split at h
    · rename_i x1 x2 x3 x4 h1 h2 h3 h4; rw [iha h1, ihb h2, ihc h3, ihd h4]; exact h
    · cases h

theorem E.den_le {I : Itp} {g g' : G} (h : g.Le g') {e : E} {d : D} (he : e.den I g.env = some d) : e.den I g'.env = some d := by
  obtain ⟨⟨xs, hx⟩, _, _⟩ := h
  rw [hx]; exact E.den_more he

/-! ### Values -/

mutual
def Rel (I : Itp) (g : G) : AV → Value → Prop
  | .any, _ => True
  | .undef, x => x = Go.undef
  | .bool e, x => ∃ n : Int, e.den I g.env = some (.i n) ∧ x = .bool (decide (n ≠ 0))
  | .int k e, x => ∃ n : Int, e.den I g.env = some (.i n) ∧ x = .int k n
  | .nilptr, x => x = .pointer none
  | .ptr b r s k, x => ∃ (n : Int) (p : PB), r.den I g.env = some (.i n) ∧ 0 ≤ n ∧ g.φ b = some p ∧ x = .pointer (some ⟨p.blk, p.base + n.toNat * s + k, none⟩)
  | .nilslice, x => x = .slice none 0 0
  | .slice b lo len s nl, x => ∃ l n : Int, lo.den I g.env = some (.i l) ∧ len.den I g.env = some (.i n) ∧ 0 ≤ l ∧ 0 ≤ n ∧
      ((∃ (p : PB) (cap : Nat), g.φ b = some p ∧ x = .slice (some ⟨p.blk, p.base + l.toNat * s, none⟩) n.toNat cap ∧ n.toNat ≤ cap ∧ (l.toNat + cap) * s ≤ p.tot) ∨
       (nl = true ∧ n = 0 ∧ ∃ a, x = .slice a 0 0))
  | .func f cap, x => ∃ cs : Array Value, x = .func (.func f) #[] cs ∧ Rels I g cap cs.toList
  | .yld b, x => ∃ p : PB, g.φ b = some p ∧ x = .func (.yield p.blk) #[] #[]
  | .nilfunc, x => x = .nilFunc
  | .agg l, x => ∃ cs : Array Value, x = .agg cs ∧ Rels I g l cs.toList
  | .tup l, x => ∃ cs : Array Value, x = .tuple cs ∧ Rels I g l cs.toList
  | .big l ks t n m, x => ∃ (f : Int → Nat → Int) (xs ys zs : List Value), t.den I g.env = some (.t f) ∧ x = .agg (xs ++ ys ++ zs).toArray ∧ Rels I g l xs ∧ Rels I g m zs ∧
      ys.length = n * ks.length ∧ ∀ (r j : Nat) (k : CK), r < n → ks[j]? = some k → ys[r * ks.length + j]? = some (k.val (f r j))
  | .cap0, x => ∃ a : Addr, x = .slice (some a) 0 0
  | .empty, x => ∃ (a : Addr) (c : Nat), x = .slice (some a) 0 c
  | .asl b k n _, x => ∃ (p : PB) (cap : Nat), g.φ b = some p ∧ n ≤ cap ∧ x = .slice (some ⟨p.blk, p.base + k, none⟩) n cap
  | .bfunc f m cap, x => ∃ ms cs : Array Value, x = .func (.func f) ms cs ∧ Rels I g m ms.toList ∧ Rels I g cap cs.toList
  | .gptr v k, x => x = .pointer (some ⟨v, k, none⟩)
  | .str l, x => ∃ s : ByteArray, x = .string s ∧ s.data.toList = l
  | .strT t n, x => ∃ (f : Int → Nat → Int) (k : Int) (s : ByteArray), t.den I g.env = some (.t f) ∧ n.den I g.env = some (.i k) ∧ x = .string s ∧ k = s.data.toList.length ∧
      ∀ (i : Nat) (b : UInt8), s.data.toList[i]? = some b → f i 0 = b.toNat
  | .capN, x => ∃ a : Option Addr, x = .slice a 0 0
  | .mref b, x => ∃ p : PB, g.φ b = some p ∧ x = .map (some p.blk)
  | .nilmap, x => x = .map none
  | .nilif, x => x = .nilIface
  | .sat e, x => ∃ n : Int, e.den I g.env = some (.i n) ∧ x = .string ⟨(sdec n).toArray⟩
  | .ifo e, x => ∃ n : Int, e.den I g.env = some (.i n) ∧ ((n = 0 ∧ x = .nilIface) ∨ (n ≠ 0 ∧ ∃ t p, x = .iface t p))
def Rels (I : Itp) (g : G) : List AV → List Value → Prop
  | [], [] => True
  | a :: l, x :: xs => Rel I g a x ∧ Rels I g l xs
  | _, _ => False
end

mutual
theorem Rel.le {I : Itp} {g g' : G} (h : g.Le g') (hw : g.wf) : ∀ {v : AV} {x : Value}, Rel I g v x → Rel I g' v x := by
  intro v x hv
  match v with
  | .any => trivial
  | .undef => simpa [Rel] using hv
  | .bool e => simp only [Rel] at hv ⊢; obtain ⟨n, h1, h2⟩ := hv; exact ⟨n, E.den_le h h1, h2⟩
  | .int k e => simp only [Rel] at hv ⊢; obtain ⟨n, h1, h2⟩ := hv; exact ⟨n, E.den_le h h1, h2⟩
  | .nilptr => simpa [Rel] using hv
  | .ptr b r s k =>
    simp only [Rel] at hv ⊢
    obtain ⟨n, p, h1, h2, h3, h4⟩ := hv
    exact ⟨n, p, E.den_le h h1, h2, h.some hw h3, h4⟩
  | .nilslice => simpa [Rel] using hv
  | .slice b lo len s nl =>
    simp only [Rel] at hv ⊢
    obtain ⟨l, n, h1, h2, h3, h4, h5⟩ := hv
    refine ⟨l, n, E.den_le h h1, E.den_le h h2, h3, h4, ?_⟩
    rcases h5 with ⟨p, cap, h5, h6⟩ | h5
    · exact .inl ⟨p, cap, h.some hw h5, h6⟩
    · exact .inr h5
  | .func f cap => simp only [Rel] at hv ⊢; obtain ⟨cs, h1, h2⟩ := hv; exact ⟨cs, h1, Rels.le h hw h2⟩
  | .yld b => simp only [Rel] at hv ⊢; obtain ⟨p, h1, h2⟩ := hv; exact ⟨p, h.some hw h1, h2⟩
  | .nilfunc => simpa [Rel] using hv
  | .agg l => simp only [Rel] at hv ⊢; obtain ⟨cs, h1, h2⟩ := hv; exact ⟨cs, h1, Rels.le h hw h2⟩
  | .tup l => simp only [Rel] at hv ⊢; obtain ⟨cs, h1, h2⟩ := hv; exact ⟨cs, h1, Rels.le h hw h2⟩
  | .big l ks t n m =>
    simp only [Rel] at hv ⊢
    obtain ⟨f, xs, ys, zs, h1, h2, h3, h4, h5⟩ := hv
    exact ⟨f, xs, ys, zs, E.den_le h h1, h2, Rels.le h hw h3, Rels.le h hw h4, h5⟩
  | .cap0 => simpa [Rel] using hv
  | .empty => simpa [Rel] using hv
  | .asl b k n s => simp only [Rel] at hv ⊢; obtain ⟨p, cap, h1, h2⟩ := hv; exact ⟨p, cap, h.some hw h1, h2⟩
  | .bfunc f m cap => simp only [Rel] at hv ⊢; obtain ⟨ms, cs, h1, h2, h3⟩ := hv; exact ⟨ms, cs, h1, Rels.le h hw h2, Rels.le h hw h3⟩
  | .gptr v k => simpa [Rel] using hv
  | .str l => simpa [Rel] using hv
  | .strT t n => simp only [Rel] at hv ⊢; obtain ⟨f, k, s, h1, h2, h3⟩ := hv; exact ⟨f, k, s, E.den_le h h1, E.den_le h h2, h3⟩
  | .capN => simpa [Rel] using hv
  | .mref b => simp only [Rel] at hv ⊢; obtain ⟨p, h1, h2⟩ := hv; exact ⟨p, h.some hw h1, h2⟩
  | .nilmap => simpa [Rel] using hv
  | .nilif => simpa [Rel] using hv
  | .sat e => simp only [Rel] at hv ⊢; obtain ⟨n, h1, h2⟩ := hv; exact ⟨n, E.den_le h h1, h2⟩
  | .ifo e => simp only [Rel] at hv ⊢; obtain ⟨n, h1, h2⟩ := hv; exact ⟨n, E.den_le h h1, h2⟩
theorem Rels.le {I : Itp} {g g' : G} (h : g.Le g') (hw : g.wf) : ∀ {l : List AV} {xs : List Value}, Rels I g l xs → Rels I g' l xs := by
  intro l xs hl
  match l, xs with
  | [], [] => trivial
  | a :: l, x :: xs => simp only [Rels] at hl ⊢; exact ⟨Rel.le h hw hl.1, Rels.le h hw hl.2⟩
  | [], _ :: _ => simp [Rels] at hl
  | _ :: _, [] => simp [Rels] at hl
end

theorem Rels.length {I : Itp} {g : G} : ∀ {l : List AV} {xs : List Value}, Rels I g l xs → l.length = xs.length
  | [], [], _ => rfl
  | _ :: l, _ :: xs, h => by simp only [Rels] at h; simp [Rels.length h.2]
  | [], _ :: _, h => by simp [Rels] at h
  | _ :: _, [], h => by simp [Rels] at h

theorem Rels.get {I : Itp} {g : G} : ∀ {l : List AV} {xs : List Value}, Rels I g l xs → ∀ {i : Nat} {v : AV}, l[i]? = some v → ∃ x, xs[i]? = some x ∧ Rel I g v x
  | [], [], _, i, v, h => by simp at h
  | a :: l, x :: xs, hr, i, v, h => by
    simp only [Rels] at hr
    cases i with
    | zero => simp at h; subst h; exact ⟨x, rfl, hr.1⟩
    | succ i => simp at h; obtain ⟨y, h1, h2⟩ := Rels.get hr.2 h; exact ⟨y, by simpa using h1, h2⟩
  | [], _ :: _, h, _, _, _ => by simp [Rels] at h
  | _ :: _, [], h, _, _, _ => by simp [Rels] at h

theorem Rels.mk {I : Itp} {g : G} : ∀ {l : List AV} {xs : List Value}, l.length = xs.length → (∀ (i : Nat) (v : AV) (x : Value), l[i]? = some v → xs[i]? = some x → Rel I g v x) → Rels I g l xs
  | [], [], _, _ => trivial
  | a :: l, x :: xs, hl, h => by
    refine ⟨h 0 a x rfl rfl, Rels.mk (by simpa using hl) fun i v y h1 h2 => h (i + 1) v y (by simpa using h1) (by simpa using h2)⟩
  | [], _ :: _, h, _ => by simp at h
  | _ :: _, [], h, _ => by simp at h

theorem Rels.append {I : Itp} {g : G} : ∀ {l m : List AV} {xs ys : List Value}, Rels I g l xs → Rels I g m ys → Rels I g (l ++ m) (xs ++ ys)
  | [], _, [], _, _, h => h
  | a :: l, _, x :: xs, _, h, h' => ⟨h.1, Rels.append h.2 h'⟩
  | [], _, _ :: _, _, h, _ => by simp [Rels] at h
  | _ :: _, _, [], _, h, _ => by simp [Rels] at h

theorem Rels.drop {I : Itp} {g : G} : ∀ (k : Nat) {l : List AV} {xs : List Value}, Rels I g l xs → Rels I g (l.drop k) (xs.drop k)
  | 0, _, _, h => h
  | k + 1, [], [], _ => trivial
  | k + 1, a :: l, x :: xs, h => by simpa using Rels.drop k h.2
  | _ + 1, [], _ :: _, h => by simp [Rels] at h
  | _ + 1, _ :: _, [], h => by simp [Rels] at h
theorem Rels.take {I : Itp} {g : G} : ∀ (k : Nat) {l : List AV} {xs : List Value}, Rels I g l xs → Rels I g (l.take k) (xs.take k)
  | 0, _, _, _ => by simp [Rels]
  | k + 1, [], [], _ => trivial
  | k + 1, a :: l, x :: xs, h => by simp only [List.take_succ_cons]; exact ⟨h.1, Rels.take k h.2⟩
  | _ + 1, [], _ :: _, h => by simp [Rels] at h
  | _ + 1, _ :: _, [], h => by simp [Rels] at h

/-! ### Temporaries -/

theorem get_put {α : Type} (t u : Nat) (v : α) (l : List (Nat × α)) : get (put t v l) u = if t = u then some v else get l u := by
  have hd : ∀ l : List (Nat × α), t ≠ u → get (del1 t l) u = get l u := by
    intro l h
    induction l with
    | nil => rfl
    | cons x l ih =>
      obtain ⟨k, w⟩ := x
      simp only [del1_cons]
      by_cases hk : k = t
      · rw [if_pos hk]; simp only [get_cons]; rw [if_neg (by omega)]
      · rw [if_neg hk]; simp only [get_cons]; rw [ih]
  simp only [put, get_cons]
  by_cases h : t = u
  · simp [h]
  · rw [if_neg h, if_neg h, hd l h]
theorem get_putT {α : Type} (t u : Nat) (v : α) (l : List (Nat × α)) : get (putT t v l) u = if t = u then some v else get l u := get_cons
theorem get_keepL {α : Type} {t : Nat} {v : α} : ∀ {l m : List (Nat × α)}, get (keepL l m) t = some v → get m t = some v
  | [], m, h => by simp [keepL, get_nil] at h
  | (k, w) :: l, m, h => by
    simp only [keepL] at h
    split at h
    · rename_i u hu
      simp only [get_cons] at h
      split at h
      · rename_i e; subst e; rw [hu]; exact h
      · exact get_keepL h
    · exact get_keepL h
theorem get_del {α : Type} (t u : Nat) : ∀ (l : List (Nat × α)), get (del t l) u = if t = u then none else get l u
  | [] => by simp [del_nil, get_nil]
  | (k, w) :: l => by
    simp only [del_cons]
    by_cases hk : k = t
    · rw [if_pos hk, get_del t u l]; simp only [get_cons]
      by_cases h : t = u
      · simp [h]
      · rw [if_neg h, if_neg h, if_neg (by omega)]
    · rw [if_neg hk]; simp only [get_cons]
      by_cases h : t = u
      · rw [if_pos h, if_neg (by omega), get_del t u l, if_pos h]
      · rw [if_neg h, get_del t u l, if_neg h]
theorem get_dels {α : Type} (u : Nat) : ∀ (bs : List Nat) (l : List (Nat × α)) {x : α}, get (dels bs l) u = some x → get l u = some x ∧ u ∉ bs
  | [], l, x, h => ⟨h, by simp⟩
  | b :: bs, l, x, h => by
    obtain ⟨h1, h2⟩ := get_dels u bs _ h
    rw [get_del] at h1
    split at h1
    · cases h1
    · exact ⟨h1, by simp; exact ⟨by omega, h2⟩⟩
theorem get_append {α : Type} (u : Nat) : ∀ (l m : List (Nat × α)) {x : α}, get (l ++ m) u = some x → get l u = some x ∨ (get l u = none ∧ get m u = some x)
  | [], m, x, h => .inr ⟨rfl, h⟩
  | (k, v) :: l, m, x, h => by
    simp only [List.cons_append, get_cons] at h ⊢
    split at h
    · rename_i hk; left; rw [if_pos hk]; exact h
    · rename_i hk; rw [if_neg hk]; exact get_append u l m h

/-- Temporaries, but for those of X. -/
def TRel (I : Itp) (g : G) (X : Nat → Prop) (ts : Tmps) (a : Array Value) : Prop :=
  ∀ t v, get ts t = some v → ¬ X t → ∃ x, a[t]? = some x ∧ Rel I g v x

theorem TRel.le {I : Itp} {g g' : G} {X : Nat → Prop} (h : g.Le g') (hw : g.wf) {ts : Tmps} {a : Array Value} (ht : TRel I g X ts a) : TRel I g' X ts a :=
  fun t v h1 h2 => let ⟨x, h3, h4⟩ := ht t v h1 h2; ⟨x, h3, h4.le h hw⟩

/-! ### Blocks -/

/-- No cell of a block of n cells may not be written. -/
def Free (fr : Nat × Nat) (n : Nat) : Prop := fr = (0, 0) ∨ n ≤ fr.1

def BRel (I : Itp) (P : Program) (g : G) (b : Nat) (H : Nat → Option Obj) : Blk → Prop
  | .cells l wr => ∃ (p : PB) (c : Array Value) (T : TypeId) (fr : Nat × Nat), g.φ b = some p ∧ H p.blk = some (.cells c T fr) ∧
      (∀ i v, l[i]? = some v → ∃ x, c[p.base + i]? = some x ∧ Rel I g v x) ∧ (wr = true → fr = (0, 0) ∧ p.base + p.tot ≤ c.size)
  | .rows ks t len wr nl => ∃ (f : Int → Nat → Int) (n : Int), t.den I g.env = some (.t f) ∧ len.den I g.env = some (.i n) ∧ 0 ≤ n ∧
      ((∃ (p : PB) (c : Array Value) (T : TypeId) (fr : Nat × Nat), g.φ b = some p ∧ H p.blk = some (.cells c T fr) ∧
        (∀ (r j : Nat) (k : CK), r < n.toNat → ks[j]? = some k → c[p.base + r * ks.length + j]? = some (k.val (f r j))) ∧
        (wr = true → Free fr c.size ∧ p.base + p.tot ≤ c.size ∧ n.toNat * ks.length ≤ p.tot)) ∨
       (nl = true ∧ n = 0 ∧ g.φ b = none))
  | .big l ks t n m wr => ∃ (p : PB) (c : Array Value) (T : TypeId) (fr : Nat × Nat) (f : Int → Nat → Int), g.φ b = some p ∧ H p.blk = some (.cells c T fr) ∧ t.den I g.env = some (.t f) ∧
      (∀ i v, l[i]? = some v → ∃ x, c[p.base + i]? = some x ∧ Rel I g v x) ∧
      (∀ (r j : Nat) (k : CK), r < n → ks[j]? = some k → c[p.base + (l.length + (r * ks.length + j))]? = some (k.val (f r j))) ∧
      (∀ i v, m[i]? = some v → ∃ x, c[p.base + (l.length + n * ks.length + i)]? = some x ∧ Rel I g v x) ∧ (wr = true → fr = (0, 0))
  | .loop st pend fn ix nt ts d => ∃ (p q : PB) (r : Loop) (rf : RF), g.φ b = some p ∧ g.φ d = some q ∧ H p.blk = some (.loop r) ∧ rfAt P fn ix = some rf ∧
      r.state = st ∧ r.pending = pend.map Jump.code ∧ r.params.toList = rf.params ∧ r.assign = rf.assign ∧ r.body = rf.body ∧ r.defers = q.blk ∧
      r.tmps.size = nt ∧ TRel I g (fun _ => False) ts r.tmps
  | .dfr sh => ∃ p : PB, g.φ b = some p ∧ H p.blk = some (.deferred (if sh then some [] else none))
  | .mp l m => ∃ (p : PB) (es : Array MapEntry) (c : Nat), g.φ b = some p ∧ H p.blk = some (.map es c) ∧ Rels I g l (es.toList.map (·.key)) ∧ Rels I g m (es.toList.map (·.val))

theorem BRel.le {I : Itp} {P : Program} {g g' : G} {b : Nat} {H : Nat → Option Obj} (h : g.Le g') (hw : g.wf) (hb : b < g.nb) : ∀ {x : Blk}, BRel I P g b H x → BRel I P g' b H x
  | .cells l wr, hx => by
    obtain ⟨p, c, T, fr, h1, h2, h3, h4⟩ := hx
    exact ⟨p, c, T, fr, h.some hw h1, h2, fun i v hv => let ⟨x, a, b⟩ := h3 i v hv; ⟨x, a, b.le h hw⟩, h4⟩
  | .rows ks t len wr nl, hx => by
    obtain ⟨f, n, h1, h2, h3, h4⟩ := hx
    refine ⟨f, n, E.den_le h h1, E.den_le h h2, h3, ?_⟩
    rcases h4 with ⟨p, c, T, fr, h5, h6⟩ | ⟨h5, h6, h7⟩
    · exact .inl ⟨p, c, T, fr, h.some hw h5, h6⟩
    · exact .inr ⟨h5, h6, by rw [h.φ b hb]; exact h7⟩
  | .big l ks t n m wr, hx => by
    obtain ⟨p, c, T, fr, f, h1, h2, h3, h4, h5, h6, h7⟩ := hx
    exact ⟨p, c, T, fr, f, h.some hw h1, h2, E.den_le h h3, fun i v hv => let ⟨x, a, b⟩ := h4 i v hv; ⟨x, a, b.le h hw⟩, h5, fun i v hv => let ⟨x, a, b⟩ := h6 i v hv; ⟨x, a, b.le h hw⟩, h7⟩
  | .loop st pend fn ix nt ts d, hx => by
    obtain ⟨p, q, r, rf, h1, h2, h3, h4, h5, h6, h8, h9, h10, h11, h12, h13⟩ := hx
    exact ⟨p, q, r, rf, h.some hw h1, h.some hw h2, h3, h4, h5, h6, h8, h9, h10, h11, h12, h13.le h hw⟩
  | .dfr sh, hx => by
    obtain ⟨p, h1, h2⟩ := hx
    exact ⟨p, h.some hw h1, h2⟩
  | .mp l m, hx => by
    obtain ⟨p, es, c, h1, h2, h3, h4⟩ := hx
    exact ⟨p, es, c, h.some hw h1, h2, h3.le h hw, h4.le h hw⟩

/-- A block's word looks at the heap at its own place alone. -/
theorem BRel.heap {I : Itp} {P : Program} {g : G} {b : Nat} {H H' : Nat → Option Obj} (hH : ∀ p, g.φ b = some p → H' p.blk = H p.blk) : ∀ {x : Blk}, BRel I P g b H x → BRel I P g b H' x
  | .cells l wr, ⟨p, c, T, fr, h1, h2, h3⟩ => ⟨p, c, T, fr, h1, by rw [hH p h1]; exact h2, h3⟩
  | .rows ks t len wr nl, ⟨f, n, h1, h2, h3, h4⟩ => by
    refine ⟨f, n, h1, h2, h3, ?_⟩
    rcases h4 with ⟨p, c, T, fr, h5, h6, h7⟩ | h4
    · exact .inl ⟨p, c, T, fr, h5, by rw [hH p h5]; exact h6, h7⟩
    · exact .inr h4
  | .big l ks t n m wr, ⟨p, c, T, fr, f, h1, h2, h3⟩ => ⟨p, c, T, fr, f, h1, by rw [hH p h1]; exact h2, h3⟩
  | .loop st pend fn ix nt ts d, ⟨p, q, r, rf, h1, h2, h3, h4⟩ => ⟨p, q, r, rf, h1, h2, by rw [hH p h1]; exact h3, h4⟩
  | .dfr sh, ⟨p, h1, h2⟩ => ⟨p, h1, by rw [hH p h1]; exact h2⟩
  | .mp l m, ⟨p, es, c, h1, h2, h3⟩ => ⟨p, es, c, h1, by rw [hH p h1]; exact h2, h3⟩

/-- Where a call began, and which blocks it may write. -/
structure Amb where
  w0 : World
  X : Nat → Prop

/-- What package-level variables hold, holds where the call began, and the call may not write it. -/
def GOk (gl : List Glob) (A : Amb) : Prop := ∀ x ∈ gl, x.g < A.w0.heap.size ∧ ¬ A.X x.g ∧ ∃ (c : Array Value) (T : TypeId) (fr : Nat × Nat), A.w0.heap[x.g]? = some (.cells c T fr) ∧
  (∀ (k : Nat) (n : Int), x.l[k]? = some n → c[k]? = some (x.k.val n)) ∧ (x.ifc = true → ∃ v, c[0]? = some v ∧ (v = .nilIface ∨ ∃ t p, v = .iface t p)) ∧
  (x.full = true → c = (x.l.map x.k.val).toArray) ∧ (x.ity = true → ∃ m, c[0]? = some (.int .i64 m))

structure MRel (A : Amb) (I : Itp) (P : Program) (g : G) (M : Mem) (w : World) : Prop where
  wf : g.wf
  blk : ∀ b x, get M b = some x → BRel I P g b (fun i => w.heap[i]?) x
  lt : ∀ b x, get M b = some x → b < g.nb
  /-- What may be written, nothing else speaks of. -/
  inj : ∀ b c x y p q, get M b = some x → get M c = some y → x.wr = true → g.φ b = some p → g.φ c = some q → p.blk = q.blk → b = c
  bnd : ∀ b p, g.φ b = some p → p.blk < w.heap.size
  own : ∀ b x p, get M b = some x → x.wr = true → g.φ b = some p → A.X p.blk ∨ A.w0.heap.size ≤ p.blk
  size : A.w0.heap.size ≤ w.heap.size
  keep : ∀ i, i < A.w0.heap.size → ¬ A.X i → w.heap[i]? = A.w0.heap[i]?
  same : w.os = A.w0.os ∧ w.output = A.w0.output

/-- Deferred calls. -/
def DVRel (I : Itp) (g : G) : DV → Deferred → Prop
  | .blk b, x => ∃ p, g.φ b = some p ∧ x = { target := .collected p.blk, args := #[] }
  | .fn f m cap, x => ∃ ms cs : Array Value, x = { target := .fn (.func f) cs, args := ms } ∧ Rels I g m ms.toList ∧ Rels I g cap cs.toList
theorem DVRel.le {I : Itp} {g g' : G} (h : g.Le g') (hw : g.wf) : ∀ {d : DV} {x : Deferred}, DVRel I g d x → DVRel I g' d x
  | .blk _, _, ⟨p, h1, h2⟩ => ⟨p, h.some hw h1, h2⟩
  | .fn _ _ _, _, ⟨ms, cs, h1, h2, h3⟩ => ⟨ms, cs, h1, h2.le h hw, h3.le h hw⟩
def DRel (I : Itp) (g : G) : List DV → List Deferred → Prop
  | [], [] => True
  | d :: l, x :: xs => DVRel I g d x ∧ DRel I g l xs
  | _, _ => False

theorem DRel.le {I : Itp} {g g' : G} (h : g.Le g') (hw : g.wf) : ∀ {l : List DV} {xs : List Deferred}, DRel I g l xs → DRel I g' l xs
  | [], [], _ => trivial
  | _ :: _, _ :: _, ⟨h1, h3⟩ => ⟨h1.le h hw, DRel.le h hw h3⟩
  | [], _ :: _, h => by simp [DRel] at h
  | _ :: _, [], h => by simp [DRel] at h

structure SRel (A : Amb) (I : Itp) (P : Program) (X : Nat → Prop) (g : G) (s : St) (a : Act) (w : World) : Prop where
  m : MRel A I P g s.mem w
  t : TRel I g X s.tmps a.tmps
  nt : a.tmps.size = s.nt
  d : DRel I g s.defers a.defers
  nv : g.env.length = s.nv
  nb : g.nb = s.nb

end Go.Sx
