/-
  What a symbolic state says of a machine's: the relation, and how it abides new variables and new blocks. Conditions: none.
-/
import Derived.Test.YtafipmoglaepcaaSxExec
import Derived.Laws.World
import Derived.Laws.Cells
namespace Go.Sx
open Go

structure PB where
  blk : Nat
  base : Nat
  tot : Nat

structure G where
  env : List D
  φ : Nat → Option PB
  nb : Nat

def G.wf (g : G) : Prop := ∀ b, g.nb ≤ b → g.φ b = none

structure G.Le (g g' : G) : Prop where
  env : ∃ xs, g'.env = g.env ++ xs
  nb : g.nb ≤ g'.nb
  φ : ∀ b, b < g.nb → g'.φ b = g.φ b

theorem G.Le.refl (g : G) : g.Le g := ⟨⟨[], by simp⟩, Nat.le_refl _, fun _ _ => rfl⟩
theorem G.Le.trans {g h k : G} (a : g.Le h) (b : h.Le k) : g.Le k := by
  obtain ⟨⟨xs, hx⟩, h1, h2⟩ := a
  obtain ⟨⟨ys, hy⟩, h3, h4⟩ := b
  exact ⟨⟨xs ++ ys, by rw [hy, hx, List.append_assoc]⟩, Nat.le_trans h1 h3, fun b hb => by rw [h4 b (Nat.lt_of_lt_of_le hb h1), h2 b hb]⟩
theorem G.wf.lt {g : G} (h : g.wf) {b : Nat} {p : PB} (hb : g.φ b = some p) : b < g.nb := by
  rcases Nat.lt_or_ge b g.nb with h1 | h1
  · exact h1
  · rw [h b h1] at hb; cases hb
theorem G.Le.some {g g' : G} (h : g.Le g') (hw : g.wf) {b : Nat} {p : PB} (hb : g.φ b = some p) : g'.φ b = some p := by
  rw [h.φ b (hw.lt hb)]; exact hb

theorem E.den_more {I : Itp} {env xs : List D} : ∀ {e : E} {d : D}, e.den I env = some d → e.den I (env ++ xs) = some d := by
  intro e
  induction e with
  | lit n => intro d h; exact h
  | zt => intro d h; exact h
  | var i =>
    intro d h
    simp only [E.den] at h ⊢
    obtain ⟨hl, _⟩ := List.getElem?_eq_some_iff.1 h
    rw [List.getElem?_append_left hl]; exact h
  | bin o a b iha ihb =>
    intro d h
    simp only [E.den] at h ⊢
    split at h
    · rename_i x y h1 h2; rw [iha h1, ihb h2]; exact h
    · cases h
  | wrap k a ih =>
    intro d h
    simp only [E.den] at h ⊢
    split at h
    · rename_i x h1; rw [ih h1]; exact h
    · cases h
  | sel t r c iht ihr =>
    intro d h
    simp only [E.den] at h ⊢
    split at h
    · rename_i x y h1 h2; rw [iht h1, ihr h2]; exact h
    · cases h
  | upd t r c v iht ihr ihv =>
    intro d h
    simp only [E.den] at h ⊢
    split at h
    · rename_i x y z h1 h2 h3; rw [iht h1, ihr h2, ihv h3]; exact h
    · cases h
  | cat t n u iht ihn ihu =>
    intro d h
    simp only [E.den] at h ⊢
    split at h
    · rename_i x y z h1 h2 h3; rw [iht h1, ihn h2, ihu h3]; exact h
    · cases h
  | fn j a b c d iha ihb ihc ihd =>
    intro x h
    simp only [E.den] at h ⊢
    split at h
    · rename_i x1 x2 x3 x4 h1 h2 h3 h4; rw [iha h1, ihb h2, ihc h3, ihd h4]; exact h
    · cases h

theorem E.den_le {I : Itp} {g g' : G} (h : g.Le g') {e : E} {d : D} (he : e.den I g.env = some d) : e.den I g'.env = some d := by
  obtain ⟨⟨xs, hx⟩, _, _⟩ := h
  rw [hx]; exact E.den_more he

/-! ### Values -/

mutual
def Rel (I : Itp) (g : G) : AV → Value → Prop
  | .any, _ => True
  | .undef, x => x = Go.undef
  | .bool e, x => ∃ n : Int, e.den I g.env = some (.i n) ∧ x = .bool (decide (n ≠ 0))
  | .int k e, x => ∃ n : Int, e.den I g.env = some (.i n) ∧ x = .int k n
  | .nilptr, x => x = .pointer none
  | .ptr b r s k, x => ∃ (n : Int) (p : PB), r.den I g.env = some (.i n) ∧ 0 ≤ n ∧ g.φ b = some p ∧ x = .pointer (some ⟨p.blk, p.base + n.toNat * s + k, none⟩)
  | .nilslice, x => x = .slice none 0 0
  | .slice b lo len s nl, x => ∃ l n : Int, lo.den I g.env = some (.i l) ∧ len.den I g.env = some (.i n) ∧ 0 ≤ l ∧ 0 ≤ n ∧
      ((∃ (p : PB) (cap : Nat), g.φ b = some p ∧ x = .slice (some ⟨p.blk, p.base + l.toNat * s, none⟩) n.toNat cap ∧ n.toNat ≤ cap ∧ l.toNat + cap ≤ p.tot) ∨
       (nl = true ∧ n = 0 ∧ x = .slice none 0 0))
  | .func f cap, x => ∃ cs : Array Value, x = .func (.func f) #[] cs ∧ Rels I g cap cs.toList
  | .yld b, x => ∃ p : PB, g.φ b = some p ∧ x = .func (.yield p.blk) #[] #[]
  | .nilfunc, x => x = .nilFunc
  | .agg l, x => ∃ cs : Array Value, x = .agg cs ∧ Rels I g l cs.toList
  | .tup l, x => ∃ cs : Array Value, x = .tuple cs ∧ Rels I g l cs.toList
def Rels (I : Itp) (g : G) : List AV → List Value → Prop
  | [], [] => True
  | a :: l, x :: xs => Rel I g a x ∧ Rels I g l xs
  | _, _ => False
end

mutual
theorem Rel.le {I : Itp} {g g' : G} (h : g.Le g') (hw : g.wf) : ∀ {v : AV} {x : Value}, Rel I g v x → Rel I g' v x := by
  intro v x hv
  match v with
  | .any => trivial
  | .undef => simpa [Rel] using hv
  | .bool e => simp only [Rel] at hv ⊢; obtain ⟨n, h1, h2⟩ := hv; exact ⟨n, E.den_le h h1, h2⟩
  | .int k e => simp only [Rel] at hv ⊢; obtain ⟨n, h1, h2⟩ := hv; exact ⟨n, E.den_le h h1, h2⟩
  | .nilptr => simpa [Rel] using hv
  | .ptr b r s k =>
    simp only [Rel] at hv ⊢
    obtain ⟨n, p, h1, h2, h3, h4⟩ := hv
    exact ⟨n, p, E.den_le h h1, h2, h.some hw h3, h4⟩
  | .nilslice => simpa [Rel] using hv
  | .slice b lo len s nl =>
    simp only [Rel] at hv ⊢
    obtain ⟨l, n, h1, h2, h3, h4, h5⟩ := hv
    refine ⟨l, n, E.den_le h h1, E.den_le h h2, h3, h4, ?_⟩
    rcases h5 with ⟨p, cap, h5, h6⟩ | h5
    · exact .inl ⟨p, cap, h.some hw h5, h6⟩
    · exact .inr h5
  | .func f cap => simp only [Rel] at hv ⊢; obtain ⟨cs, h1, h2⟩ := hv; exact ⟨cs, h1, Rels.le h hw h2⟩
  | .yld b => simp only [Rel] at hv ⊢; obtain ⟨p, h1, h2⟩ := hv; exact ⟨p, h.some hw h1, h2⟩
  | .nilfunc => simpa [Rel] using hv
  | .agg l => simp only [Rel] at hv ⊢; obtain ⟨cs, h1, h2⟩ := hv; exact ⟨cs, h1, Rels.le h hw h2⟩
  | .tup l => simp only [Rel] at hv ⊢; obtain ⟨cs, h1, h2⟩ := hv; exact ⟨cs, h1, Rels.le h hw h2⟩
theorem Rels.le {I : Itp} {g g' : G} (h : g.Le g') (hw : g.wf) : ∀ {l : List AV} {xs : List Value}, Rels I g l xs → Rels I g' l xs := by
  intro l xs hl
  match l, xs with
  | [], [] => trivial
  | a :: l, x :: xs => simp only [Rels] at hl ⊢; exact ⟨Rel.le h hw hl.1, Rels.le h hw hl.2⟩
  | [], _ :: _ => simp [Rels] at hl
  | _ :: _, [] => simp [Rels] at hl
end

theorem Rels.length {I : Itp} {g : G} : ∀ {l : List AV} {xs : List Value}, Rels I g l xs → l.length = xs.length
  | [], [], _ => rfl
  | _ :: l, _ :: xs, h => by simp only [Rels] at h; simp [Rels.length h.2]
  | [], _ :: _, h => by simp [Rels] at h
  | _ :: _, [], h => by simp [Rels] at h

theorem Rels.get {I : Itp} {g : G} : ∀ {l : List AV} {xs : List Value}, Rels I g l xs → ∀ {i : Nat} {v : AV}, l[i]? = some v → ∃ x, xs[i]? = some x ∧ Rel I g v x
  | [], [], _, i, v, h => by simp at h
  | a :: l, x :: xs, hr, i, v, h => by
    simp only [Rels] at hr
    cases i with
    | zero => simp at h; subst h; exact ⟨x, rfl, hr.1⟩
    | succ i => simp at h; obtain ⟨y, h1, h2⟩ := Rels.get hr.2 h; exact ⟨y, by simpa using h1, h2⟩
  | [], _ :: _, h, _, _, _ => by simp [Rels] at h
  | _ :: _, [], h, _, _, _ => by simp [Rels] at h

theorem Rels.mk {I : Itp} {g : G} : ∀ {l : List AV} {xs : List Value}, l.length = xs.length → (∀ (i : Nat) (v : AV) (x : Value), l[i]? = some v → xs[i]? = some x → Rel I g v x) → Rels I g l xs
  | [], [], _, _ => trivial
  | a :: l, x :: xs, hl, h => by
    refine ⟨h 0 a x rfl rfl, Rels.mk (by simpa using hl) fun i v y h1 h2 => h (i + 1) v y (by simpa using h1) (by simpa using h2)⟩
  | [], _ :: _, h, _ => by simp at h
  | _ :: _, [], h, _ => by simp at h

theorem Rels.append {I : Itp} {g : G} : ∀ {l m : List AV} {xs ys : List Value}, Rels I g l xs → Rels I g m ys → Rels I g (l ++ m) (xs ++ ys)
  | [], _, [], _, _, h => h
  | a :: l, _, x :: xs, _, h, h' => ⟨h.1, Rels.append h.2 h'⟩
  | [], _, _ :: _, _, h, _ => by simp [Rels] at h
  | _ :: _, _, [], _, h, _ => by simp [Rels] at h

theorem Rels.drop {I : Itp} {g : G} : ∀ (k : Nat) {l : List AV} {xs : List Value}, Rels I g l xs → Rels I g (l.drop k) (xs.drop k)
  | 0, _, _, h => h
  | k + 1, [], [], _ => trivial
  | k + 1, a :: l, x :: xs, h => by simpa using Rels.drop k h.2
  | _ + 1, [], _ :: _, h => by simp [Rels] at h
  | _ + 1, _ :: _, [], h => by simp [Rels] at h
theorem Rels.take {I : Itp} {g : G} : ∀ (k : Nat) {l : List AV} {xs : List Value}, Rels I g l xs → Rels I g (l.take k) (xs.take k)
  | 0, _, _, _ => by simp [Rels]
  | k + 1, [], [], _ => trivial
  | k + 1, a :: l, x :: xs, h => by simp only [List.take_succ_cons]; exact ⟨h.1, Rels.take k h.2⟩
  | _ + 1, [], _ :: _, h => by simp [Rels] at h
  | _ + 1, _ :: _, [], h => by simp [Rels] at h

/-! ### Temporaries -/

theorem get_put {α : Type} (t u : Nat) (v : α) (l : List (Nat × α)) : get (put t v l) u = if t = u then some v else get l u := by
  have hd : ∀ l : List (Nat × α), t ≠ u → get (del t l) u = get l u := by
    intro l h
    induction l with
    | nil => rfl
    | cons x l ih =>
      obtain ⟨k, w⟩ := x
      simp only [del]
      by_cases hk : k = t
      · rw [if_pos hk, ih]; simp only [get]; rw [if_neg (by omega)]
      · rw [if_neg hk]; simp only [get]; rw [ih]
  simp only [put, get]
  by_cases h : t = u
  · simp [h]
  · rw [if_neg h, if_neg h, hd l h]
theorem get_del {α : Type} (t u : Nat) : ∀ (l : List (Nat × α)), get (del t l) u = if t = u then none else get l u
  | [] => by simp [del, get]
  | (k, w) :: l => by
    simp only [del]
    by_cases hk : k = t
    · rw [if_pos hk, get_del t u l]; simp only [get]
      by_cases h : t = u
      · simp [h]
      · rw [if_neg h, if_neg h, if_neg (by omega)]
    · rw [if_neg hk]; simp only [get]
      by_cases h : t = u
      · rw [if_pos h, if_neg (by omega), get_del t u l, if_pos h]
      · rw [if_neg h, get_del t u l, if_neg h]
theorem get_dels {α : Type} (u : Nat) : ∀ (bs : List Nat) (l : List (Nat × α)) {x : α}, get (dels bs l) u = some x → get l u = some x ∧ u ∉ bs
  | [], l, x, h => ⟨h, by simp⟩
  | b :: bs, l, x, h => by
    obtain ⟨h1, h2⟩ := get_dels u bs _ h
    rw [get_del] at h1
    split at h1
    · cases h1
    · exact ⟨h1, by simp; exact ⟨by omega, h2⟩⟩
theorem get_append {α : Type} (u : Nat) : ∀ (l m : List (Nat × α)) {x : α}, get (l ++ m) u = some x → get l u = some x ∨ (get l u = none ∧ get m u = some x)
  | [], m, x, h => .inr ⟨rfl, h⟩
  | (k, v) :: l, m, x, h => by
    simp only [List.cons_append, get] at h ⊢
    split at h
    · rename_i hk; left; rw [if_pos hk]; exact h
    · rename_i hk; rw [if_neg hk]; exact get_append u l m h

/-- Temporaries, but for those of X. -/
def TRel (I : Itp) (g : G) (X : Nat → Prop) (ts : Tmps) (a : Array Value) : Prop :=
  ∀ t v, get ts t = some v → ¬ X t → ∃ x, a[t]? = some x ∧ Rel I g v x

theorem TRel.le {I : Itp} {g g' : G} {X : Nat → Prop} (h : g.Le g') (hw : g.wf) {ts : Tmps} {a : Array Value} (ht : TRel I g X ts a) : TRel I g' X ts a :=
  fun t v h1 h2 => let ⟨x, h3, h4⟩ := ht t v h1 h2; ⟨x, h3, h4.le h hw⟩

/-! ### Blocks -/

def BRel (I : Itp) (P : Program) (g : G) (b : Nat) (H : Nat → Option Obj) : Blk → Prop
  | .cells l wr => ∃ (p : PB) (c : Array Value) (T : TypeId) (fr : Nat × Nat), g.φ b = some p ∧ H p.blk = some (.cells c T fr) ∧
      (∀ i v, l[i]? = some v → ∃ x, c[p.base + i]? = some x ∧ Rel I g v x) ∧ (wr = true → fr = (0, 0))
  | .rows ks t len wr nl => ∃ (f : Int → Nat → Int) (n : Int), t.den I g.env = some (.t f) ∧ len.den I g.env = some (.i n) ∧ 0 ≤ n ∧
      ((∃ (p : PB) (c : Array Value) (T : TypeId) (fr : Nat × Nat), g.φ b = some p ∧ H p.blk = some (.cells c T fr) ∧
        (∀ (r j : Nat) (k : CK), r < n.toNat → ks[j]? = some k → c[p.base + r * ks.length + j]? = some (k.val (f r j))) ∧
        (wr = true → fr = (0, 0) ∧ p.base + p.tot * ks.length ≤ c.size ∧ n.toNat ≤ p.tot)) ∨
       (nl = true ∧ n = 0 ∧ g.φ b = none))
  | .loop st pend fn ix nt ts d => ∃ (p q : PB) (r : Loop) (rf : RF), g.φ b = some p ∧ g.φ d = some q ∧ H p.blk = some (.loop r) ∧ rfAt P fn ix = some rf ∧
      r.state = st ∧ r.pending = pend.map Jump.code ∧ r.params.toList = rf.params ∧ r.assign = rf.assign ∧ r.body = rf.body ∧ r.defers = q.blk ∧
      r.tmps.size = nt ∧ TRel I g (fun _ => False) ts r.tmps
  | .dfr sh => ∃ p : PB, g.φ b = some p ∧ H p.blk = some (.deferred (if sh then some [] else none))

theorem BRel.le {I : Itp} {P : Program} {g g' : G} {b : Nat} {H : Nat → Option Obj} (h : g.Le g') (hw : g.wf) (hb : b < g.nb) : ∀ {x : Blk}, BRel I P g b H x → BRel I P g' b H x
  | .cells l wr, hx => by
    obtain ⟨p, c, T, fr, h1, h2, h3, h4⟩ := hx
    exact ⟨p, c, T, fr, h.some hw h1, h2, fun i v hv => let ⟨x, a, b⟩ := h3 i v hv; ⟨x, a, b.le h hw⟩, h4⟩
  | .rows ks t len wr nl, hx => by
    obtain ⟨f, n, h1, h2, h3, h4⟩ := hx
    refine ⟨f, n, E.den_le h h1, E.den_le h h2, h3, ?_⟩
    rcases h4 with ⟨p, c, T, fr, h5, h6⟩ | ⟨h5, h6, h7⟩
    · exact .inl ⟨p, c, T, fr, h.some hw h5, h6⟩
    · exact .inr ⟨h5, h6, by rw [h.φ b hb]; exact h7⟩
  | .loop st pend fn ix nt ts d, hx => by
    obtain ⟨p, q, r, rf, h1, h2, h3, h4, h5, h6, h8, h9, h10, h11, h12, h13⟩ := hx
    exact ⟨p, q, r, rf, h.some hw h1, h.some hw h2, h3, h4, h5, h6, h8, h9, h10, h11, h12, h13.le h hw⟩
  | .dfr sh, hx => by
    obtain ⟨p, h1, h2⟩ := hx
    exact ⟨p, h.some hw h1, h2⟩

/-- A block's word looks at the heap at its own place alone. -/
theorem BRel.heap {I : Itp} {P : Program} {g : G} {b : Nat} {H H' : Nat → Option Obj} (hH : ∀ p, g.φ b = some p → H' p.blk = H p.blk) : ∀ {x : Blk}, BRel I P g b H x → BRel I P g b H' x
  | .cells l wr, ⟨p, c, T, fr, h1, h2, h3⟩ => ⟨p, c, T, fr, h1, by rw [hH p h1]; exact h2, h3⟩
  | .rows ks t len wr nl, ⟨f, n, h1, h2, h3, h4⟩ => by
    refine ⟨f, n, h1, h2, h3, ?_⟩
    rcases h4 with ⟨p, c, T, fr, h5, h6, h7⟩ | h4
    · exact .inl ⟨p, c, T, fr, h5, by rw [hH p h5]; exact h6, h7⟩
    · exact .inr h4
  | .loop st pend fn ix nt ts d, ⟨p, q, r, rf, h1, h2, h3, h4⟩ => ⟨p, q, r, rf, h1, h2, by rw [hH p h1]; exact h3, h4⟩
  | .dfr sh, ⟨p, h1, h2⟩ => ⟨p, h1, by rw [hH p h1]; exact h2⟩

/-- Where a call began, and which blocks it may write. -/
structure Amb where
  w0 : World
  X : Nat → Prop
  /-- What may be written at the frame's end. -/
  base : Nat → Prop
  hb : ∀ i, X i ∨ w0.heap.size ≤ i → base i

structure MRel (A : Amb) (I : Itp) (P : Program) (g : G) (M : Mem) (w : World) : Prop where
  wf : g.wf
  blk : ∀ b x, get M b = some x → BRel I P g b (fun i => w.heap[i]?) x
  lt : ∀ b x, get M b = some x → b < g.nb
  inj : ∀ b c x y p q, get M b = some x → get M c = some y → g.φ b = some p → g.φ c = some q → p.blk = q.blk → b = c
  bnd : ∀ b p, g.φ b = some p → p.blk < w.heap.size
  own : ∀ b x p, get M b = some x → x.wr = true → g.φ b = some p → A.X p.blk ∨ A.w0.heap.size ≤ p.blk
  size : A.w0.heap.size ≤ w.heap.size
  keep : ∀ i, i < A.w0.heap.size → ¬ A.X i → w.heap[i]? = A.w0.heap[i]?
  same : w.os = A.w0.os ∧ w.output = A.w0.output

/-- A place without deferred calls, which is left alone till the frame's end. -/
def Amb.blank (A : Amb) (i : Nat) : Prop := i < A.w0.heap.size ∧ ¬ A.X i ∧ A.w0.heap[i]? = some (.deferred (some [])) ∧ A.base i

/-- The deferred calls that are spoken of, and blank ones. -/
inductive DRel (B : Nat → Prop) (g : G) : List Nat → List Deferred → Prop
  | nil : DRel B g [] []
  | blk {b : Nat} {p : PB} {l : List Nat} {xs : List Deferred} : g.φ b = some p → DRel B g l xs → DRel B g (b :: l) ({ target := .collected p.blk, args := #[] } :: xs)
  | blank {i : Nat} {l : List Nat} {xs : List Deferred} : B i → (∀ x ∈ xs, x ≠ { target := .collected i, args := #[] }) → DRel B g l xs → DRel B g l ({ target := .collected i, args := #[] } :: xs)

theorem DRel.le {B : Nat → Prop} {g g' : G} (h : g.Le g') (hw : g.wf) {l : List Nat} {xs : List Deferred} (hd : DRel B g l xs) : DRel B g' l xs := by
  induction hd with
  | nil => exact .nil
  | blk h1 _ ih => exact .blk (h.some hw h1) ih
  | blank h1 h2 _ ih => exact .blank h1 h2 ih
theorem DRel.mono {B B' : Nat → Prop} {g : G} (h : ∀ i, B i → B' i) {l : List Nat} {xs : List Deferred} (hd : DRel B g l xs) : DRel B' g l xs := by
  induction hd with
  | nil => exact .nil
  | blk h1 _ ih => exact .blk h1 ih
  | blank h1 h2 _ ih => exact .blank (h _ h1) h2 ih
theorem DRel.targets {B : Nat → Prop} {g : G} {l : List Nat} {xs : List Deferred} (hd : DRel B g l xs) : ∀ x ∈ xs, (∃ c ∈ l, ∃ q, g.φ c = some q ∧ x = { target := .collected q.blk, args := #[] }) ∨ ∃ i, B i ∧ x = { target := .collected i, args := #[] } := by
  induction hd with
  | nil => intro x hx; cases hx
  | blk h1 _ ih =>
    intro x hx
    rcases List.mem_cons.1 hx with rfl | hx
    · exact .inl ⟨_, List.mem_cons_self, _, h1, rfl⟩
    · rcases ih x hx with ⟨c, h2, h3⟩ | h2
      · exact .inl ⟨c, List.mem_cons_of_mem _ h2, h3⟩
      · exact .inr h2
  | blank h1 _ _ ih =>
    intro x hx
    rcases List.mem_cons.1 hx with rfl | hx
    · exact .inr ⟨_, h1, rfl⟩
    · exact ih x hx
/-- The first one is spoken of no more. -/
theorem DRel.shed {B B' : Nat → Prop} {g : G} {b : Nat} {p : PB} {m l : List Nat} {xs : List Deferred} (hd : DRel B g m xs) (hm : m = b :: l) (hp : g.φ b = some p)
    (hl : ∀ c ∈ l, ∀ q, g.φ c = some q → q.blk ≠ p.blk) (hn : ¬ B p.blk) (hB : ∀ i, B i → B' i) (hB' : B' p.blk) : DRel B' g l xs := by
  induction hd with
  | nil => cases hm
  | blk h1 h2 _ =>
    cases hm
    rw [hp] at h1; cases h1
    refine .blank hB' (fun x hx e => ?_) (h2.mono hB)
    rcases h2.targets x hx with ⟨c, h3, q, h4, h5⟩ | ⟨i, h3, h4⟩
    · rw [e] at h5
      simp only [Deferred.mk.injEq, Target.collected.injEq, and_true] at h5
      exact hl c h3 q h4 h5.symm
    · rw [e] at h4
      simp only [Deferred.mk.injEq, Target.collected.injEq, and_true] at h4
      rw [← h4] at h3
      exact hn h3
  | blank h1 h2 _ ih => exact .blank (hB _ h1) h2 (ih hm)

/-- A call's part that may write less. -/
structure Amb.Le (A A' : Amb) : Prop where
  size : A.w0.heap.size ≤ A'.w0.heap.size
  keep : ∀ i, i < A.w0.heap.size → ¬ A.X i → ¬ A'.X i ∧ A'.w0.heap[i]? = A.w0.heap[i]?
  own : ∀ i, A'.X i ∨ A'.w0.heap.size ≤ i → A.X i ∨ A.w0.heap.size ≤ i
  same : A'.w0.os = A.w0.os ∧ A'.w0.output = A.w0.output
  base : A'.base = A.base
theorem Amb.Le.refl (A : Amb) : A.Le A := ⟨Nat.le_refl _, fun _ _ h => ⟨h, rfl⟩, fun _ h => h, ⟨rfl, rfl⟩, rfl⟩
theorem Amb.Le.trans {A A1 A2 : Amb} (h : A.Le A1) (h' : A1.Le A2) : A.Le A2 where
  size := Nat.le_trans h.size h'.size
  keep i hi hx := by
    obtain ⟨h1, h2⟩ := h.keep i hi hx
    obtain ⟨h3, h4⟩ := h'.keep i (Nat.lt_of_lt_of_le hi h.size) h1
    exact ⟨h3, by rw [h4, h2]⟩
  own i hi := h.own i (h'.own i hi)
  same := ⟨by rw [h'.same.1, h.same.1], by rw [h'.same.2, h.same.2]⟩
  base := by rw [h'.base, h.base]
theorem Amb.Le.blank {A A' : Amb} (h : A.Le A') {i : Nat} (hi : A.blank i) : A'.blank i := by
  obtain ⟨h1, h2, h3, h4⟩ := hi
  obtain ⟨h5, h6⟩ := h.keep i h1 h2
  exact ⟨Nat.lt_of_lt_of_le h1 h.size, h5, by rw [h6]; exact h3, by rw [h.base]; exact h4⟩
theorem MRel.less {A A' : Amb} {I : Itp} {P : Program} {g : G} {M : Mem} {w : World} (h : A.Le A') (hm : MRel A' I P g M w) : MRel A I P g M w where
  wf := hm.wf
  blk := hm.blk
  lt := hm.lt
  inj := hm.inj
  bnd := hm.bnd
  own b x p h1 h2 h3 := h.own _ (hm.own b x p h1 h2 h3)
  size := Nat.le_trans h.size hm.size
  keep i hi hx := by rw [hm.keep i (Nat.lt_of_lt_of_le hi h.size) (h.keep i hi hx).1, (h.keep i hi hx).2]
  same := ⟨by rw [hm.same.1, h.same.1], by rw [hm.same.2, h.same.2]⟩

structure SRel (A : Amb) (I : Itp) (P : Program) (X : Nat → Prop) (g : G) (s : St) (a : Act) (w : World) : Prop where
  m : MRel A I P g s.mem w
  t : TRel I g X s.tmps a.tmps
  nt : a.tmps.size = s.nt
  d : DRel A.blank g s.defers a.defers
  nv : g.env.length = s.nv
  nb : g.nb = s.nb

end Go.Sx
