/-
  A new block; a block written: the relation behind them. Conditions: none.
-/
import Derived.Test.YtdelhnefoccnbaaGreatDoorA2
import Derived.Laws.CopyRow
import Derived.Laws.AppendOwn
noncomputable section
namespace Go.Sx
open Go
variable {A : Amb} {I : Itp} {P : Program} {g : G} {X : Nat → Prop} {ts : Tmps} {a : Act} {M : Mem} {w : World}
theorem MRel.heap_eq {w' : World} (h : MRel A I P g M w) (e : w'.heap = w.heap) (ho : w'.os = w.os ∧ w'.output = w.output := by exact ⟨rfl, rfl⟩) : MRel A I P g M w' where
  wf := h.wf
  blk b x hx := by have := h.blk b x hx; rw [e]; exact this
  lt := h.lt
  inj := h.inj
  bnd := by rw [e]; exact h.bnd
  own := h.own
  size := by rw [e]; exact h.size
  keep := by rw [e]; exact h.keep
  same := ⟨ho.1.trans h.same.1, ho.2.trans h.same.2⟩
  fam := by rw [e]; exact h.fam
theorem MRel.sub {M' : Mem} (h : MRel A I P g M w) (hs : ∀ b x, get M' b = some x → get M b = some x) : MRel A I P g M' w where
  wf := h.wf
  blk b x hx := h.blk b x (hs b x hx)
  lt b x hx := h.lt b x (hs b x hx)
  inj b c x y p q hx hy := h.inj b c x y p q (hs b x hx) (hs c y hy)
  bnd := h.bnd
  own b x p hx := h.own b x p (hs b x hx)
  size := h.size
  keep := h.keep
  same := h.same
  fam b x o hx hr := let ⟨h1, h2, h3, h4⟩ := h.fam b x o (hs b x hx) hr; ⟨h1, h2, fun c y q hc => h3 c y q (hs c y hc), fun c y hc => h4 c y (hs c y hc)⟩
def G.lay (g : G) (p : Option PB) : G := { g with φ := fun b => if b = g.nb then p else g.φ b, nb := g.nb + 1 }
theorem G.lay_le (g : G) (p : Option PB) : g.Le (g.lay p) :=
  ⟨⟨[], by simp [G.lay]⟩, by simp [G.lay], fun b hb => by simp only [G.lay]; rw [if_neg (by omega)]⟩
theorem G.lay_wf {g : G} (h : g.wf) (p : Option PB) : (g.lay p).wf := fun b hb => by
  simp only [G.lay] at hb ⊢
  rw [if_neg (by omega)]; exact h b (by omega)
@[simp] theorem G.lay_new (g : G) (p : Option PB) : (g.lay p).φ g.nb = p := by simp [G.lay]
theorem heap_alloc_old {o : Obj} {i : Nat} (h : i < w.heap.size) : (w.alloc o).heap[i]? = w.heap[i]? := by
  show (w.heap.push o)[i]? = _
  rw [Array.getElem?_push]; rw [if_neg (by omega)]
theorem MRel.alloc {M' : Mem} {o : Obj} {x : Blk} {p : PB} (h : MRel A I P g M w) (hs : ∀ b y, get M' b = some y → get M b = some y) (hp : p.blk = w.heap.size)
    (hx : BRel I P (g.lay (some p)) g.nb (fun i => (w.alloc o).heap[i]?) x) (hnf : x.isFam = false := by rfl) : MRel A I P (g.lay (some p)) ((g.nb, x) :: M') (w.alloc o) := by
  have hle := g.lay_le (some p)
  have hold : ∀ b q, b ≠ g.nb → (g.lay (some p)).φ b = some q → g.φ b = some q := fun b q hb hq => by simpa [G.lay, hb] using hq
  have hcase : ∀ b y, get ((g.nb, x) :: M') b = some y → (b = g.nb ∧ y = x) ∨ (b ≠ g.nb ∧ get M b = some y) := fun b y hy => by
    simp only [get_cons] at hy
    by_cases hb : g.nb = b
    · rw [if_pos hb] at hy; simp at hy; exact .inl ⟨hb.symm, hy.symm⟩
    · rw [if_neg hb] at hy; exact .inr ⟨fun e => hb e.symm, hs b y hy⟩
  refine ⟨G.lay_wf h.wf _, fun b y hy => ?_, fun b y hy => ?_, fun b c y z q r hy hz hwy hq hr e => ?_, fun b q hq => ?_, fun b y q hy hw hq => ?_, ?_, fun i hi hX => ?_, h.same, fun b y o' hy hr => ?_⟩
  · rcases hcase b y hy with ⟨rfl, rfl⟩ | ⟨hb, hy'⟩
    · exact hx
    · exact ((h.blk b y hy').heap (H' := fun i => (w.alloc o).heap[i]?) (fun q hq => heap_alloc_old (h.bnd b q hq)) fun o' hr => heap_alloc_old (h.fam b y o' hy' hr).2.1).le hle h.wf (h.lt b y hy')
  · rcases hcase b y hy with ⟨rfl, rfl⟩ | ⟨hb, hy'⟩
    · simp [G.lay]
    · have := h.lt b y hy'; simp [G.lay]; omega
  · rcases hcase b y hy with ⟨rfl, rfl⟩ | ⟨hb, hy'⟩ <;> rcases hcase c z hz with ⟨rfl, rfl⟩ | ⟨hc, hz'⟩
    · rfl
    · have h1 := h.bnd c r (hold c r hc hr)
      simp at hq; subst hq
      omega
    · have h1 := h.bnd b q (hold b q hb hq)
      simp at hr; subst hr
      omega
    · exact h.inj b c y z q r hy' hz' hwy (hold b q hb hq) (hold c r hc hr) e
  · by_cases hb : b = g.nb
    · subst hb; simp at hq; subst hq; simp [hp]
    · have := h.bnd b q (hold b q hb hq); simp; omega
  · rcases hcase b y hy with ⟨rfl, rfl⟩ | ⟨hb, hy'⟩
    · right; simp at hq; subst hq; rw [hp]; exact h.size
    · exact h.own b y q hy' hw (hold b q hb hq)
  · have := h.size; simp; omega
  · rw [heap_alloc_old (by have := h.size; omega)]; exact h.keep i hi hX
  · rcases hcase b y hy with ⟨rfl, rfl⟩ | ⟨hb, hy'⟩
    · rw [hr.fam] at hnf; cases hnf
    · obtain ⟨h1, h2, h3, h4⟩ := h.fam b y o' hy' (FRef.le hle (h.lt b y hy') (h.blk b y hy') (fun q hq => heap_alloc_old (h.bnd b q hq)) hr)
      refine ⟨h1, by simp; omega, fun c z q hc hq => ?_, fun c z hc hrc => ?_⟩
      · rcases hcase c z hc with ⟨rfl, rfl⟩ | ⟨hc', hz⟩
        · simp at hq; subst hq; omega
        · exact h3 c z q hz (hold c q hc' hq)
      · rcases hcase c z hc with ⟨rfl, rfl⟩ | ⟨hc', hz⟩
        · rw [hrc.fam] at hnf; cases hnf
        · exact h4 c z hz (FRef.le hle (h.lt c z hz) (h.blk c z hz) (fun q hq => heap_alloc_old (h.bnd c q hq)) hrc)
theorem MRel.write {w' : World} {b : Nat} {x y : Blk} {p : PB} (h : MRel A I P g M w) (hb : get M b = some x) (hw : x.wr = true) (hp : g.φ b = some p)
    (hsz : w'.heap.size = w.heap.size) (hoth : ∀ i, i ≠ p.blk → w'.heap[i]? = w.heap[i]?) (hy : BRel I P g b (fun i => w'.heap[i]?) y) (ho : w'.os = w.os ∧ w'.output = w.output := by exact ⟨rfl, rfl⟩) (hnf : y.isFam = false := by rfl) : MRel A I P g (put b y M) w' := by
  have hoth' : ∀ c z q, c ≠ b → get M c = some z → g.φ c = some q → w'.heap[q.blk]? = w.heap[q.blk]? := fun c z q hc hz hq => hoth q.blk fun e => hc (h.inj b c x z p q hb hz hw hp hq e.symm).symm
  have hcase : ∀ c z, get (put b y M) c = some z → (c = b ∧ z = y) ∨ (c ≠ b ∧ get M c = some z) := fun c z hz => by
    rw [get_put] at hz
    by_cases hc : b = c
    · rw [if_pos hc] at hz; simp at hz; exact .inl ⟨hc.symm, hz.symm⟩
    · rw [if_neg hc] at hz; exact .inr ⟨fun e => hc e.symm, hz⟩
  have hkey : ∀ c z, get (put b y M) c = some z → ∃ z', get M c = some z' ∧ (z.wr = true → z'.wr = true) := fun c z hz => by
    rcases hcase c z hz with ⟨rfl, rfl⟩ | ⟨_, hz'⟩
    · exact ⟨x, hb, fun _ => hw⟩
    · exact ⟨z, hz', id⟩
  refine ⟨h.wf, fun c z hz => ?_, fun c z hz => ?_, fun c d z u q r hz hu hwz' hq hr e => ?_, fun c q hq => ?_, fun c z q hz hwz hq => ?_, ?_, fun i hi hX => ?_, ⟨ho.1.trans h.same.1, ho.2.trans h.same.2⟩, fun c z o hz hr => ?_⟩
  · rcases hcase c z hz with ⟨rfl, rfl⟩ | ⟨hc, hz'⟩
    · exact hy
    · exact (h.blk c z hz').heap (fun q hq => hoth' c z q hc hz' hq) fun o hr => hoth o fun e => (h.fam c z o hz' hr).2.2.1 b x p hb hp e.symm
  · obtain ⟨z', hz', _⟩ := hkey c z hz; exact h.lt c z' hz'
  · obtain ⟨z', hz', hwz⟩ := hkey c z hz
    obtain ⟨u', hu', _⟩ := hkey d u hu
    exact h.inj c d z' u' q r hz' hu' (hwz hwz') hq hr e
  · rw [hsz]; exact h.bnd c q hq
  · obtain ⟨z', hz', hwr⟩ := hkey c z hz; exact h.own c z' q hz' (hwr hwz) hq
  · rw [hsz]; exact h.size
  · by_cases hi' : i = p.blk
    · exfalso
      subst hi'
      rcases h.own b x p hb hw hp with h1 | h1
      · exact hX h1
      · omega
    · rw [hoth i hi']; exact h.keep i hi hX
  · rcases hcase c z hz with ⟨rfl, rfl⟩ | ⟨hc, hz'⟩
    · rw [hr.fam] at hnf; cases hnf
    · obtain ⟨h1, h2, h3, h4⟩ := h.fam c z o hz' (FRef.le (.refl g) (h.lt c z hz') (h.blk c z hz') (fun q hq => hoth' c z q hc hz' hq) hr)
      refine ⟨h1, by rw [hsz]; exact h2, fun d u q hd hq => ?_, fun d u hd hrd => ?_⟩
      · rcases hcase d u hd with ⟨rfl, rfl⟩ | ⟨_, hu⟩
        · exact h3 d x q hb hq
        · exact h3 d u q hu hq
      · rcases hcase d u hd with ⟨rfl, rfl⟩ | ⟨hd', hu⟩
        · rw [hrd.fam] at hnf; cases hnf
        · exact h4 d u hu (FRef.le (.refl g) (h.lt d u hu) (h.blk d u hu) (fun q hq => hoth' d u q hd' hu hq) hrd)
theorem one_rel {v : AV} {x : Value} (h : Rel I g v x) (h1 : v.one = true) : x.oneCell' = true := by
  cases v <;> simp [AV.one] at h1 <;> simp only [Rel] at h
  case bool e => obtain ⟨n, _, rfl⟩ := h; rfl
  case int k e => obtain ⟨n, _, rfl⟩ := h; rfl
  case nilptr => subst h; rfl
  case ptr => obtain ⟨n, p, _, _, _, rfl⟩ := h; rfl
  case nilslice => subst h; rfl
  case slice => obtain ⟨l, n, _, _, _, _, ⟨p, cap, _, rfl, _⟩ | ⟨_, _, _, rfl⟩⟩ := h <;> rfl
  case cap0 => obtain ⟨a, rfl⟩ := h; rfl
  case empty => obtain ⟨a, c, rfl⟩ := h; rfl
  case asl => obtain ⟨p, c, _, _, rfl⟩ := h; rfl
  case bfunc => obtain ⟨ms, cs, rfl, _⟩ := h; rfl
  case gptr => subst h; rfl
  case str => obtain ⟨b, rfl, _⟩ := h; rfl
  case strT => obtain ⟨f, k, s, _, _, rfl, _⟩ := h; rfl
  case capN => obtain ⟨a, rfl⟩ := h; rfl
  case mref => obtain ⟨p, _, rfl⟩ := h; rfl
  case nilmap => subst h; rfl
  case nilif => subst h; rfl
  case sat => obtain ⟨n, _, rfl⟩ := h; rfl
  case ifo => obtain ⟨n, _, ⟨_, rfl⟩ | ⟨_, t, p, rfl⟩⟩ := h <;> rfl
  case func => obtain ⟨cs, rfl, _⟩ := h; rfl
  case yld => obtain ⟨p, _, rfl⟩ := h; rfl
  case nilfunc => subst h; rfl
theorem ones_rel : ∀ {l : List AV} {xs : List Value}, Rels I g l xs → l.all AV.one = true → ∀ x ∈ xs, x.oneCell' = true
  | [], [], _, _, x, hx => by simp at hx
  | v :: l, y :: xs, h, h1, x, hx => by
    simp at h1 hx
    rcases hx with rfl | hx
    · exact one_rel h.1 h1.1
    · exact ones_rel h.2 (by simpa using h1.2) x hx
  | [], _ :: _, h, _, _, _ => by simp [Rels] at h
  | _ :: _, [], h, _, _, _ => by simp [Rels] at h
theorem getElem_splice (cs vs : List Value) (o : Nat) (h : o + vs.length ≤ cs.length) (j : Nat) :
    (cs.take o ++ vs ++ cs.drop (o + vs.length))[j]? = if o ≤ j ∧ j < o + vs.length then vs[j - o]? else cs[j]? := by
  by_cases h1 : j < o
  · rw [if_neg (by omega), List.append_assoc, List.getElem?_append_left (by simp; omega), List.getElem?_take_of_lt h1]
  · by_cases h2 : j < o + vs.length
    · rw [if_pos (by omega), List.append_assoc, List.getElem?_append_right (by simp; omega)]
      simp only [List.length_take]
      rw [show min o cs.length = o by omega, List.getElem?_append_left (by omega)]
    · rw [if_neg (by omega), List.getElem?_append_right (by simp; omega)]
      simp only [List.length_append, List.length_take]
      rw [show min o cs.length = o by omega, List.getElem?_drop]
      congr 1; omega
theorem getElem_setL {α : Type} : ∀ (vs : List α) (l : List α) (o : Nat), o + vs.length ≤ l.length → ∀ j, (setL l o vs)[j]? = if o ≤ j ∧ j < o + vs.length then vs[j - o]? else l[j]?
  | [], l, o, _, j => by simp [setL]; omega
  | v :: vs, l, o, h, j => by
    simp only [setL]
    rw [getElem_setL vs (l.set o v) (o + 1) (by simp at h ⊢; omega) j]
    simp only [List.length_cons] at h ⊢
    by_cases h1 : o + 1 ≤ j ∧ j < o + 1 + vs.length
    · rw [if_pos h1, if_pos (by omega), show j - o = (j - (o + 1)) + 1 by omega, List.getElem?_cons_succ]
    · rw [if_neg h1]
      by_cases h2 : j = o
      · subst h2; rw [if_pos (by omega)]; simp; rw [List.getElem?_eq_getElem (by simpa using (by omega : j < l.length))]; simp
      · rw [if_neg (by omega), List.getElem?_set_ne (by omega)]
theorem run_storeCells_fr {fr : Nat × Nat} (g o : Nat) (t : TypeId) : ∀ (vs : List Value) (i : Nat) (cur : Array Value) (w : World), w.heap[g]? = some (.cells cur t fr) → Free fr cur.size → o + i + vs.length ≤ cur.size → (∀ v ∈ vs, v.oneCell' = true) →
    (storeCells ⟨g, o, none⟩ vs i).run P w = .ok () (w.setRow g (cur.toList.take (o + i) ++ vs ++ cur.toList.drop (o + i + vs.length)).toArray)
  | [], i, cur, w, hg, _, _, _ => by
    simp only [storeCells, List.append_nil, List.length_nil, Nat.add_zero, List.take_append_drop, Array.toArray_toList]
    rw [setRow_self w g cur t fr hg]
    rfl
  | v :: rest, i, cur, w, hg, hf, hl, h1 => by
    have hi : o + i < cur.size := by simp at hl; omega
    have hadd : (⟨g, o, none⟩ : Addr).add i = ⟨g, o + i, none⟩ := by unfold Addr.add; split <;> simp_all
    have hcell : w.cell? ⟨g, o + i, none⟩ = some cur[o + i] := by simp [World.cell?, hg, hi]
    have hfro : w.frozen? ⟨g, o + i, none⟩ = false := by
      rcases hf with rfl | hf
      · simp [World.frozen?, hg]
      · simp [World.frozen?, hg]; intro h; omega
    have hst : (store ((⟨g, o, none⟩ : Addr).add i) v).run P w = .ok () (w.setRow g (cur.setIfInBounds (o + i) v)) := by
      rw [hadd, run_store P w _ v _ (h1 v (by simp)), hcell]
      simp [hfro, setCell_eq_setRow w g (o + i) cur t fr v hg]
    have ih := run_storeCells_fr g o t rest (i + 1) (cur.setIfInBounds (o + i) v) (w.setRow g (cur.setIfInBounds (o + i) v)) (setRow_heap w g cur _ t _ hg) (by simpa using hf) (by simp at hl ⊢; omega) (fun x hx => h1 x (by simp [hx]))
    simp only [storeCells, Sem.run_bind, hst, Result.andThen_ok, ih, setRow_setRow]
    congr 3
    have e := list_seg_step cur.toList (o + i) v rest (by simp at hl ⊢; omega)
    simpa [Array.toList_setIfInBounds, Nat.add_assoc] using e
theorem store_any {q o : Nat} {c : Array Value} {T : TypeId} {xs : List Value} (hh : w.heap[q]? = some (.cells c T (0, 0))) (hsz : xs = [] ∨ o + xs.length ≤ c.size) (hones : ∀ x ∈ xs, x.oneCell' = true) :
    ∃ (w' : World) (c' : Array Value), (storeCells ⟨q, o, none⟩ xs).run P w = .ok () w' ∧ w'.heap.size = w.heap.size ∧ (∀ i, i ≠ q → w'.heap[i]? = w.heap[i]?) ∧ w'.heap[q]? = some (.cells c' T (0, 0)) ∧
      (∀ j, c'[j]? = if o ≤ j ∧ j < o + xs.length then xs[j - o]? else c[j]?) ∧ w'.os = w.os ∧ w'.output = w.output := by
  rcases hsz with rfl | hsz
  · exact ⟨w, c, rfl, rfl, fun _ _ => rfl, hh, fun j => by rw [if_neg (by simp)], rfl, rfl⟩
  · have hst := run_storeCells_at P q o T xs 0 c w hh (by omega) hones
    refine ⟨_, _, hst, by simp, fun i hi => setRow_other _ _ _ _ hi, setRow_heap _ _ _ _ _ _ hh, fun j => ?_, rfl, rfl⟩
    simp only [Nat.add_zero, List.getElem?_toArray]
    rw [getElem_splice _ _ _ (by simp; omega)]
    simp
theorem big_store {b : Nat} {p : PB} {pre post pre' post' : List AV} {ks : List CK} {t t' : E} {m : Nat} {vs : List AV} {xs : List Value} {o : Nat} (hm : MRel A I P g M w) (hb : get M b = some (.big pre ks t m post true)) (hφ : g.φ b = some p)
    (hv : Rels I g vs xs) (hones : ∀ x ∈ xs, x.oneCell' = true) (hin : vs = [] ∨ ∃ (_ : List AV), True ∧ o + vs.length ≤ pre.length + m * ks.length + post.length ∧
      (∀ j, j < vs.length → (o + j < pre.length ∨ (∃ r c k, r < m ∧ ks[c]? = some k ∧ o + j = pre.length + (r * ks.length + c)) ∨ (∃ i v, post[i]? = some v ∧ o + j = pre.length + m * ks.length + i))))
    (hnew : ∀ (c c' : Array Value) (f : Int → Nat → Int), t.den I g.env = some (.t f) → (∀ i v, pre[i]? = some v → ∃ x, c[p.base + i]? = some x ∧ Rel I g v x) →
      (∀ (r j : Nat) (k : CK), r < m → ks[j]? = some k → c[p.base + (pre.length + (r * ks.length + j))]? = some (k.val (f r j))) →
      (∀ i v, post[i]? = some v → ∃ x, c[p.base + (pre.length + m * ks.length + i)]? = some x ∧ Rel I g v x) →
      (∀ j, c'[p.base + j]? = if o ≤ j ∧ j < o + xs.length then xs[j - o]? else c[p.base + j]?) →
      ∃ f', t'.den I g.env = some (.t f') ∧ pre'.length = pre.length ∧ (∀ i v, pre'[i]? = some v → ∃ x, c'[p.base + i]? = some x ∧ Rel I g v x) ∧
      (∀ (r j : Nat) (k : CK), r < m → ks[j]? = some k → c'[p.base + (pre.length + (r * ks.length + j))]? = some (k.val (f' r j))) ∧
      (∀ i v, post'[i]? = some v → ∃ x, c'[p.base + (pre.length + m * ks.length + i)]? = some x ∧ Rel I g v x)) :
    ∃ w', (storeCells ⟨p.blk, p.base + o, none⟩ xs).run P w = .ok () w' ∧ MRel A I P g (put b (.big pre' ks t' m post' true) M) w' := by
  obtain ⟨p', c, T, fr, f, hp', hh, hf, hpre, hrow, hpost, hfr⟩ := hm.blk _ _ hb
  rw [hφ] at hp'; cases hp'
  have hfr0 := hfr rfl
  subst hfr0
  have hlen := hv.length
  have hsz : xs = [] ∨ p.base + o + xs.length ≤ c.size := by
    rcases hin with h0 | ⟨_, _, _, h2⟩
    · left; subst h0; cases xs <;> simp at hlen ⊢
    · by_cases h0 : vs.length = 0
      · left; cases xs <;> simp at hlen ⊢; omega
      · right
        have hex : ∃ y, c[p.base + (o + (vs.length - 1))]? = some y := by
          rcases h2 (vs.length - 1) (by omega) with h3 | ⟨r, cc, k, h3, h4, h5⟩ | ⟨i, v, h3, h4⟩
          · obtain ⟨y, hy, _⟩ := hpre _ _ (List.getElem?_eq_getElem h3); exact ⟨y, hy⟩
          · rw [h5]; exact ⟨_, hrow r cc k h3 h4⟩
          · rw [h4]; obtain ⟨y, hy, _⟩ := hpost i v h3; exact ⟨y, hy⟩
        obtain ⟨y, hy⟩ := hex
        have := (Array.getElem?_eq_some_iff.1 hy).1
        omega
  obtain ⟨w', c', h1, h2, h3, h4, h5, h6⟩ := store_any (P := P) hh hsz hones
  obtain ⟨f', k1, k2, k3, k4, k5⟩ := hnew c c' f hf hpre hrow hpost fun j => by
    rw [h5]
    by_cases hj : o ≤ j ∧ j < o + xs.length
    · rw [if_pos hj, if_pos (by omega)]; congr 1; omega
    · rw [if_neg hj, if_neg (by omega)]
  exact ⟨w', h1, hm.write hb rfl hφ h2 h3 ⟨p, c', T, (0, 0), f', hφ, h4, k1, k3, by rw [k2]; exact k4, by rw [k2]; exact k5, fun _ => rfl⟩ h6⟩
theorem storeAt_rel {b s k : Nat} {r : E} {x : Int} {p : PB} {M' : Mem} {ps : List PE} {vs : List AV} {xs : List Value} (hm : MRel A I P g M w) (h : storeAt M b r s k vs = some (M', ps))
    (hp : ∀ q ∈ ps, q.den I g.env) (hr : r.den I g.env = some (.i x)) (hx : 0 ≤ x) (hφ : g.φ b = some p) (hv : Rels I g vs xs) :
    ∃ w', (storeCells ⟨p.blk, p.base + x.toNat * s + k, none⟩ xs).run P w = .ok () w' ∧ MRel A I P g M' w' := by
  unfold storeAt at h
  split at h
  · cases h
  · rename_i hone
    have hone' : vs.all AV.one = true := by simpa using hone
    have hones := ones_rel hv hone'
    have hlen := hv.length
    split at h
    · rename_i l hb
      split at h
      · rename_i x0 hlit
        have e := isLit_eq hlit
        subst e
        have e : x = x0 := by simp [E.den] at hr; exact hr.symm
        subst e
        split at h
        · cases h
        · simp only at h
          split at h
          · rename_i hle
            simp at h
            obtain ⟨rfl, rfl⟩ := h
            obtain ⟨p', c, T, fr, hp', hh, hcs, hfr⟩ := hm.blk _ _ hb
            rw [hφ] at hp'; cases hp'
            obtain ⟨hfr0, htot⟩ := hfr rfl
            subst hfr0
            have hsz : vs = [] ∨ p.base + (x.toNat * s + k) + vs.length ≤ c.size := by
              cases hvs : vs with
              | nil => exact .inl rfl
              | cons v0 vs0 =>
                right
                have hi : x.toNat * s + k + (vs.length - 1) < l.length := by rw [hvs] at hle ⊢; simp at hle ⊢; omega
                obtain ⟨y, hy, _⟩ := hcs _ _ (List.getElem?_eq_getElem hi)
                have := (Array.getElem?_eq_some_iff.1 hy).1
                rw [← hvs]
                have : 1 ≤ vs.length := by rw [hvs]; simp
                omega
            rcases hsz with h0 | hsz
            · subst h0
              have : xs = [] := by cases xs <;> simp at hlen ⊢
              subst this
              refine ⟨w, rfl, hm.write hb rfl hφ rfl (fun _ _ => rfl) ⟨p, c, T, (0, 0), hφ, hh, by simpa [Sx.setL] using hcs, fun _ => ⟨rfl, htot⟩⟩⟩
            · have hst := run_storeCells_at P p.blk (p.base + x.toNat * s + k) T xs 0 c w hh (by omega) hones
              refine ⟨_, hst, hm.write hb rfl hφ (by simp) (fun i hi => setRow_other _ _ _ _ hi) ⟨p, _, T, (0, 0), hφ, setRow_heap _ _ _ _ _ _ hh, fun i v hiv => ?_, fun _ => ⟨rfl, by simp; omega⟩⟩⟩
              rw [getElem_setL vs l _ (by omega)] at hiv
              simp only [Nat.add_zero, List.getElem?_toArray]
              rw [getElem_splice _ _ _ (by simp; omega)]
              split at hiv
              · rename_i hin
                rw [if_pos (by omega)]
                obtain ⟨y, hy, hy'⟩ := hv.get hiv
                exact ⟨y, by rw [← hy]; congr 1; omega, hy'⟩
              · rename_i hout
                rw [if_neg (by omega)]
                obtain ⟨y, hy, hy'⟩ := hcs i v hiv
                exact ⟨y, by simpa using hy, hy'⟩
          · cases h
      · cases h
    · rename_i ks t len nl hb
      split at h
      · rename_i hs
        subst hs
        cases hu : updRow ks t r k vs with
        | none => simp [hu] at h
        | some t' =>
          simp [hu] at h
          obtain ⟨rfl, rfl⟩ := h
          obtain ⟨f, n, hf, hlenE, hn0, hrow⟩ := hm.blk _ _ hb
          obtain ⟨hx0, hxn⟩ := inRow_den hr hlenE hp
          rcases hrow with ⟨p', c, T, fr, hp', hh, hcs, hwr⟩ | ⟨_, hn, _⟩
          case inr => omega
          rw [hφ] at hp'; cases hp'
          obtain ⟨hfr, hsize, htot⟩ := hwr rfl
          obtain ⟨f', h4, h5, h6, h7⟩ := updRow_rel hr hu hv hf
          have hvk : vs = [] ∨ k + vs.length ≤ ks.length := by
            cases hvs : vs with
            | nil => exact .inl rfl
            | cons _ _ => right; rw [hvs] at h5; simp at h5 ⊢; omega
          rcases hvk with h0 | hvk
          · subst h0
            have : xs = [] := by cases xs <;> simp at hlen ⊢
            subst this
            refine ⟨w, rfl, hm.write hb rfl hφ rfl (fun _ _ => rfl) ⟨f', n, h4, hlenE, hn0, .inl ⟨p, c, T, fr, hφ, hh, fun r' j ck hr' hj => ?_, fun _ => ⟨hfr, hsize, htot⟩⟩⟩⟩
            rw [h7 r' j (by simp; omega)]
            exact hcs r' j ck hr' hj
          · have hrow1 : (x.toNat + 1) * ks.length ≤ p.tot := Nat.le_trans (Nat.mul_le_mul_right _ (by omega)) htot
            rw [Nat.add_mul, Nat.one_mul] at hrow1
            have hst := run_storeCells_fr (P := P) p.blk (p.base + x.toNat * ks.length + k) T xs 0 c w hh hfr (by omega) hones
            refine ⟨_, hst, hm.write hb rfl hφ (by simp) (fun i hi => setRow_other _ _ _ _ hi)
              ⟨f', n, h4, hlenE, hn0, .inl ⟨p, _, T, fr, hφ, setRow_heap _ _ _ _ _ _ hh, fun r' j ck hr' hj => ?_, fun _ => ⟨by
                rcases hfr with h | h
                · exact .inl h
                · right; simp; omega, ?_, htot⟩⟩⟩⟩
            · have hjlt : j < ks.length := (List.getElem?_eq_some_iff.1 hj).1
              simp only [Nat.add_zero, List.getElem?_toArray]
              rw [getElem_splice _ _ _ (by simp; omega)]
              by_cases hrx : r' = x.toNat
              · subst hrx
                by_cases hjk : k ≤ j ∧ j < k + vs.length
                · rw [if_pos (by omega)]
                  have hlt : j - k < xs.length := by omega
                  obtain ⟨c2, h8, h9⟩ := h6 (j - k) _ (List.getElem?_eq_getElem hlt)
                  rw [show k + (j - k) = j by omega] at h8 h9
                  rw [h8] at hj
                  simp at hj
                  subst hj
                  rw [Int.toNat_of_nonneg hx, ← h9, ← List.getElem?_eq_getElem hlt]
                  congr 1; omega
                · rw [if_neg (by omega)]
                  rw [h7 _ j (by omega)]
                  simpa using hcs x.toNat j ck hr' hj
              · have hne : ¬ (p.base + x.toNat * ks.length + k ≤ p.base + r' * ks.length + j ∧ p.base + r' * ks.length + j < p.base + x.toNat * ks.length + k + xs.length) := by
                  rintro ⟨ha, hb'⟩
                  rcases Nat.lt_or_gt_of_ne hrx with hlt | hgt
                  · have := Nat.mul_le_mul_right ks.length (show r' + 1 ≤ x.toNat from hlt)
                    rw [Nat.add_mul, Nat.one_mul] at this
                    omega
                  · have := Nat.mul_le_mul_right ks.length (show x.toNat + 1 ≤ r' from hgt)
                    rw [Nat.add_mul, Nat.one_mul] at this
                    omega
                rw [if_neg hne, h7 _ j (.inl (by omega))]
                simpa using hcs r' j ck hr' hj
            · simp; omega
      · cases h
    · rename_i pre ks t m post hb
      split at h
      · rename_i i hloc
        have hsp := bigLoc_spec hloc hr hx
        simp only at hsp
        split at h
        · rename_i hle
          simp at h
          obtain ⟨rfl, rfl⟩ := h
          rw [show p.base + x.toNat * s + k = p.base + i by omega]
          refine big_store (o := i) hm hb hφ hv hones (.inr ⟨[], trivial, by omega, fun j hj => .inl (by omega)⟩) fun c c' f hf hpre hrow hpost hc' => ⟨f, hf, setL_length _ _ _, fun j v hj => ?_, fun r j kk hr' hj => ?_, fun j v hj => ?_⟩
          · rw [getElem_setL vs pre _ hle] at hj
            rw [hc']
            split at hj
            · rename_i hin
              rw [if_pos (by omega)]
              exact hv.get hj
            · rename_i hout
              rw [if_neg (by omega)]
              exact hpre j v hj
          · rw [hc', if_neg (by omega)]; exact hrow r j kk hr' hj
          · rw [hc', if_neg (by omega)]; exact hpost j v hj
        · cases h
      · rename_i i hloc
        have hsp := bigLoc_spec hloc hr hx
        simp only at hsp
        split at h
        · rename_i hle
          simp at h
          obtain ⟨rfl, rfl⟩ := h
          rw [show p.base + x.toNat * s + k = p.base + (pre.length + m * ks.length + i) by omega]
          refine big_store (o := pre.length + m * ks.length + i) hm hb hφ hv hones (.inr ⟨[], trivial, by omega, fun j hj => .inr (.inr ⟨i + j, _, List.getElem?_eq_getElem (show i + j < post.length by omega), by omega⟩)⟩)
            fun c c' f hf hpre hrow hpost hc' => ⟨f, hf, rfl, fun j v hj => ?_, fun r j kk hr' hj => ?_, fun j v hj => ?_⟩
          · have := (List.getElem?_eq_some_iff.1 hj).1
            rw [hc', if_neg (by omega)]; exact hpre j v hj
          · have hjl : j < ks.length := (List.getElem?_eq_some_iff.1 hj).1
            have := Nat.mul_le_mul_right ks.length (show r + 1 ≤ m from hr')
            rw [Nat.add_mul, Nat.one_mul] at this
            rw [hc', if_neg (by omega)]; exact hrow r j kk hr' hj
          · rw [getElem_setL vs post _ hle] at hj
            rw [hc']
            split at hj
            · rename_i hin
              rw [if_pos (by omega)]
              obtain ⟨y, h1, h2⟩ := hv.get hj
              exact ⟨y, by rw [← h1]; congr 1; omega, h2⟩
            · rename_i hout
              rw [if_neg (by omega)]
              exact hpost j v hj
        · cases h
      · rename_i q cc hloc
        obtain ⟨z, hz, hz0, hsp⟩ := bigLoc_spec hloc hr hx
        cases hu : updRow ks t q cc vs with
        | none => simp [hu] at h
        | some t' =>
          simp [hu] at h
          obtain ⟨rfl, rfl⟩ := h
          obtain ⟨_, hzn⟩ := inRow_den hz (show (E.lit m).den I g.env = some (.i m) from rfl) hp
          rw [show p.base + x.toNat * s + k = p.base + (pre.length + (z.toNat * ks.length + cc)) by omega]
          obtain ⟨_, _, _, _, f0, _, _, hf0, _⟩ := hm.blk _ _ hb
          obtain ⟨f', h4, h5, h6, h7⟩ := updRow_rel hz hu hv hf0
          have hrow1 := Nat.mul_le_mul_right ks.length (show z.toNat + 1 ≤ m by omega)
          rw [Nat.add_mul, Nat.one_mul] at hrow1
          have hvk : vs = [] ∨ cc + vs.length ≤ ks.length := by
            cases hvs : vs with
            | nil => exact .inl rfl
            | cons _ _ => right; rw [hvs] at h5; simp at h5 ⊢; omega
          refine big_store (o := pre.length + (z.toNat * ks.length + cc)) hm hb hφ hv hones (by
            rcases hvk with h0 | h0
            · exact .inl h0
            · refine .inr ⟨[], trivial, by omega, fun j hj => .inr (.inl ⟨z.toNat, cc + j, ks[cc + j]'(by omega), by omega, List.getElem?_eq_getElem _, by omega⟩)⟩)
            fun c c' f hf hpre hrow hpost hc' => ⟨f', h4, rfl, fun j v hj => ?_, fun r j kk hr' hj => ?_, fun j v hj => ?_⟩
          · have := (List.getElem?_eq_some_iff.1 hj).1
            rw [hc', if_neg (by omega)]; exact hpre j v hj
          · have e : f = f0 := by rw [hf0] at hf; simp at hf; exact hf.symm
            subst e
            have hjl : j < ks.length := (List.getElem?_eq_some_iff.1 hj).1
            rw [hc']
            by_cases hrx : r = z.toNat
            · subst hrx
              by_cases hjk : cc ≤ j ∧ j < cc + vs.length
              · rw [if_pos (by omega)]
                have hlt : j - cc < xs.length := by omega
                obtain ⟨c2, h8, h9⟩ := h6 (j - cc) _ (List.getElem?_eq_getElem hlt)
                rw [show cc + (j - cc) = j by omega] at h8 h9
                rw [h8] at hj
                simp at hj
                subst hj
                rw [Int.toNat_of_nonneg hz0, ← h9, ← List.getElem?_eq_getElem hlt]
                congr 1; omega
              · rw [if_neg (by omega), h7 _ j (by omega)]
                exact hrow _ j kk hr' hj
            · have hne : ¬ (pre.length + (z.toNat * ks.length + cc) ≤ pre.length + (r * ks.length + j) ∧ pre.length + (r * ks.length + j) < pre.length + (z.toNat * ks.length + cc) + xs.length) := by
                rintro ⟨ha, hb'⟩
                rcases hvk with h0 | hvk
                · subst h0; simp at hlen; omega
                rcases Nat.lt_or_gt_of_ne hrx with hlt | hgt
                · have := Nat.mul_le_mul_right ks.length (show r + 1 ≤ z.toNat from hlt)
                  rw [Nat.add_mul, Nat.one_mul] at this
                  omega
                · have := Nat.mul_le_mul_right ks.length (show z.toNat + 1 ≤ r from hgt)
                  rw [Nat.add_mul, Nat.one_mul] at this
                  omega
              rw [if_neg hne, h7 _ j (.inl (by omega))]
              exact hrow r j kk hr' hj
          · have hb2 : cc + vs.length ≤ ks.length ∨ xs.length = 0 := by
              rcases hvk with h0 | h0
              · right; subst h0; simp at hlen; omega
              · exact .inl h0
            rw [hc', if_neg (by omega)]; exact hpost j v hj
      · cases h
    · cases h
end Go.Sx
end
noncomputable section
namespace Go.Sx
open Go
variable {A : Amb} {I : Itp} {P : Program} {g : G} {X : Nat → Prop} {ts : Tmps} {a : Act} {M : Mem} {w : World}
theorem MRel.lay_none {M' : Mem} {x : Blk} (h : MRel A I P g M w) (hs : ∀ b y, get M' b = some y → get M b = some y)
    (hx : BRel I P (g.lay none) g.nb (fun i => w.heap[i]?) x) (hnf : x.isFam = false := by rfl) : MRel A I P (g.lay none) ((g.nb, x) :: M') w := by
  have hle := g.lay_le none
  have hold : ∀ b q, (g.lay none).φ b = some q → g.φ b = some q ∧ b ≠ g.nb := fun b q hq => by
    by_cases hb : b = g.nb
    · subst hb; simp at hq
    · exact ⟨by simpa [G.lay, hb] using hq, hb⟩
  have hcase : ∀ b y, get ((g.nb, x) :: M') b = some y → (b = g.nb ∧ y = x) ∨ (b ≠ g.nb ∧ get M b = some y) := fun b y hy => by
    simp only [get_cons] at hy
    by_cases hb : g.nb = b
    · rw [if_pos hb] at hy; simp at hy; exact .inl ⟨hb.symm, hy.symm⟩
    · rw [if_neg hb] at hy; exact .inr ⟨fun e => hb e.symm, hs b y hy⟩
  refine ⟨G.lay_wf h.wf _, fun b y hy => ?_, fun b y hy => ?_, fun b c y z q r hy hz hwy hq hr e => ?_, fun b q hq => h.bnd b q (hold b q hq).1, fun b y q hy hw hq => ?_, h.size, h.keep, h.same, fun b y o hy hr => ?_⟩
  · rcases hcase b y hy with ⟨rfl, rfl⟩ | ⟨hb, hy'⟩
    · exact hx
    · exact (h.blk b y hy').le hle h.wf (h.lt b y hy')
  · rcases hcase b y hy with ⟨rfl, rfl⟩ | ⟨hb, hy'⟩
    · simp [G.lay]
    · have := h.lt b y hy'; simp [G.lay]; omega
  · obtain ⟨hq', hb⟩ := hold b q hq
    obtain ⟨hr', hc⟩ := hold c r hr
    rcases hcase b y hy with ⟨rfl, rfl⟩ | ⟨_, hy'⟩
    · exact absurd rfl hb
    · rcases hcase c z hz with ⟨rfl, rfl⟩ | ⟨_, hz'⟩
      · exact absurd rfl hc
      · exact h.inj b c y z q r hy' hz' hwy hq' hr' e
  · obtain ⟨hq', hb⟩ := hold b q hq
    rcases hcase b y hy with ⟨rfl, rfl⟩ | ⟨_, hy'⟩
    · exact absurd rfl hb
    · exact h.own b y q hy' hw hq'
  · rcases hcase b y hy with ⟨rfl, rfl⟩ | ⟨hb, hy'⟩
    · rw [hr.fam] at hnf; cases hnf
    · obtain ⟨h1, h2, h3, h4⟩ := h.fam b y o hy' (FRef.le hle (h.lt b y hy') (h.blk b y hy') (fun _ _ => rfl) hr)
      refine ⟨h1, h2, fun c z q hc hq => ?_, fun c z hc hrc => ?_⟩
      · obtain ⟨hq', hc'⟩ := hold c q hq
        rcases hcase c z hc with ⟨rfl, rfl⟩ | ⟨_, hz⟩
        · exact absurd rfl hc'
        · exact h3 c z q hz hq'
      · rcases hcase c z hc with ⟨rfl, rfl⟩ | ⟨_, hz⟩
        · rw [hrc.fam] at hnf; cases hnf
        · exact h4 c z hz (FRef.le hle (h.lt c z hz) (h.blk c z hz) (fun _ _ => rfl) hrc)
theorem MRel.rename {b : Nat} {x y : Blk} {p : PB} (h : MRel A I P g M w) (hb : get M b = some x) (hp : g.φ b = some p) (hw : x.wr = true)
    (hy : BRel I P (g.lay (some p)) g.nb (fun i => w.heap[i]?) y) (hnf : y.isFam = false := by rfl) : MRel A I P (g.lay (some p)) ((g.nb, y) :: del b M) w := by
  have hle := g.lay_le (some p)
  have hold : ∀ c q, c ≠ g.nb → (g.lay (some p)).φ c = some q → g.φ c = some q := fun c q hc hq => by simpa [G.lay, hc] using hq
  have hcase : ∀ c z, get ((g.nb, y) :: del b M) c = some z → (c = g.nb ∧ z = y) ∨ (c ≠ g.nb ∧ c ≠ b ∧ get M c = some z) := fun c z hz => by
    simp only [get_cons] at hz
    by_cases hc : g.nb = c
    · rw [if_pos hc] at hz; simp at hz; exact .inl ⟨hc.symm, hz.symm⟩
    · rw [if_neg hc, get_del] at hz
      split at hz
      · cases hz
      · rename_i hbc
        exact .inr ⟨fun e => hc e.symm, fun e => hbc e.symm, hz⟩
  refine ⟨G.lay_wf h.wf _, fun c z hz => ?_, fun c z hz => ?_, fun c d z u q r hz hu hwz' hq hr e => ?_, fun c q hq => ?_, fun c z q hz hwz hq => ?_, h.size, h.keep, h.same, fun c z o hz hr => ?_⟩
  · rcases hcase c z hz with ⟨rfl, rfl⟩ | ⟨_, _, hz'⟩
    · exact hy
    · exact (h.blk c z hz').le hle h.wf (h.lt c z hz')
  · rcases hcase c z hz with ⟨rfl, rfl⟩ | ⟨_, _, hz'⟩
    · simp [G.lay]
    · have := h.lt c z hz'; simp [G.lay]; omega
  · rcases hcase c z hz with ⟨rfl, rfl⟩ | ⟨hc, hcb, hz'⟩ <;> rcases hcase d u hu with ⟨rfl, rfl⟩ | ⟨hd, hdb, hu'⟩
    · rfl
    · simp at hq; subst hq
      exact absurd (h.inj b d x u p r hb hu' hw hp (hold d r hd hr) e) (fun e => hdb e.symm)
    · simp at hr; subst hr
      exact absurd (h.inj b c x z p q hb hz' hw hp (hold c q hc hq) e.symm).symm hcb
    · exact h.inj c d z u q r hz' hu' hwz' (hold c q hc hq) (hold d r hd hr) e
  · by_cases hc : c = g.nb
    · subst hc; simp at hq; subst hq; exact h.bnd b p hp
    · exact h.bnd c q (hold c q hc hq)
  · rcases hcase c z hz with ⟨rfl, rfl⟩ | ⟨hc, _, hz'⟩
    · simp at hq; subst hq; exact h.own b x p hb hw hp
    · exact h.own c z q hz' hwz (hold c q hc hq)
  · rcases hcase c z hz with ⟨rfl, rfl⟩ | ⟨hc, _, hz'⟩
    · rw [hr.fam] at hnf; cases hnf
    · obtain ⟨h1, h2, h3, h4⟩ := h.fam c z o hz' (FRef.le hle (h.lt c z hz') (h.blk c z hz') (fun _ _ => rfl) hr)
      refine ⟨h1, h2, fun d u q hd hq => ?_, fun d u hd hrd => ?_⟩
      · rcases hcase d u hd with ⟨rfl, rfl⟩ | ⟨hd', _, hu⟩
        · simp at hq; subst hq; exact h3 b x p hb hp
        · exact h3 d u q hu (hold d q hd' hq)
      · rcases hcase d u hd with ⟨rfl, rfl⟩ | ⟨_, _, hu⟩
        · rw [hrd.fam] at hnf; cases hnf
        · exact h4 d u hu (FRef.le hle (h.lt d u hu) (h.blk d u hu) (fun _ _ => rfl) hrd)
theorem SRel.lay {s : St} (h : SRel A I P X g s a w) {p : Option PB} {M' : Mem} {w' : World} (hm : MRel A I P (g.lay p) M' w') :
    SRel A I P X (g.lay p) { s with mem := M', nb := s.nb + 1 } a w' :=
  ⟨hm, h.t.le (g.lay_le p) h.m.wf, h.nt, h.d.le (g.lay_le p) h.m.wf, h.nv, by simp [G.lay, h.nb]⟩
theorem SRel.mem {s : St} (h : SRel A I P X g s a w) {M' : Mem} {w' : World} (hm : MRel A I P g M' w') : SRel A I P X g { s with mem := M' } a w' :=
  ⟨hm, h.t, h.nt, h.d, h.nv, h.nb⟩
structure LoudRun (A : Amb) (I : Itp) (P : Program) (X : Nat → Prop) (g : G) (a : Act) (w : World) (o : Oper) (v : AV) (s1 : St) : Prop where
  run : ∃ (x : Value) (w' : World) (g' : G), ((execOp a.eval o).run P w = .ok (.value x) w' ∨ ((execOp a.eval o).run P w = .ok .skip w' ∧ x = Go.undef)) ∧
    g.Le g' ∧ g'.env = g.env ∧ Rel I g' v x ∧ SRel A I P X g' s1 a w'
theorem cells_brel {p : PB} {l : List AV} {cs : Array Value} {T : TypeId} {H : Nat → Option Obj} {b : Nat} {fr : Nat × Nat} (hp : g.φ b = some p) (h0 : p.base = 0) (hH : H p.blk = some (.cells cs T fr))
    (hl : Rels I g l cs.toList) (hfr : fr = (0, 0)) (htot : p.tot ≤ cs.size) : BRel I P g b H (.cells l true) :=
  ⟨p, cs, T, fr, hp, hH, fun i v hv => by
    obtain ⟨x, h1, h2⟩ := hl.get hv
    exact ⟨x, by rw [h0, Nat.zero_add]; simpa using h1, h2⟩, fun _ => ⟨hfr, by omega⟩⟩
theorem heap_alloc_new (w : World) (o : Obj) : (w.alloc o).heap[w.heap.size]? = some o := by
  show (w.heap.push o)[w.heap.size]? = some o
  simp
theorem alloc_loud {s : St} {o : Oper} {t : TypeId} (hs : SRel A I P X g s a w) (hop : o.op = .alloc t) {z : AV} (hz : zeroAV P t = some z) :
    LoudRun A I P X g a w o (.ptr s.nb (.lit 0) 0 0) (newBlk s (.cells z.cells true)) := by
  obtain ⟨ti, zx, _, _, hzr, hzrel⟩ := zeroAV_rel hz
  let p : PB := { blk := w.heap.size, base := 0, tot := 0 }
  refine ⟨.pointer (some ⟨w.heap.size, 0, none⟩), w.alloc (.cells zx.cells t), g.lay (some p), .inl ?_, g.lay_le _, rfl, ?_, ?_⟩
  · simp only [execOp, hop, Instr.alloc, Sem.run_bind, hzr, Result.andThen, newVar, newRow, run_newObj_alloc, Sem.run_pure]
  · exact ⟨0, p, rfl, Int.le_refl _, by rw [← hs.nb]; exact G.lay_new g (some p), by simp [p]⟩
  · have hm := hs.m.alloc (M' := s.mem) (o := .cells zx.cells t) (x := .cells z.cells true) (p := p) (fun _ _ h => h) rfl
      (cells_brel (G.lay_new g (some p)) rfl (heap_alloc_new _ _) (hzrel I _).2 rfl (Nat.zero_le _))
    rw [hs.nb] at hm
    exact hs.lay hm
theorem allocBld_loud {s : St} {o : Oper} {t u : TypeId} (hs : SRel A I P X g s a w) (hop : o.op = .alloc t) (hz : zeroAV P t = some (.agg [.nilptr, .nilslice])) :
    LoudRun A I P X g a w o (.ptr (s.nb + 1) (.lit 0) 0 0) { s with mem := (s.nb + 1, .bld t (.lit 0) s.nb) :: (s.nb, .byt u (.lit 0)) :: s.mem, nb := s.nb + 2 } := by
  obtain ⟨ti, zx, _, _, hzr, hzrel⟩ := zeroAV_rel hz
  have hz0 : sdec 0 = [] := rfl
  let p : PB := { blk := w.heap.size, base := 0, tot := 0 }
  have hs1 : SRel A I P X (g.lay none) { s with mem := (s.nb, .byt u (.lit 0)) :: s.mem, nb := s.nb + 1 } a w := by
    refine hs.lay ?_
    rw [← hs.nb]
    exact hs.m.lay_none (fun _ _ h => h) ⟨0, rfl, .inl ⟨by simp [G.lay], hz0⟩⟩
  obtain ⟨cs, hcs, hr⟩ := (hzrel I g).1
  have hc2 : cs = #[.pointer none, .slice none 0 0] := by
    obtain ⟨l⟩ := cs
    match l, hr with
    | [x, y], ⟨h1, h2, _⟩ => simp only [Rel] at h1 h2; rw [h1, h2]
    | [], h => simp [Rels] at h
    | [_], h => simp [Rels] at h
    | _ :: _ :: _ :: _, h => simp [Rels] at h
  refine ⟨.pointer (some ⟨w.heap.size, 0, none⟩), w.alloc (.cells zx.cells t), (g.lay none).lay (some p), .inl ?_, (g.lay_le _).trans ((g.lay none).lay_le _), rfl, ?_, ?_⟩
  · simp only [execOp, hop, Instr.alloc, Sem.run_bind, hzr, Result.andThen, newVar, newRow, run_newObj_alloc, Sem.run_pure]
  · exact ⟨0, p, rfl, Int.le_refl _, by rw [show s.nb + 1 = (g.lay none).nb from hs1.nb.symm]; exact G.lay_new (g.lay none) (some p), by simp [p]⟩
  · have hm := hs1.m.alloc (M' := (s.nb, .byt u (.lit 0)) :: s.mem) (o := .cells zx.cells t) (x := .bld t (.lit 0) s.nb) (p := p) (fun _ _ h => h) rfl
      ⟨p, 0, .pointer none, .slice none 0 0, G.lay_new (g.lay none) (some p), rfl, by rw [← hc2, show zx.cells = cs by rw [hcs]; rfl]; exact heap_alloc_new _ _, rfl, .inl rfl, .inl ⟨rfl, hz0⟩⟩
    rw [hs1.nb] at hm
    exact hs1.lay hm
theorem box_loud {s : St} {o : Oper} {t : TypeId} {x : Operand} (hs : SRel A I P X g s a w) (hop : o.op = .box t x) {v : AV} (hv : Rel I g v (a.eval x)) (hne : v ≠ .any) (hnb : v.isBig = false) :
    LoudRun A I P X g a w o (.ptr s.nb (.lit 0) 0 0) (newBlk s (.cells v.cells true)) := by
  let p : PB := { blk := w.heap.size, base := 0, tot := 0 }
  refine ⟨.pointer (some ⟨w.heap.size, 0, none⟩), w.alloc (.cells (a.eval x).cells t), g.lay (some p), .inl ?_, g.lay_le _, rfl, ?_, ?_⟩
  · simp only [execOp, hop, Instr.box, Sem.run_bind, Result.andThen, newVar, newRow, run_newObj_alloc, Sem.run_pure]
  · exact ⟨0, p, rfl, Int.le_refl _, by rw [← hs.nb]; exact G.lay_new g (some p), by simp [p]⟩
  · have hm := hs.m.alloc (M' := s.mem) (o := .cells (a.eval x).cells t) (x := .cells v.cells true) (p := p) (fun _ _ h => h) rfl
      (cells_brel (G.lay_new g (some p)) rfl (heap_alloc_new _ _) ((cells_rel hv hne hnb).le (g.lay_le _) hs.m.wf) rfl (Nat.zero_le _))
    rw [hs.nb] at hm
    exact hs.lay hm
theorem big_brel {p : PB} {l m : List AV} {ks : List CK} {t : E} {n : Nat} {cs : Array Value} {xs ys zs : List Value} {f : Int → Nat → Int} {T : TypeId} {H : Nat → Option Obj} {b : Nat} (hp : g.φ b = some p) (h0 : p.base = 0)
    (hH : H p.blk = some (.cells cs T (0, 0))) (hcs : cs.toList = xs ++ ys ++ zs) (ht : t.den I g.env = some (.t f)) (hl : Rels I g l xs) (hm : Rels I g m zs) (hyl : ys.length = n * ks.length)
    (hys : ∀ (r j : Nat) (k : CK), r < n → ks[j]? = some k → ys[r * ks.length + j]? = some (k.val (f r j))) : BRel I P g b H (.big l ks t n m true) := by
  have hll := hl.length
  refine ⟨p, cs, T, (0, 0), f, hp, hH, ht, fun i v hv => ?_, fun r j k hr hj => ?_, fun i v hv => ?_, fun _ => rfl⟩
  · obtain ⟨x, h1, h2⟩ := hl.get hv
    have hi := (List.getElem?_eq_some_iff.1 h1).1
    refine ⟨x, ?_, h2⟩
    rw [h0, Nat.zero_add, ← Array.getElem?_toList, hcs, List.append_assoc, List.getElem?_append_left hi, h1]
  · have hjl : j < ks.length := (List.getElem?_eq_some_iff.1 hj).1
    have hlt := Nat.mul_le_mul_right ks.length (show r + 1 ≤ n from hr)
    rw [Nat.add_mul, Nat.one_mul] at hlt
    rw [h0, Nat.zero_add, ← Array.getElem?_toList, hcs, List.append_assoc, List.getElem?_append_right (by omega), List.getElem?_append_left (by omega), ← hys r j k hr hj]
    congr 1; omega
  · obtain ⟨x, h1, h2⟩ := hm.get hv
    refine ⟨x, ?_, h2⟩
    rw [h0, Nat.zero_add, ← Array.getElem?_toList, hcs, List.getElem?_append_right (by simp; omega), ← h1]
    congr 1; simp; omega
theorem allocBig_loud {s : St} {o : Oper} {bg : Big} (hs : SRel A I P X g s a w) (hop : o.op = .alloc bg.t) {l m : List AV} (hz : zeroBig P bg = some (l, m)) :
    LoudRun A I P X g a w o (.ptr s.nb (.lit 0) 0 0) (newBlk s (.big l bg.ks .zt bg.n m true)) := by
  obtain ⟨ti, cs, xs, ys, zs, _, _, hcs, hzr, hzrel, hyl, hys⟩ := zeroBig_spec hz
  let p : PB := { blk := w.heap.size, base := 0, tot := 0 }
  refine ⟨.pointer (some ⟨w.heap.size, 0, none⟩), w.alloc (.cells cs bg.t), g.lay (some p), .inl ?_, g.lay_le _, rfl, ?_, ?_⟩
  · simp only [execOp, hop, Instr.alloc, Sem.run_bind, hzr, Result.andThen, newVar, newRow, run_newObj_alloc, Sem.run_pure, Value.cells]
  · exact ⟨0, p, rfl, Int.le_refl _, by rw [← hs.nb]; exact G.lay_new g (some p), by simp [p]⟩
  · have hm := hs.m.alloc (M' := s.mem) (o := .cells cs bg.t) (x := .big l bg.ks .zt bg.n m true) (p := p) (fun _ _ h => h) rfl
      (big_brel (f := fun _ _ => 0) (G.lay_new g (some p)) rfl (heap_alloc_new _ _) hcs rfl (hzrel I _).1 (hzrel I _).2 hyl hys)
    rw [hs.nb] at hm
    exact hs.lay hm
theorem boxBig_loud {s : St} {o : Oper} {t : TypeId} {x : Operand} (hs : SRel A I P X g s a w) (hop : o.op = .box t x) {l m : List AV} {ks : List CK} {e : E} {n : Nat} (hv : Rel I g (.big l ks e n m) (a.eval x)) :
    LoudRun A I P X g a w o (.ptr s.nb (.lit 0) 0 0) (newBlk s (.big l ks e n m true)) := by
  obtain ⟨f, xs, ys, zs, h1, h2, h3, h4, h5, h6⟩ := hv
  let p : PB := { blk := w.heap.size, base := 0, tot := 0 }
  refine ⟨.pointer (some ⟨w.heap.size, 0, none⟩), w.alloc (.cells (a.eval x).cells t), g.lay (some p), .inl ?_, g.lay_le _, rfl, ?_, ?_⟩
  · simp only [execOp, hop, Instr.box, Sem.run_bind, Result.andThen, newVar, newRow, run_newObj_alloc, Sem.run_pure]
  · exact ⟨0, p, rfl, Int.le_refl _, by rw [← hs.nb]; exact G.lay_new g (some p), by simp [p]⟩
  · have hm := hs.m.alloc (M' := s.mem) (o := .cells (a.eval x).cells t) (x := .big l ks e n m true) (p := p) (fun _ _ h => h) rfl
      (big_brel (G.lay_new g (some p)) rfl (heap_alloc_new _ _) (by rw [h2]; rfl) (E.den_le (g.lay_le _) h1) (h3.le (g.lay_le _) hs.m.wf) (h4.le (g.lay_le _) hs.m.wf) h5 h6)
    rw [hs.nb] at hm
    exact hs.lay hm
theorem store_loud {s : St} {o : Oper} {t : TypeId} {y x : Operand} (hs : SRel A I P X g s a w) (hop : o.op = .store t y x) {b z k n : Nat} {r : E} {v : AV} {M' : Mem} {ps : List PE}
    (hy : Rel I g (.ptr b r z k) (a.eval y)) (hv : Rel I g v (a.eval x)) (hne : v ≠ .any) (hnb : v.isBig = false) (hn : tySize P t = some n) (hl : v.cells.length = n)
    (h : storeAt s.mem b r z k v.cells = some (M', ps)) (hp : ∀ q ∈ ps, q.den I g.env) :
    LoudRun A I P X g a w o .undef { s with mem := M' } := by
  obtain ⟨m, p, h2, h3, h4, h5⟩ := hy
  have hc := cells_rel hv hne hnb
  obtain ⟨w', h6, h7⟩ := storeAt_rel hs.m h hp h2 h3 h4 hc
  refine ⟨Go.undef, w', g, .inr ⟨?_, rfl⟩, .refl _, rfl, rfl, hs.mem h7⟩
  have hsz : (a.eval x).cells.size = n := by rw [← hl]; simpa using hc.length.symm
  simp only [execOp, hop, h5, Instr.storeAt, Instr.sureAddr, Sem.run_bind, Sem.run_pure, Result.andThen, storeVar, run_tySize hn, hsz, ne_eq, not_true_eq_false, if_false, h6]
theorem kindsOf_length : ∀ {l : List AV} {ks : List CK}, kindsOf l = some ks → ks.length = l.length
  | [], ks, h => by simp [kindsOf] at h; subst h; rfl
  | v :: l, ks, h => by
    simp only [kindsOf] at h
    split at h
    · rename_i k ks' h1 h2; simp at h; subst h; simp [kindsOf_length h2]
    · cases h
theorem rowsOf_rel {ks : List CK} : ∀ (n : Nat) {vs : List AV} {xs : List Value} {t : E}, rowsOf ks n vs = some t → Rels I g vs xs → vs.length = n * ks.length →
    ∃ f, t.den I g.env = some (.t f) ∧ ∀ (r j : Nat) (k : CK), r < n → ks[j]? = some k → xs[r * ks.length + j]? = some (k.val (f r j))
  | 0, vs, xs, t, h, hv, hl => by
    simp only [rowsOf] at h
    split at h
    · simp at h; subst h; exact ⟨_, rfl, fun r j k hr => by omega⟩
    · cases h
  | m + 1, vs, xs, t, h, hv, hl => by
    simp only [rowsOf] at h
    split at h
    · rename_i t0 h0
      have hl0 : (vs.take (m * ks.length)).length = m * ks.length := by simp [hl, Nat.add_mul]
      obtain ⟨f, h1, h2⟩ := rowsOf_rel m h0 (hv.take _) hl0
      obtain ⟨f', h3, h4, h5, h6⟩ := updRow_rel (x := (m : Int)) rfl h (hv.drop _) h1
      refine ⟨f', h3, fun r j k hr hj => ?_⟩
      have hjlt : j < ks.length := (List.getElem?_eq_some_iff.1 hj).1
      by_cases hrm : r = m
      · subst hrm
        have hxl : xs.length = (r + 1) * ks.length := by rw [← hv.length]; exact hl
        have hlt : j < (xs.drop (r * ks.length)).length := by simp [hxl, Nat.add_mul]; omega
        obtain ⟨c, h7, h8⟩ := h5 j _ (List.getElem?_eq_getElem hlt)
        rw [Nat.zero_add] at h7 h8
        rw [h7] at hj; simp at hj; subst hj
        rw [← h8, ← List.getElem?_eq_getElem hlt, List.getElem?_drop]
      · have hlt : r < m := by omega
        have := h2 r j k hlt hj
        rw [List.getElem?_take] at this
        have hrow := Nat.mul_le_mul_right ks.length (show r + 1 ≤ m from hlt)
        rw [Nat.add_mul, Nat.one_mul] at hrow
        rw [if_pos (by omega)] at this
        rw [this, h6 r j (.inl (by omega))]
    · cases h
theorem repl_length (zs : List AV) : ∀ n, (repl n zs).length = n * zs.length
  | 0 => by simp [repl]
  | n + 1 => by simp [repl, repl_length zs n, Nat.add_mul]; omega
theorem repl_get (zs : List AV) : ∀ n i, i < n * zs.length → (repl n zs)[i]? = zs[i % zs.length]?
  | 0, i, h => by omega
  | n + 1, i, h => by
    simp only [repl]
    by_cases hi : i < zs.length
    · rw [List.getElem?_append_left hi, Nat.mod_eq_of_lt hi]
    · rw [List.getElem?_append_right (by omega), repl_get zs n _ (by rw [Nat.add_mul, Nat.one_mul] at h; omega)]
      congr 1
      rw [Nat.mod_eq_sub_mod (a := i) (by omega)]
theorem zeros_rel {z : AV} {x : Value} {sz n : Nat} (h : Rels I g z.cells x.cells.toList) (hsz : z.cells.length = sz) :
    Rels I g (repl n z.cells) ((Array.range (n * sz)).map (fun i => x.cells[i % x.cells.size]!)).toList := by
  have hxs : x.cells.size = sz := by rw [← hsz]; simpa using h.length.symm
  refine Rels.mk (by simp [repl_length, hsz]) fun i v y h1 h2 => ?_
  have hi : i < n * sz := by
    have := (List.getElem?_eq_some_iff.1 h1).1
    rw [repl_length, hsz] at this; exact this
  rw [repl_get _ _ _ (by rw [hsz]; exact hi)] at h1
  obtain ⟨y', h3, h4⟩ := h.get h1
  have h2' : ((List.range (n * sz)).map fun i => x.cells[i % x.cells.size]!)[i]? = some y := by
    have : ((Array.range (n * sz)).map (fun i => x.cells[i % x.cells.size]!)).toList = (List.range (n * sz)).map fun i => x.cells[i % x.cells.size]! := by simp
    rw [← this]; exact h2
  obtain ⟨_, rfl⟩ := get_range_map h2'
  have h5 : x.cells[i % x.cells.size]? = some y' := by rw [hxs, ← hsz]; simpa using h3
  rw [getElem!_def, h5]
  exact h4
theorem rows_brel {p : PB} {ks : List CK} {t len : E} {f : Int → Nat → Int} {n : Nat} {cs : Array Value} {T : TypeId} {H : Nat → Option Obj} {b : Nat} {nl : Bool} (hp : g.φ b = some p) (h0 : p.base = 0)
    (hH : H p.blk = some (.cells cs T (0, 0))) (ht : t.den I g.env = some (.t f)) (hlen : len.den I g.env = some (.i n))
    (hrows : ∀ (r j : Nat) (k : CK), r < n → ks[j]? = some k → cs[r * ks.length + j]? = some (k.val (f r j))) (htot : p.tot ≤ cs.size) (hn : n * ks.length ≤ p.tot) :
    BRel I P g b H (.rows ks t len true nl) :=
  ⟨f, n, ht, hlen, by omega, .inl ⟨p, cs, T, (0, 0), hp, hH, fun r j k hr hj => by rw [h0, Nat.zero_add]; exact hrows r j k (by simpa using hr) hj, fun _ => ⟨.inl rfl, by omega, by simpa using hn⟩⟩⟩
theorem sliceBlk_brel {p : PB} {zs : List AV} {n : Nat} {vs : List AV} {cs : Array Value} {T : TypeId} {H : Nat → Option Obj} {b : Nat} (hp : g.φ b = some p) (h0 : p.base = 0) (htot : p.tot = n * zs.length)
    (hH : H p.blk = some (.cells cs T (0, 0))) (hv : Rels I g vs cs.toList) (hl : vs.length = n * zs.length) : BRel I P g b H (sliceBlk zs n vs) := by
  have hc : BRel I P g b H (.cells vs true) := cells_brel hp h0 hH hv rfl (by have := hv.length; simp at this; omega)
  unfold sliceBlk
  split
  · rename_i ks hk
    split
    · exact hc
    · have hkl := kindsOf_length hk
      split
      · rename_i t ht
        obtain ⟨f, h1, h2⟩ := rowsOf_rel n ht hv (by rw [hkl]; exact hl)
        refine rows_brel hp h0 hH h1 rfl (fun r j k hr hj => ?_) ?_ (by rw [htot, hkl]; exact Nat.le_refl _)
        · have := h2 r j k hr hj; simpa using this
        · rw [htot, ← hl, hv.length]; simp
      · exact hc
  · exact hc
theorem buildSlice_new {ts : Tmps} {o : Oper} {t el : TypeId} {n sz : Nat} {parts : Array (Nat × Operand)} (htr : TRel I g X ts a.tmps) (hop : o.op = .buildSlice t n parts)
    (hx : ∀ t', .tmp t' ∈ o.op.operands.toList → ¬ X t') (hu : P.underlying t = some (.slice el)) {z : AV} (hz : zeroAV P el = some z) (hsz : tySize P el = some sz) {ps : List (Nat × AV)}
    (hps : evalParts ts parts.toList = some ps) (hzl : z.cells.length = sz) (hb : n * sz ≤ 1000) {vs : List AV} (hf : fillAV (fun i => some (i * sz, sz)) (repl n z.cells) ps = some vs) :
    ∃ ds : Array Value, (execOp a.eval o).run P w = .ok (.value (.slice (some ⟨w.heap.size, 0, none⟩) n n)) (w.alloc (.cells ds el)) ∧ Rels I g vs ds.toList ∧ vs.length = n * z.cells.length := by
  obtain ⟨ti, zx, _, _, hzr, hzrel⟩ := zeroAV_rel hz
  obtain ⟨h1, h2, h3⟩ := evalParts_rel (a := a) htr hps fun t' ht' => hx t' (by rw [hop]; simpa [Op.operands] using ht')
  have hzs := zeros_rel (n := n) (hzrel I g).2 hzl
  have hl : vs.length = n * z.cells.length := by
    have : ∀ (ps : List (Nat × AV)) (l m : List AV), fillAV (fun i => some (i * sz, sz)) l ps = some m → m.length = l.length := by
      intro ps
      induction ps with
      | nil => intro l m h; simp [fillAV] at h; subst h; rfl
      | cons q ps ih =>
        intro l m h
        obtain ⟨i, v⟩ := q
        simp only [fillAV] at h
        split at h
        · cases h
        · rw [ih _ _ h, setL_length]
    rw [this ps _ _ hf, repl_length]
  obtain ⟨ds, h4, h5⟩ := fill_rel (qs := parts.toList.map fun x => (x.1, a.eval x.2)) (by simpa [Function.comp_def] using h1) (by simpa [Function.comp_def] using h2) h3 hzs hf
  refine ⟨ds, ?_, h5, hl⟩
  · have h4' : Instr.fill (fun i => some (i * sz, sz)) ((Array.range (n * sz)).map (fun i => zx.cells[i % zx.cells.size]!)) (parts.map fun x => (x.1, a.eval x.2)).toList = some ds := by
      rw [← h4]; simp
    simp only [execOp, hop, Instr.buildSlice, Sem.run_bind, run_underlying hu, Result.andThen, run_tySize hsz]
    rw [if_neg (by omega)]
    by_cases h0 : n * sz = 0
    · rw [if_pos h0]
      have h4'' : Instr.fill (fun i => some (i * sz, sz)) ((Array.range (n * sz)).map (fun i => (#[] : Array Value)[i % (#[] : Array Value).size]!)) (parts.map fun x => (x.1, a.eval x.2)).toList = some ds := by
        rw [← h4', h0]; simp [show Array.range 0 = #[] from rfl]
      simp only [Sem.run_bind, Sem.run_pure, Result.andThen]
      rw [h4'']
      simp only [Sem.run_bind, Result.andThen, newRow, run_newObj_alloc, Sem.run_pure]
    · rw [if_neg h0]
      simp only [Sem.run_bind, hzr, Sem.run_pure, Result.andThen]
      rw [h4']
      simp only [Sem.run_bind, Result.andThen, newRow, run_newObj_alloc, Sem.run_pure]
theorem sliceBlk_nf {zs vs : List AV} {n : Nat} : (sliceBlk zs n vs).isFam = false := by
  unfold sliceBlk
  split
  · split
    · rfl
    · split <;> rfl
  · rfl
theorem buildSlice_loud {s : St} {o : Oper} {t el : TypeId} {n sz : Nat} {parts : Array (Nat × Operand)} (hs : SRel A I P X g s a w) (hop : o.op = .buildSlice t n parts)
    (hx : ∀ t', .tmp t' ∈ o.op.operands.toList → ¬ X t') (hu : P.underlying t = some (.slice el)) {z : AV} (hz : zeroAV P el = some z) (hsz : tySize P el = some sz) {ps : List (Nat × AV)}
    (hps : evalParts s.tmps parts.toList = some ps) (hzl : z.cells.length = sz) (hb : n * sz ≤ 1000) {vs : List AV} (hf : fillAV (fun i => some (i * sz, sz)) (repl n z.cells) ps = some vs) :
    LoudRun A I P X g a w o (.slice s.nb (.lit 0) (.lit n) sz false) (newBlk s (sliceBlk z.cells n vs)) := by
  obtain ⟨ds, hrun, h5, hl⟩ := buildSlice_new (w := w) hs.t hop hx hu hz hsz hps hzl hb hf
  let p : PB := { blk := w.heap.size, base := 0, tot := n * sz }
  refine ⟨.slice (some ⟨w.heap.size, 0, none⟩) n n, w.alloc (.cells ds el), g.lay (some p), .inl hrun, g.lay_le _, rfl, ?_, ?_⟩
  · exact ⟨0, n, rfl, rfl, Int.le_refl _, by omega, .inl ⟨p, n, by rw [← hs.nb]; exact G.lay_new g (some p), by simp [p], by simp, by simp [p]⟩⟩
  · have hm := hs.m.alloc (M' := s.mem) (o := .cells ds el) (x := sliceBlk z.cells n vs) (p := p) (fun _ _ h => h) rfl
      (sliceBlk_brel (G.lay_new g (some p)) rfl (by rw [hzl]) (heap_alloc_new _ _) (h5.le (g.lay_le _) hs.m.wf) hl) sliceBlk_nf
    rw [hs.nb] at hm
    exact hs.lay hm
end Go.Sx
end
noncomputable section
namespace Go.Sx
open Go
variable {A : Amb} {I : Itp} {P : Program} {g : G} {X : Nat → Prop} {ts : Tmps} {a : Act} {M : Mem} {w : World}
def rowsVals (ks : List CK) (f : Int → Nat → Int) (n : Nat) : List Value :=
  (List.range (n * ks.length)).map fun q => ((ks[q % ks.length]?).map fun k => k.val (f ((q / ks.length : Nat) : Int) (q % ks.length))).getD Go.undef
theorem rowsVals_length (ks : List CK) (f : Int → Nat → Int) (n : Nat) : (rowsVals ks f n).length = n * ks.length := by simp [rowsVals]
theorem row_index {s r j n : Nat} (hj : j < s) (hr : r < n) : r * s + j < n * s := by
  have := Nat.mul_le_mul_right s (show r + 1 ≤ n from hr)
  rw [Nat.add_mul, Nat.one_mul] at this; omega
theorem rowsVals_get {ks : List CK} {f : Int → Nat → Int} {n r j : Nat} {k : CK} (hr : r < n) (hj : ks[j]? = some k) : (rowsVals ks f n)[r * ks.length + j]? = some (k.val (f r j)) := by
  have hjlt : j < ks.length := (List.getElem?_eq_some_iff.1 hj).1
  have hlt := row_index hjlt hr
  unfold rowsVals
  rw [List.getElem?_map, List.getElem?_range hlt, Option.map_some]
  have h1 : (r * ks.length + j) % ks.length = j := by rw [Nat.mul_comm, Nat.mul_add_mod, Nat.mod_eq_of_lt hjlt]
  have h2 : (r * ks.length + j) / ks.length = r := by
    rw [Nat.mul_comm, Nat.mul_add_div (by omega), Nat.div_eq_of_lt hjlt, Nat.add_zero]
  simp only [h1, h2, hj, Option.map_some, Option.getD_some]
theorem rowsVals_get' {ks : List CK} {f : Int → Nat → Int} {n q : Nat} {v : Value} (h : (rowsVals ks f n)[q]? = some v) :
    ∃ r j k, r < n ∧ ks[j]? = some k ∧ q = r * ks.length + j ∧ v = k.val (f r j) := by
  have hq : q < n * ks.length := by
    have := (List.getElem?_eq_some_iff.1 h).1
    rwa [rowsVals_length] at this
  have hs : 0 < ks.length := by
    rcases Nat.eq_zero_or_pos ks.length with h0 | h0
    · rw [h0] at hq; omega
    · exact h0
  have hj : q % ks.length < ks.length := Nat.mod_lt _ hs
  have hr : q / ks.length < n := Nat.div_lt_of_lt_mul (by rw [Nat.mul_comm]; exact hq)
  refine ⟨q / ks.length, q % ks.length, _, hr, List.getElem?_eq_getElem hj, by rw [Nat.mul_comm]; exact (Nat.div_add_mod q ks.length).symm, ?_⟩
  have := rowsVals_get (f := f) hr (List.getElem?_eq_getElem hj)
  rw [show q / ks.length * ks.length + q % ks.length = q by rw [Nat.mul_comm]; exact Nat.div_add_mod q ks.length, h] at this
  exact Option.some.inj this
theorem ck_one (k : CK) (n : Int) : (k.val n).oneCell' = true := by cases k <;> rfl
theorem rowsVals_one {ks : List CK} {f : Int → Nat → Int} {n : Nat} : ∀ v ∈ rowsVals ks f n, v.oneCell' = true := by
  intro v hv
  obtain ⟨q, hq, rfl⟩ := List.getElem_of_mem hv
  obtain ⟨r, j, k, _, _, _, h⟩ := rowsVals_get' (List.getElem?_eq_getElem hq)
  rw [h]; exact ck_one k _
theorem catRows_rel {ks : List CK} {n u : E} {N lo : Int} {fu : Int → Nat → Int} (hn : n.den I g.env = some (.i N)) (hu : u.den I g.env = some (.t fu)) :
    ∀ (m i : Nat) {t t' : E} {f : Int → Nat → Int}, catRows ks t n u lo i m = some t' → t.den I g.env = some (.t f) →
    ∃ f', t'.den I g.env = some (.t f') ∧ (∀ (r : Nat) (j : Nat) (k : CK), ks[j]? = some k → i ≤ r → r < i + m → k.val (f' (N + r) j) = k.val (fu (lo + r) j)) ∧
      (∀ (x : Int) (c : Nat), (x < N + i ∨ N + i + m ≤ x) → f' x c = f x c)
  | 0, i, t, t', f, h, ht => by
    simp [catRows] at h; subst h
    exact ⟨f, ht, fun r j _ h1 h2 => by omega, fun _ _ _ => rfl⟩
  | m + 1, i, t, t', f, h, ht => by
    simp only [catRows] at h
    split at h
    · rename_i vs hvs
      split at h
      · rename_i t1 ht1
        obtain ⟨hvl, xs, h1, h2⟩ := rowCells_rel (x := lo + (i : Int)) hu rfl ks.length 0 hvs
        obtain ⟨f1, h3, h4, h5, h6⟩ := updRow_rel (den_mkAdd hn (show (E.lit i).den I g.env = some (.i i) from rfl)) ht1 h1 (thick_den ht)
        obtain ⟨f', h7, h8, h9⟩ := catRows_rel hn hu m (i + 1) h h3
        refine ⟨f', h7, fun r j k hj hr1 hr2 => ?_, fun x c hx => ?_⟩
        · by_cases hri : r = i
          · subst hri
            rw [h9 _ _ (.inl (by omega))]
            have hjlt : j < ks.length := (List.getElem?_eq_some_iff.1 hj).1
            have hlt : j < xs.length := by rw [← h1.length, hvl]; exact hjlt
            obtain ⟨c1, h10, h11⟩ := h5 j _ (List.getElem?_eq_getElem hlt)
            obtain ⟨c2, h12, h13⟩ := h2 j _ (List.getElem?_eq_getElem hlt)
            rw [Nat.zero_add] at h10 h11 h12 h13
            rw [hj] at h10 h12
            cases h10; cases h12
            rw [← h11, h13]
          · exact h8 r j k hj (by omega) (by omega)
        · rw [h9 x c (by omega), h6 x c (.inl (by omega))]
      · cases h
    · cases h
theorem joinRows_rel {ks : List CK} {t n u m t' : E} {f fu : Int → Nat → Int} {N M lo : Int} (h : joinRows ks t n u lo m = some t') (ht : t.den I g.env = some (.t f)) (hu : u.den I g.env = some (.t fu))
    (hn : n.den I g.env = some (.i N)) (hm : m.den I g.env = some (.i M)) (hN : 0 ≤ N) :
    ∃ f', t'.den I g.env = some (.t f') ∧ (∀ (r : Int) (c : Nat), 0 ≤ r → r < N → f' r c = f r c) ∧
      (∀ (r j : Nat) (k : CK), ks[j]? = some k → (r : Int) < M → k.val (f' (N + r) j) = k.val (fu (lo + r) j)) := by
  unfold joinRows at h
  split at h
  · rename_i mm
    simp [E.den] at hn hm; subst hn; subst hm
    split at h
    · rename_i hlo
      simp at h; subst h; subst hlo
      exact ⟨fu, hu, fun r c h1 h2 => by omega, fun r j k _ _ => by simp⟩
    · split at h
      · rename_i hmm
        obtain ⟨f', h1, h2, h3⟩ := catRows_rel (N := 0) rfl hu mm.toNat 0 h (show (E.zt).den I g.env = some (.t fun _ _ => 0) from rfl)
        exact ⟨f', h1, fun r c _ h5 => by omega, fun r j k hj hr => h2 r j k hj (by omega) (by omega)⟩
      · cases h
  · split at h
    · rename_i hlo
      simp at h; subst h; subst hlo
      simp [E.den] at hn; subst hn
      exact ⟨fu, hu, fun r c h1 h2 => by omega, fun r j k _ _ => by simp⟩
    · cases h
  · rename_i mm _
    split at h
    · rename_i hmm
      simp [E.den] at hm; subst hm
      obtain ⟨f', h1, h2, h3⟩ := catRows_rel hn hu mm.toNat 0 h ht
      exact ⟨f', h1, fun r c _ h5 => h3 r c (.inl (by omega)), fun r j k hj hr => h2 r j k hj (by omega) (by omega)⟩
    · cases h
  · split at h
    · rename_i hlo
      simp at h; subst h; subst hlo
      refine ⟨tcat f N fu, by simp [E.den, ht, hu, hn], fun r c _ h2 => by simp [tcat, h2], fun r j k _ _ => ?_⟩
      simp only [tcat]
      rw [if_neg (by omega)]
      congr 2; omega
    · cases h
def Rows (w : World) (ks : List CK) (f : Int → Nat → Int) (n : Nat) (x : Value) : Prop :=
  ((∃ ad cp, x = .slice ad 0 cp) ∧ n = 0) ∨ ∃ blk off cap c T fr, x = .slice (some ⟨blk, off, none⟩) n cap ∧ n ≤ cap ∧ w.heap[blk]? = some (.cells c T fr) ∧
    ∀ (r j : Nat) (k : CK), r < n → ks[j]? = some k → c[off + r * ks.length + j]? = some (k.val (f r j))
theorem firstCells_none {ks : List CK} {f : Int → Nat → Int} {ad : Option Addr} {cp : Nat} : (Builtin.firstCells ks.length 0 (.slice ad 0 cp)).run P w = .ok (rowsVals ks f 0).toArray w := by
  have h0 : rowsVals ks f 0 = [] := by simp [rowsVals]
  rw [h0]
  cases ad with
  | none => simp [Builtin.firstCells]
  | some a =>
    have := run_loadCells_list (P := P) w a [] (fun q v hq => by simp at hq)
    simp only [Builtin.firstCells, Nat.zero_mul]
    simpa using this
theorem Rows.first {ks : List CK} {f : Int → Nat → Int} {n : Nat} {x : Value} (h : Rows w ks f n x) : (Builtin.lenOf x).run P w = .ok n w ∧ (Builtin.firstCells ks.length n x).run P w = .ok (rowsVals ks f n).toArray w := by
  rcases h with ⟨⟨ad, cp, rfl⟩, rfl⟩ | ⟨blk, off, cap, c, T, fr, rfl, _, hh, hc⟩
  · exact ⟨rfl, firstCells_none⟩
  · refine ⟨rfl, ?_⟩
    have h1 := run_loadCells_list (P := P) w ⟨blk, off, none⟩ (rowsVals ks f n) fun q v hq => by
      obtain ⟨r, j, k, hr, hj, rfl, rfl⟩ := rowsVals_get' hq
      rw [addr_add, cell_cells hh, ← Nat.add_assoc]
      exact hc r j k hr hj
    rw [rowsVals_length] at h1
    simp only [Builtin.firstCells, h1]
theorem srcRows_rel {sz : Nat} {ks : List CK} {y : AV} {u m : E} {lo : Int} {ps : List PE} {x : Value} (hm : MRel A I P g M w) (h : srcRows M sz ks y = some (u, lo, m, ps)) (hsz : sz = ks.length)
    (hp : ∀ q ∈ ps, q.den I g.env) (hy : Rel I g y x) :
    ∃ (fu : Int → Nat → Int) (mm : Nat), u.den I g.env = some (.t fu) ∧ m.den I g.env = some (.i mm) ∧ Rows w ks (fun r j => fu (lo + r) j) mm x := by
  subst hsz
  unfold srcRows at h
  split at h
  · simp at h
    obtain ⟨rfl, rfl, rfl, rfl⟩ := h
    simp only [Rel] at hy
    exact ⟨_, 0, rfl, rfl, .inl ⟨⟨_, _, hy⟩, rfl⟩⟩
  · simp at h
    obtain ⟨rfl, rfl, rfl, rfl⟩ := h
    obtain ⟨ad, hy⟩ := hy
    exact ⟨_, 0, rfl, rfl, .inl ⟨⟨_, _, hy⟩, rfl⟩⟩
  · simp at h
    obtain ⟨rfl, rfl, rfl, rfl⟩ := h
    obtain ⟨ad, hy⟩ := hy
    exact ⟨_, 0, rfl, rfl, .inl ⟨⟨_, _, hy⟩, rfl⟩⟩
  · simp at h
    obtain ⟨rfl, rfl, rfl, rfl⟩ := h
    obtain ⟨ad, cp, hy⟩ := hy
    exact ⟨_, 0, rfl, rfl, .inl ⟨⟨_, _, hy⟩, rfl⟩⟩
  · rename_i b lo0 m' s2 nl
    split at h
    · rename_i ks2 u' m2 wr nl2 hb
      split at h
      · rename_i hc
        obtain ⟨rfl, rfl⟩ := hc
        obtain ⟨f, n2, hf, hn2, hn0, hrow⟩ := hm.blk _ _ hb
        obtain ⟨l, n, h1, h2, h3, h4, h5⟩ := hy
        simp [E.den] at h1; subst h1
        -- the rows are there
        have fin : ∀ {lo1 : Int}, lo1 = lo0 → (n = 0 ∨ lo0.toNat + n.toNat ≤ n2.toNat) →
            ∃ (fu : Int → Nat → Int) (mm : Nat), u'.den I g.env = some (.t fu) ∧ m'.den I g.env = some (.i mm) ∧ Rows w ks (fun r j => fu (lo1 + r) j) mm x := by
          intro lo1 hlo1 hle
          subst hlo1
          refine ⟨f, n.toNat, hf, by rw [h2, Int.toNat_of_nonneg h4], ?_⟩
          rcases h5 with ⟨p, cap, h6, h7, h8, h9⟩ | ⟨_, h6, ad, h7⟩
          · by_cases hn00 : n = 0
            · subst hn00; exact .inl ⟨⟨_, _, h7⟩, rfl⟩
            rcases hrow with ⟨p', c, T, fr, hp', hh, hcs, _⟩ | ⟨_, hz, _⟩
            · rw [h6] at hp'; cases hp'
              refine .inr ⟨p.blk, p.base + lo1.toNat * ks.length, cap, c, T, fr, h7, h8, hh, fun r j k hr hj => ?_⟩
              have := hcs (lo1.toNat + r) j k (by omega) hj
              rw [Nat.add_mul, ← Nat.add_assoc] at this
              rw [this]
              congr 3; omega
            · omega
          · subst h6; exact .inl ⟨⟨_, _, h7⟩, rfl⟩
        split at h
        · rename_i hlo
          simp at h
          obtain ⟨rfl, rfl, rfl, rfl⟩ := h
          refine fin hlo.symm (.inr ?_)
          have hle : n ≤ n2 := by
            by_cases he : m' = m2
            · subst he; rw [h2] at hn2; simp at hn2; omega
            · rw [if_neg he] at hp
              exact le_den h2 hn2 (hp _ (List.mem_singleton.2 rfl))
          omega
        · split at h
          · rename_i mm
            split at h
            · rename_i hc
              simp at h
              obtain ⟨rfl, rfl, rfl, rfl⟩ := h
              refine fin rfl (.inr ?_)
              have e : n = mm := by simp [E.den] at h2; exact h2.symm
              subst e
              have hle := le_den (show (E.lit (lo0 + n)).den I g.env = some (.i (lo0 + n)) from rfl) hn2 (hp _ (List.mem_singleton.2 rfl))
              omega
            · cases h
          · simp at h
            obtain ⟨rfl, rfl, rfl, rfl⟩ := h
            have hle := le_den (den_mkAdd (show (E.lit lo0).den I g.env = some (.i lo0) from rfl) h2) hn2 (hp _ (List.mem_singleton.2 rfl))
            obtain ⟨fu, mm, k1, k2, k3⟩ := fin rfl (.inr (by omega))
            rw [hf] at k1; cases k1
            refine ⟨fun r c => f (r + lo0) c, mm, by simp [E.den, hf], k2, ?_⟩
            have e : (fun r j => f (lo0 + r) j) = fun (r : Int) (j : Nat) => f (0 + r + lo0) j := by funext r j; congr 1; omega
            rw [e] at k3; exact k3
      · cases h
    · cases h
  · rename_i b loE m' s2 nl _
    split at h
    · rename_i ks2 u' m2 wr nl2 hb
      split at h
      · rename_i hc
        obtain ⟨rfl, rfl⟩ := hc
        simp at h
        obtain ⟨rfl, rfl, rfl, rfl⟩ := h
        obtain ⟨f, n2, hf, hn2, hn0, hrow⟩ := hm.blk _ _ hb
        obtain ⟨l, n, h1, h2, h3, h4, h5⟩ := hy
        have hle := le_den (den_mkAdd h1 h2) hn2 (hp _ (List.mem_singleton.2 rfl))
        refine ⟨fun r c => f (r + l) c, n.toNat, by simp [E.den, hf, h1], by rw [h2, Int.toNat_of_nonneg h4], ?_⟩
        rcases h5 with ⟨p, cap, h6, h7, h8, h9⟩ | ⟨_, h6, ad, h7⟩
        · by_cases hn00 : n = 0
          · subst hn00; exact .inl ⟨⟨_, _, h7⟩, rfl⟩
          rcases hrow with ⟨p', c, T, fr, hp', hh, hcs, _⟩ | ⟨_, hz, _⟩
          · rw [h6] at hp'; cases hp'
            refine .inr ⟨p.blk, p.base + l.toNat * ks.length, cap, c, T, fr, h7, h8, hh, fun r j k hr hj => ?_⟩
            have := hcs (l.toNat + r) j k (by omega) hj
            rw [Nat.add_mul, ← Nat.add_assoc] at this
            rw [this]
            congr 3; omega
          · omega
        · subst h6; exact .inl ⟨⟨_, _, h7⟩, rfl⟩
      · cases h
    · cases h
  · cases h
inductive Dst (I : Itp) (P : Program) (g : G) (M : Mem) (w : World) (ks : List CK) (y : AV) (f : Int → Nat → Int) (N : Nat) (nl : Bool) : Option Nat → Value → Prop
  | nil (bo : Option Nat) (base : Option Addr) : N = 0 → nl = true → Dst I P g M w ks y f N nl bo (.slice base 0 0)
  | row (b : Nat) (p : PB) (c : Array Value) (T : TypeId) (cap : Nat) (blk : Blk) (fr : Nat × Nat) : get M b = some blk → blk.wr = true → g.φ b = some p → N ≤ cap → cap * ks.length ≤ p.tot → w.heap[p.blk]? = some (.cells c T fr) → Free fr c.size →
      (∀ (r j : Nat) (k : CK), r < N → ks[j]? = some k → c[p.base + r * ks.length + j]? = some (k.val (f r j))) → p.base + p.tot ≤ c.size → y.other b = true →
      Dst I P g M w ks y f N nl (some b) (.slice (some ⟨p.blk, p.base, none⟩) N cap)
theorem dstRows_rel {sz : Nat} {ks : List CK} {x y : AV} {t n : E} {nl : Bool} {bo : Option Nat} {ps : List PE} {v : Value} (hm : MRel A I P g M w) (h : dstRows M sz ks x y = some (bo, t, n, nl, ps)) (hsz : sz = ks.length)
    (hp : ∀ q ∈ ps, q.den I g.env) (hx : Rel I g x v) : ∃ (f : Int → Nat → Int) (N : Nat), t.den I g.env = some (.t f) ∧ n.den I g.env = some (.i N) ∧ Dst I P g M w ks y f N nl bo v := by
  subst hsz
  unfold dstRows at h
  split at h
  · simp at h
    obtain ⟨rfl, rfl, rfl, rfl, rfl⟩ := h
    simp only [Rel] at hx
    subst hx
    exact ⟨_, 0, rfl, rfl, .nil _ _ rfl rfl⟩
  · simp at h
    obtain ⟨rfl, rfl, rfl, rfl, rfl⟩ := h
    obtain ⟨ad, rfl⟩ := hx
    exact ⟨_, 0, rfl, rfl, .nil _ _ rfl rfl⟩
  · simp at h
    obtain ⟨rfl, rfl, rfl, rfl, rfl⟩ := h
    obtain ⟨ad, rfl⟩ := hx
    exact ⟨_, 0, rfl, rfl, .nil _ _ rfl rfl⟩
  · rename_i b n' s1 nl'
    split at h
    · rename_i ks1 t' n1 nl1 hb
      split at h
      · rename_i hc
        obtain ⟨rfl, rfl, hoth⟩ := hc
        simp at h
        obtain ⟨rfl, rfl, rfl, rfl, rfl⟩ := h
        obtain ⟨f, n2, hf, hn2, hn0, hrow⟩ := hm.blk _ _ hb
        obtain ⟨l, N, h1, h2, h3, h4, h5⟩ := hx
        simp [E.den] at h1; subst h1
        have hle : N ≤ n2 := by
          by_cases he : n' = n1
          · subst he; rw [h2] at hn2; simp at hn2; omega
          · rw [if_neg he] at hp
            exact le_den h2 hn2 (hp _ (List.mem_singleton.2 rfl))
        refine ⟨f, N.toNat, hf, by rw [h2, Int.toNat_of_nonneg h4], ?_⟩
        rcases h5 with ⟨p, cap, h6, h7, h8, h9⟩ | ⟨h6, h7, ad, h8⟩
        · rcases hrow with ⟨p', c, T, fr, hp', hh, hcs, hwr⟩ | ⟨_, _, hnone⟩
          · rw [h6] at hp'; cases hp'
            obtain ⟨hfr, hcsz, htot⟩ := hwr rfl
            have h7' : v = .slice (some ⟨p.blk, p.base, none⟩) N.toNat cap := by simpa using h7
            rw [h7']
            exact .row b p c T cap _ fr hb rfl h6 h8 (by simpa using h9) hh hfr (fun r j k hr hj => hcs r j k (by omega) hj) hcsz hoth
          · rw [h6] at hnone; cases hnone
        · subst h7; subst h8
          exact .nil _ _ rfl h6
      · cases h
    · cases h
  · cases h
section run
variable {t u ty el : TypeId} {d : TypeId} {ti : TypeInfo} {z : Value} {ks : List CK} {n m cap : Nat} {base : Option Addr} {y : Value}
theorem run_append_nothing (hn : n ≤ cap) (ht : P.underlying t = some (.slice el)) (hu : P.underlying u = some (.slice d)) (hi : P.info? el = some ti)
    (hy : (Builtin.lenOf y).run P w = .ok 0 w) (hf : (Builtin.firstCells ti.size 0 y).run P w = .ok #[] w) :
    (Builtin.append_ #[t, u] ty #[.slice base n cap, y]).run P w = .ok (.slice base n cap) w := by
  have hs : ∀ ad : Addr, (storeCells ad []).run P w = .ok () w := fun ad => rfl
  cases base <;> simp [hn, hs, Builtin.append_, run_underlying ht, run_underlying hu, sizeOf, typeInfo, hi, hy, hf, Result.andThen]
theorem run_append_in (ht : P.underlying t = some (.slice el)) (hu : P.underlying u = some (.slice d)) (hi : P.info? el = some ti) {w' : World} {ad : Addr} {new : Array Value}
    (hy : (Builtin.lenOf y).run P w = .ok m w) (hf : (Builtin.firstCells ti.size m y).run P w = .ok new w) (hle : n + m ≤ cap) (hst : (storeCells (ad.add (n * ti.size)) new.toList).run P w = .ok () w') :
    (Builtin.append_ #[t, u] ty #[.slice (some ad) n cap, y]).run P w = .ok (.slice (some ad) (n + m) cap) w' := by
  simp [Builtin.append_, run_underlying ht, run_underlying hu, sizeOf, typeInfo, hi, hy, hf, Result.andThen, hle, hst]
theorem run_append_grow (ht : P.underlying t = some (.slice el)) (hu : P.underlying u = some (.slice d)) (hi : P.info? el = some ti) (hz : ti.zero = some z) {old new : Array Value}
    (hy : (Builtin.lenOf y).run P w = .ok m w) (hf : (Builtin.firstCells ti.size m y).run P w.drew = .ok new w.drew) (hle : cap < n + m)
    (ho : (Builtin.firstCells ti.size n (.slice base n cap)).run P w.drew = .ok old w.drew) (hsb : (n + m) * ti.bytes ≤ 1000000000) (hb0 : ti.bytes ≠ 0) :
    ∃ nc, n + m ≤ nc ∧ (Builtin.append_ #[t, u] ty #[.slice base n cap, y]).run P w =
      .ok (.slice (some ⟨w.heap.size, 0, none⟩) (n + m) nc) (w.drew.alloc (.cells (old ++ new ++ Builtin.zeroCells z.cells (nc - (n + m))) el)) := by
  have hn1 : ¬ (n + m ≤ cap) := by omega
  have hgs := growslice_fits (need := n + m) (old := cap) (bytes := ti.bytes) hle (by omega)
  have hn3 : ¬ (Builtin.nextslicecap (n + m) cap * ti.bytes > 2 ^ 48) := by omega
  refine ⟨(Question.appendCap (n + m) cap el).cut (w.tape w.drawn (.appendCap (n + m) cap el)), by simp [Question.cut], ?_⟩
  simp [Builtin.append_, run_underlying ht, run_underlying hu, sizeOf, typeInfo, hi, hy, hf, Result.andThen, hn1, hb0, hn3, Question.forced, ho, zeroValue, hz, newRow]
end run
theorem append_loud {s : St} {o : Oper} {t u el d : TypeId} {x y : Operand} {v yv r : AV} {s1 : St} {ps : List PE} (hs : SRel A I P X g s a w)
    (hop : o.op = .call { callee := .builtin .append, args := #[x, y], argTypes := #[t, u] }) (ht : P.underlying t = some (.slice el)) (hu : P.underlying u = some (.slice d))
    (hx : Rel I g v (a.eval x)) (hy : Rel I g yv (a.eval y)) (h : appendTo P s el v yv = some (r, s1, ps)) (hp : ∀ q ∈ ps, q.den I g.env) :
    LoudRun A I P X g a w o r s1 := by
  unfold appendTo at h
  split at h
  case h_2 => cases h
  rename_i z sz bytes hz hsz hbytes
  split at h
  case h_2 => cases h
  rename_i ks hks
  split at h
  case isFalse => cases h
  rename_i hc
  obtain ⟨hszk, hk0, hb1, hb0⟩ := hc
  split at h
  case h_2 => cases h
  rename_i uE lo mE p1 bo tE nE nl p2 hsrc hdst
  split at h
  case h_2 => cases h
  rename_i t' hjoin
  simp at h
  obtain ⟨rfl, rfl, rfl⟩ := h
  obtain ⟨ti, zx, hi, hiz, hzr, hzrel⟩ := zeroAV_rel hz
  have htis : ti.size = ks.length := by simp [tySize, hi] at hsz; omega
  have htib : ti.bytes = bytes := by simpa [hi] using hbytes
  obtain ⟨fu0, m, hfu, hm, hrowsY⟩ := srcRows_rel hs.m hsrc hszk (fun q hq => hp q (by simp [hq])) hy
  obtain ⟨f, n, hf, hn, hdstx⟩ := dstRows_rel hs.m hdst hszk (fun q hq => hp q (by simp [hq])) hx
  have hnm := le_den (den_mkAdd hn hm) (show (E.lit 1000000).den I g.env = some (.i 1000000) from rfl) (hp _ (by simp))
  obtain ⟨f', hf', hold, hnew0⟩ := joinRows_rel hjoin hf hfu hn hm (by omega)
  obtain ⟨fu, hfu'⟩ : ∃ fu : Int → Nat → Int, fu = fun r j => fu0 (lo + r) j := ⟨_, rfl⟩
  rw [← hfu'] at hrowsY
  have hnew : ∀ (r j : Nat) (k : CK), ks[j]? = some k → (r : Int) < m → k.val (f' (n + r) j) = k.val (fu r j) := fun r j k h1 h2 => by rw [hfu']; exact hnew0 r j k h1 h2
  clear hnew0 hfu'
  have hN : ((n : Int) + (m : Int)) = ((n + m : Nat) : Int) := by omega
  have hlenY : (Builtin.lenOf (a.eval y)).run P w = .ok m w := (hrowsY.first (P := P)).1
  have hfY : ∀ w', w'.heap = w.heap → (Builtin.firstCells ti.size m (a.eval y)).run P w' = .ok (rowsVals ks fu m).toArray w' := fun w' hw' => by
    rw [htis]
    have : Rows w' ks fu m (a.eval y) := by unfold Rows at hrowsY ⊢; rw [hw']; exact hrowsY
    exact (this.first (P := P)).2
  -- what the rows are behind the append
  have hval : ∀ (c : Array Value) (base : Nat), (∀ (q : Nat) (k : CK) (j : Nat), q < n → ks[j]? = some k → c[base + q * ks.length + j]? = some (k.val (f q j))) →
      (∀ (q : Nat) (k : CK) (j : Nat), q < m → ks[j]? = some k → c[base + (n + q) * ks.length + j]? = some (k.val (fu q j))) →
      ∀ (q j : Nat) (k : CK), q < n + m → ks[j]? = some k → c[base + q * ks.length + j]? = some (k.val (f' q j)) := by
    intro c base h1 h2 q j k hq hj
    by_cases hqn : q < n
    · rw [h1 q k j hqn hj, hold q j (by omega) (by omega)]
    · have h3 := h2 (q - n) k j (by omega) hj
      rw [show n + (q - n) = q by omega] at h3
      have h4 := hnew (q - n) j k hj (by omega)
      rw [show ((n : Int) + ((q - n : Nat) : Int)) = (q : Int) by omega] at h4
      rw [h3, h4]
  have exec : ∀ {val : Value} {w' : World}, (Builtin.append_ #[t, u] o.type #[a.eval x, a.eval y]).run P w = .ok val w' → (execOp a.eval o).run P w = .ok (.value val) w' := by
    intro val w' hrun
    simp [execOp, hop, resolve, invoke, builtin, hrun, Result.andThen]
  -- a new array
  have grow : ∀ (cap : Nat) (base : Option Addr) (old : List Value), cap < n + m → a.eval x = .slice base n cap → (∀ (q : Nat) (k : CK) (j : Nat), q < n → ks[j]? = some k → old[q * ks.length + j]? = some (k.val (f q j))) →
      old.length = n * ks.length → (Builtin.firstCells ti.size n (.slice base n cap)).run P w.drew = .ok old.toArray w.drew →
      LoudRun A I P X g a w o (.slice s.nb (.lit 0) (mkAdd nE mE) sz (maybeNil nl mE))
        { s with mem := (s.nb, .rows ks t' (mkAdd nE mE) true (maybeNil nl mE)) :: dropBlk bo s.mem, nb := s.nb + 1 } := by
    intro cap base old hcap hex hold' hol hfo
    obtain ⟨nc, hnc, hrun⟩ := run_append_grow (t := t) (u := u) (ty := o.type) (base := base) ht hu hi hiz (new := (rowsVals ks fu m).toArray) hlenY
      (hfY w.drew rfl) hcap hfo (by have := Nat.mul_le_mul (show n + m ≤ 1000000 by omega) (show ti.bytes ≤ 1000 by omega); omega) (by omega)
    rw [← hex] at hrun
    let p : PB := { blk := w.heap.size, base := 0, tot := nc * ks.length }
    refine ⟨_, _, g.lay (some p), .inl (exec hrun), g.lay_le _, rfl, ?_, ?_⟩
    · exact ⟨0, ((n + m : Nat) : Int), rfl, by rw [← hN]; exact den_mkAdd hn hm, Int.le_refl _, by omega, .inl ⟨p, nc, by rw [← hs.nb]; exact G.lay_new g (some p), by simp [p]; omega, by simp; omega, by simp [p, hszk]⟩⟩
    · have hm1 := (hs.m.heap_eq (w' := w.drew) rfl).alloc (M' := dropBlk bo s.mem) (p := p)
        (o := .cells (old.toArray ++ (rowsVals ks fu m).toArray ++ Builtin.zeroCells zx.cells (nc - (n + m))) el)
        (x := .rows ks t' (mkAdd nE mE) true (maybeNil nl mE))
        (fun b z hz => by
          cases bo with
          | none => exact hz
          | some b0 =>
            simp only [dropBlk, get_del] at hz
            split at hz
            · cases hz
            · exact hz) rfl
        (rows_brel (n := n + m) (G.lay_new g (some p)) rfl (heap_alloc_new _ _) hf' (by rw [← hN]; exact den_mkAdd hn hm) (fun q j k hq hj => by
          have hjlt : j < ks.length := (List.getElem?_eq_some_iff.1 hj).1
          have := hval (old.toArray ++ (rowsVals ks fu m).toArray ++ Builtin.zeroCells zx.cells (nc - (n + m))) 0 (fun q k j hq hj => by
            have hjlt : j < ks.length := (List.getElem?_eq_some_iff.1 hj).1
            have hlt := row_index hjlt hq
            have := hold' q k j hq hj
            rw [Nat.zero_add, Array.getElem?_append_left (by simp; omega), Array.getElem?_append_left (by simp; omega)]
            simpa using this) (fun q k j hq hj => by
            have hjlt : j < ks.length := (List.getElem?_eq_some_iff.1 hj).1
            have hlt := row_index hjlt hq
            have := rowsVals_get (f := fu) hq hj
            rw [Nat.zero_add, Nat.add_mul, Array.getElem?_append_left (by simp [rowsVals_length]; omega), Array.getElem?_append_right (by simp; omega)]
            simp only [List.size_toArray, hol, List.getElem?_toArray]
            rw [← this]; congr 1; omega) q j k hq hj
          rw [Nat.zero_add] at this
          exact this) (by
          have hzs : zx.cells.size = ks.length := by
            have h1 := (hzrel I g).2.length
            have h2 := kindsOf_length hks
            simp at h1; omega
          simp [rowsVals_length, hol, size_zeroCells, hzs, p, ← Nat.add_mul]
          exact Nat.mul_le_mul_right _ (by omega)) (Nat.mul_le_mul_right _ hnc))
      rw [hs.nb] at hm1
      exact hs.lay hm1
  have hsubM : ∀ b z, get (dropBlk bo s.mem) b = some z → get s.mem b = some z := fun b z hz => by
    cases bo with
    | none => exact hz
    | some b0 =>
      simp only [dropBlk, get_del] at hz
      split at hz
      · cases hz
      · exact hz
  have hden : (mkAdd nE mE).den I g.env = some (.i ((n + m : Nat) : Int)) := by rw [← hN]; exact den_mkAdd hn hm
  generalize hex : a.eval x = xv at hdstx
  cases hdstx with
  | nil bo base hN0 hnl =>
    subst hN0
    by_cases hm0 : m = 0
    · subst hm0
      have hnl' : (maybeNil nl mE) = true := by
        rw [hnl]
        cases mE <;> simp [E.den] at hm <;> simp [maybeNil]
        omega
      rw [hnl']
      have hfY0 : (Builtin.firstCells ti.size 0 (a.eval y)).run P w = .ok #[] w := by
        have := hfY w rfl
        simpa [rowsVals] using this
      have hrun := run_append_nothing (t := t) (u := u) (ty := o.type) (n := 0) (cap := 0) (base := base) (Nat.le_refl _) ht hu hi hlenY hfY0
      rw [← hex] at hrun
      refine ⟨_, w, g.lay none, .inl (exec hrun), g.lay_le _, rfl, ?_, ?_⟩
      · rw [hex]
        exact ⟨0, 0, rfl, by simpa [G.lay] using hden, Int.le_refl _, Int.le_refl _, .inr ⟨rfl, rfl, base, rfl⟩⟩
      · have hm1 := hs.m.lay_none (x := .rows ks t' (mkAdd nE mE) true true) hsubM ⟨f', 0, hf', by simpa [G.lay] using hden, Int.le_refl _, .inr ⟨rfl, rfl, by simp⟩⟩
        rw [hs.nb] at hm1
        exact hs.lay hm1
    · exact grow 0 base [] (by omega) hex (fun q k j hq => by omega) (by simp) (by have := firstCells_none (P := P) (w := w.drew) (ks := ks) (f := f) (ad := base) (cp := 0); rw [htis]; simpa [rowsVals] using this)
  | row b p c T cap blk fr hb hwr hφ hnc hct hh hfr hcont hcs hoth =>
    by_cases hroom : n + m ≤ cap
    · have hfit : p.base + n * ks.length + (rowsVals ks fu m).length ≤ c.size := by
        rw [rowsVals_length, Nat.add_assoc, ← Nat.add_mul]
        have := Nat.mul_le_mul_right ks.length hroom
        omega
      have hst := run_storeCells_fr (P := P) p.blk (p.base + n * ks.length) T (rowsVals ks fu m) 0 c w hh hfr (by simpa using hfit) rowsVals_one
      have hst' : (storeCells ((⟨p.blk, p.base, none⟩ : Addr).add (n * ti.size)) (rowsVals ks fu m).toArray.toList).run P w = .ok () (w.setRow p.blk (c.toList.take (p.base + n * ks.length + 0) ++ rowsVals ks fu m ++ c.toList.drop (p.base + n * ks.length + 0 + (rowsVals ks fu m).length)).toArray) := by
        rw [htis, addr_add]; exact hst
      have hrun := run_append_in (t := t) (u := u) (ty := o.type) ht hu hi hlenY (hfY w rfl) hroom hst'
      rw [← hex] at hrun
      have hle := g.lay_le (some p)
      refine ⟨_, _, g.lay (some p), .inl (exec hrun), hle, rfl, ?_, ?_⟩
      · exact ⟨0, ((n + m : Nat) : Int), rfl, hden, Int.le_refl _, by omega, .inl ⟨p, cap, by rw [← hs.nb]; exact G.lay_new g (some p), by simp; omega, by simp; omega, by simp [hszk]; omega⟩⟩
      · generalize hcn : (c.toList.take (p.base + n * ks.length + 0) ++ rowsVals ks fu m ++ c.toList.drop (p.base + n * ks.length + 0 + (rowsVals ks fu m).length)).toArray = cn
        have hcg : ∀ q, cn[q]? = if p.base + n * ks.length ≤ q ∧ q < p.base + n * ks.length + (rowsVals ks fu m).length then (rowsVals ks fu m)[q - (p.base + n * ks.length)]? else c[q]? := fun q => by
          rw [← hcn, List.getElem?_toArray, Nat.add_zero, getElem_splice _ _ _ (by simpa using hfit)]
          simp
        have hcsz : cn.size = c.size := by
          rw [← hcn]; simp; omega
        have hbr : ∀ (g1 : G) (b1 : Nat), g1.φ b1 = some p → (∃ xs, g1.env = g.env ++ xs) → BRel I P g1 b1 (fun i => (w.setRow p.blk cn).heap[i]?) (.rows ks t' (mkAdd nE mE) true (maybeNil nl mE)) := by
          intro g1 b1 hb1 ⟨xs, hxs⟩
          refine ⟨f', ((n + m : Nat) : Int), by rw [hxs]; exact E.den_more hf', by rw [hxs]; exact E.den_more hden, by omega, .inl ⟨p, cn, T, fr, hb1, setRow_heap _ _ _ _ _ _ hh, fun q j k hq hj => ?_, fun _ => ⟨by rw [hcsz]; exact hfr, by omega, by rw [Int.toNat_natCast]; exact Nat.le_trans (Nat.mul_le_mul_right _ hroom) hct⟩⟩⟩
          refine hval cn p.base (fun q k j hq hj => ?_) (fun q k j hq hj => ?_) q j k (by simp at hq; omega) hj
          · have hlt := row_index (List.getElem?_eq_some_iff.1 hj).1 hq
            rw [hcg, if_neg (by omega)]
            exact hcont q j k hq hj
          · have hlt := row_index (List.getElem?_eq_some_iff.1 hj).1 hq
            rw [hcg, if_pos (by rw [rowsVals_length, Nat.add_mul]; omega), ← rowsVals_get (f := fu) hq hj]
            congr 1
            rw [Nat.add_mul]; omega
        have hm1 := hs.m.write (w' := w.setRow p.blk cn) hb hwr hφ (by simp) (fun i hi => setRow_other _ _ _ _ hi) (hbr g b hφ ⟨[], by simp⟩)
        have hm2 := hm1.rename (b := b) (x := .rows ks t' (mkAdd nE mE) true (maybeNil nl mE)) (y := .rows ks t' (mkAdd nE mE) true (maybeNil nl mE))
          (by rw [get_put, if_pos rfl]) hφ rfl (hbr _ _ (G.lay_new g (some p)) hle.env)
        have hm3 := hm2.sub (M' := (g.nb, .rows ks t' (mkAdd nE mE) true (maybeNil nl mE)) :: dropBlk (some b) s.mem) (fun c z hz => by
          simp only [get_cons] at hz ⊢
          split at hz
          · rename_i hc; rw [if_pos hc]; exact hz
          · rename_i hc
            rw [if_neg hc]
            simp only [dropBlk, get_del] at hz ⊢
            split at hz
            · cases hz
            · rename_i hbc
              rw [if_neg hbc, get_put, if_neg hbc]; exact hz)
        rw [hs.nb] at hm3
        exact hs.lay hm3
    · refine grow cap (some ⟨p.blk, p.base, none⟩) (rowsVals ks f n) (by omega) hex (fun q k j hq hj => rowsVals_get hq hj) (rowsVals_length _ _ _) ?_
      have hR : Rows w.drew ks f n (.slice (some ⟨p.blk, p.base, none⟩) n cap) := .inr ⟨p.blk, p.base, cap, c, T, fr, rfl, hnc, hh, hcont⟩
      rw [htis]
      exact (hR.first (P := P)).2
theorem makeSlice_new {o : Oper} {t el : TypeId} {lo co : Operand} {k1 k2 : IntKind} {x : Int} {sz bytes : Nat} {z : AV} {ks : List CK} (hop : o.op = .makeSlice t lo co)
    (hu : P.underlying t = some (.slice el)) (hl : Rel I g (.int k1 (.lit x)) (a.eval lo)) (hc : Rel I g (.int k2 (.lit x)) (a.eval co)) (hz : zeroAV P el = some z) (hsz : tySize P el = some sz)
    (hb : (P.info? el).map (·.bytes) = some bytes) (h0 : 0 ≤ x) (hx : x ≤ 70000) (hby : bytes ≤ 1000) (hzl : z.cells.length = sz) (hks : kindsOf z.cells = some ks) (haz : z.cells.all AV.isZero = true) :
    ∃ (cs : Array Value) (n : Nat), x = n ∧ (execOp a.eval o).run P w = .ok (.value (.slice (some ⟨w.heap.size, 0, none⟩) n n)) (w.alloc (.cells cs el)) ∧
      ∀ (g1 : G) (b : Nat), g1.φ b = some ⟨w.heap.size, 0, n * sz⟩ → BRel I P g1 b (fun i => (w.alloc (.cells cs el)).heap[i]?) (.rows ks .zt (.lit x) true false) := by
  obtain ⟨ti, zx, hi, hiz, hzr, hzrel⟩ := zeroAV_rel hz
  have htib : ti.bytes = bytes := by simpa [hi] using hb
  have htis : ti.size = sz := by simpa [tySize, hi] using hsz
  obtain ⟨n1, h1, h2⟩ := hl
  obtain ⟨n2, h3, h4⟩ := hc
  simp [E.den] at h1 h3
  subst h1; subst h3
  obtain ⟨n, rfl⟩ := Int.eq_ofNat_of_zero_le h0
  have hkl := kindsOf_length hks
  have hxs : zx.cells.size = sz := by rw [← hzl]; simpa using ((hzrel I g).2.length).symm
  let cs : Array Value := (Array.range (n * sz)).map (fun i => zx.cells[i % zx.cells.size]!)
  have hw1 : IntKind.i64.wrap (n : Int) = n := by simp [IntKind.wrap, IntKind.signed, IntKind.bits]; omega
  have hrun : (execOp a.eval o).run P w = .ok (.value (.slice (some ⟨w.heap.size, 0, none⟩) n n)) (w.alloc (.cells cs el)) := by
    have hbn : ¬ ((bytes : Int) * (n : Int) > 2 ^ 48) := by
      have : bytes * n ≤ 1000 * 70000 := Nat.mul_le_mul hby (by omega)
      have h' : ((bytes * n : Nat) : Int) ≤ 70000000 := by omega
      rw [Int.natCast_mul] at h'
      omega
    have hn0 : ¬ ((n : Int) < 0) := by omega
    simp only [execOp, hop, h2, h4, Instr.makeSlice, Sem.run_bind, run_underlying hu, Result.andThen, asInt, asIntOf, Sem.run_pure, run_typeInfo' hi, hw1, htib]
    by_cases hz0 : n * sz = 0
    · have hcs : cs = #[] := by simp [cs, hz0, show Array.range 0 = #[] from rfl]
      simp [hn0, run_tySize hsz, Result.andThen, hz0, newRow, hcs, show Array.range 0 = #[] from rfl]
      rw [if_neg (by omega)]
    · simp [hn0, run_tySize hsz, Result.andThen, hz0, newRow, hzr]
      rw [if_neg (by omega)]
  refine ⟨cs, n, rfl, hrun, fun g1 b hb1 => ?_⟩
  exact rows_brel (n := n) (f := fun _ _ => 0) hb1 rfl (heap_alloc_new _ _) rfl rfl (fun r j k hr hj => by
        have hjlt : j < ks.length := (List.getElem?_eq_some_iff.1 hj).1
        have hlt := row_index hjlt hr
        rw [hkl, hzl] at hlt
        have hv := allZero_rel (I := I) (g := g) hks haz (hzrel I g).2 j k hj
        have hv' : zx.cells[j]? = some (k.val 0) := by simpa using hv
        have hmod : (r * ks.length + j) % zx.cells.size = j := by
          rw [hxs, ← hzl, ← hkl, Nat.mul_comm, Nat.mul_add_mod, Nat.mod_eq_of_lt hjlt]
        have : cs[r * ks.length + j]? = some (zx.cells[(r * ks.length + j) % zx.cells.size]!) := by
          simp only [cs, Array.getElem?_map]
          rw [hkl, hzl]
          simp [hlt]
        rw [this, hmod, getElem!_def, hv']) (by simp [cs]) (by simp [hkl, hzl])
theorem makeSlice_loud {s : St} {o : Oper} {t el : TypeId} {lo co : Operand} {k1 k2 : IntKind} {x : Int} {sz bytes : Nat} {z : AV} {ks : List CK} (hs : SRel A I P X g s a w) (hop : o.op = .makeSlice t lo co)
    (hu : P.underlying t = some (.slice el)) (hl : Rel I g (.int k1 (.lit x)) (a.eval lo)) (hc : Rel I g (.int k2 (.lit x)) (a.eval co)) (hz : zeroAV P el = some z) (hsz : tySize P el = some sz)
    (hb : (P.info? el).map (·.bytes) = some bytes) (h0 : 0 ≤ x) (hx : x ≤ 70000) (hby : bytes ≤ 1000) (hzl : z.cells.length = sz) (hks : kindsOf z.cells = some ks) (haz : z.cells.all AV.isZero = true) :
    LoudRun A I P X g a w o (.slice s.nb (.lit 0) (.lit x) sz false) (newBlk s (.rows ks .zt (.lit x) true false)) := by
  obtain ⟨cs, n, rfl, hrun, hbr⟩ := makeSlice_new hop hu hl hc hz hsz hb h0 hx hby hzl hks haz
  let p : PB := { blk := w.heap.size, base := 0, tot := n * sz }
  refine ⟨_, _, g.lay (some p), .inl hrun, g.lay_le _, rfl, ?_, ?_⟩
  · exact ⟨0, n, rfl, rfl, Int.le_refl _, by omega, .inl ⟨p, n, by rw [← hs.nb]; exact G.lay_new g (some p), by simp [p], by simp, by simp [p]⟩⟩
  · have hm := hs.m.alloc (M' := s.mem) (o := .cells cs el) (p := p) (fun _ _ h => h) rfl (hbr _ _ (G.lay_new g (some p)))
    rw [hs.nb] at hm
    exact hs.lay hm
theorem makeSym_loud {s : St} {o : Oper} {t el : TypeId} {lo co : Operand} {k1 k2 : IntKind} {e e' : E} {v : AV} {s1 : St} {ps : List PE} (hs : SRel A I P X g s a w) (hop : o.op = .makeSlice t lo co)
    (hu : P.underlying t = some (.slice el)) (hl : Rel I g (.int k1 e) (a.eval lo)) (hc : Rel I g (.int k2 e') (a.eval co)) (h : makeSym P s el e e' = some (v, s1, ps)) (hp : ∀ q ∈ ps, q.den I g.env) :
    LoudRun A I P X g a w o v s1 := by
  unfold makeSym at h
  split at h
  · rename_i z sz bytes hz hsz hb
    split at h
    · rename_i ks hks
      split at h
      · rename_i hcond
        obtain ⟨rfl, hby, hzl, haz⟩ := hcond
        simp only [Option.some.injEq, Prod.mk.injEq] at h
        obtain ⟨rfl, rfl, rfl⟩ := h
        obtain ⟨x, hx, hlv⟩ := hl
        obtain ⟨x', hx', hcv⟩ := hc
        rw [hx] at hx'; cases hx'
        have key : ∀ {o : BO} {a b : E} {x y : Int}, (PE.tt (mkBin o a b)).den I g.env → a.den I g.env = some (.i x) → b.den I g.env = some (.i y) → o.ev x y ≠ 0 := fun h h1 h2 => by
          obtain ⟨q, hq, hq0⟩ := h
          rw [den_mkBin h1 h2] at hq
          cases hq; exact hq0
        have h0 : 0 ≤ x := by
          have := key (hp _ List.mem_cons_self) (show (E.lit 0).den I g.env = some (.i 0) from rfl) hx
          by_cases h : 0 ≤ x
          · exact h
          · simp [BO.ev, h] at this
        have h1 : x ≤ 70000 := by
          have := key (hp _ (List.mem_cons_of_mem _ List.mem_cons_self)) hx (show (E.lit 70000).den I g.env = some (.i 70000) from rfl)
          by_cases h : x ≤ 70000
          · exact h
          · simp [BO.ev, h] at this
        obtain ⟨cs, n, rfl, hrun, hbr⟩ := makeSlice_new (g := g) (I := I) (w := w) hop hu ⟨x, rfl, hlv⟩ ⟨x, rfl, hcv⟩ hz hsz hb h0 h1 hby hzl hks haz
        let p : PB := { blk := w.heap.size, base := 0, tot := n * sz }
        refine ⟨_, _, g.lay (some p), .inl hrun, g.lay_le _, rfl, ?_, ?_⟩
        · exact ⟨0, n, rfl, hx, Int.le_refl _, by omega, .inl ⟨p, n, by rw [← hs.nb]; exact G.lay_new g (some p), by simp [p], by simp, by simp [p]⟩⟩
        · obtain ⟨f, m, k1, k2, k3⟩ := hbr _ _ (G.lay_new g (some p))
          have hm := hs.m.alloc (M' := s.mem) (o := .cells cs el) (x := .rows ks .zt e true false) (p := p) (fun _ _ h => h) rfl ⟨f, m, k1, by cases k2; exact hx, k3⟩
          rw [hs.nb] at hm
          exact hs.lay hm
      · cases h
    · cases h
  · cases h
theorem makeCells_new {o : Oper} {t el : TypeId} {lo co : Operand} {k1 k2 : IntKind} {x : Int} {sz bytes : Nat} {z : AV} (hop : o.op = .makeSlice t lo co)
    (hu : P.underlying t = some (.slice el)) (hl : Rel I g (.int k1 (.lit x)) (a.eval lo)) (hc : Rel I g (.int k2 (.lit x)) (a.eval co)) (hz : zeroAV P el = some z) (hsz : tySize P el = some sz)
    (hb : (P.info? el).map (·.bytes) = some bytes) (h0 : 0 ≤ x) (hx : x ≤ 70000) (hby : bytes ≤ 1000) (hzl : z.cells.length = sz) :
    ∃ (cs : Array Value) (n : Nat), x = n ∧ (execOp a.eval o).run P w = .ok (.value (.slice (some ⟨w.heap.size, 0, none⟩) n n)) (w.alloc (.cells cs el)) ∧
      ∀ (g1 : G) (b : Nat), g1.φ b = some ⟨w.heap.size, 0, n * sz⟩ → BRel I P g1 b (fun i => (w.alloc (.cells cs el)).heap[i]?) (.cells (repl x.toNat z.cells) true) := by
  obtain ⟨ti, zx, hi, hiz, hzr, hzrel⟩ := zeroAV_rel hz
  have htib : ti.bytes = bytes := by simpa [hi] using hb
  have htis : ti.size = sz := by simpa [tySize, hi] using hsz
  obtain ⟨n1, h1, h2⟩ := hl
  obtain ⟨n2, h3, h4⟩ := hc
  simp [E.den] at h1 h3
  subst h1; subst h3
  obtain ⟨n, rfl⟩ := Int.eq_ofNat_of_zero_le h0
  have hxs : zx.cells.size = sz := by rw [← hzl]; simpa using ((hzrel I g).2.length).symm
  let cs : Array Value := (Array.range (n * sz)).map (fun i => zx.cells[i % zx.cells.size]!)
  have hw1 : IntKind.i64.wrap (n : Int) = n := by simp [IntKind.wrap, IntKind.signed, IntKind.bits]; omega
  have hrun : (execOp a.eval o).run P w = .ok (.value (.slice (some ⟨w.heap.size, 0, none⟩) n n)) (w.alloc (.cells cs el)) := by
    have hbn : ¬ ((bytes : Int) * (n : Int) > 2 ^ 48) := by
      have : bytes * n ≤ 1000 * 70000 := Nat.mul_le_mul hby (by omega)
      have h' : ((bytes * n : Nat) : Int) ≤ 70000000 := by omega
      rw [Int.natCast_mul] at h'
      omega
    have hn0 : ¬ ((n : Int) < 0) := by omega
    simp only [execOp, hop, h2, h4, Instr.makeSlice, Sem.run_bind, run_underlying hu, Result.andThen, asInt, asIntOf, Sem.run_pure, run_typeInfo' hi, hw1, htib]
    by_cases hz0 : n * sz = 0
    · have hcs : cs = #[] := by simp [cs, hz0, show Array.range 0 = #[] from rfl]
      simp [hn0, run_tySize hsz, Result.andThen, hz0, newRow, hcs, show Array.range 0 = #[] from rfl]
      rw [if_neg (by omega)]
    · simp [hn0, run_tySize hsz, Result.andThen, hz0, newRow, hzr]
      rw [if_neg (by omega)]
  refine ⟨cs, n, rfl, hrun, fun g1 b hb1 => ?_⟩
  exact cells_brel hb1 rfl (heap_alloc_new _ _) (zeros_rel (n := n) (hzrel I g1).2 hzl) rfl (by simp [cs])
theorem makeCells_loud {s : St} {o : Oper} {t el : TypeId} {lo co : Operand} {k1 k2 : IntKind} {x : Int} {sz bytes : Nat} {z : AV} (hs : SRel A I P X g s a w) (hop : o.op = .makeSlice t lo co)
    (hu : P.underlying t = some (.slice el)) (hl : Rel I g (.int k1 (.lit x)) (a.eval lo)) (hc : Rel I g (.int k2 (.lit x)) (a.eval co)) (hz : zeroAV P el = some z) (hsz : tySize P el = some sz)
    (hb : (P.info? el).map (·.bytes) = some bytes) (h0 : 0 ≤ x) (hx : x ≤ 70000) (hby : bytes ≤ 1000) (hzl : z.cells.length = sz) :
    LoudRun A I P X g a w o (.slice s.nb (.lit 0) (.lit x) sz false) (newBlk s (.cells (repl x.toNat z.cells) true)) := by
  obtain ⟨cs, n, rfl, hrun, hbr⟩ := makeCells_new hop hu hl hc hz hsz hb h0 hx hby hzl
  let p : PB := { blk := w.heap.size, base := 0, tot := n * sz }
  refine ⟨_, _, g.lay (some p), .inl hrun, g.lay_le _, rfl, ?_, ?_⟩
  · exact ⟨0, n, rfl, rfl, Int.le_refl _, by omega, .inl ⟨p, n, by rw [← hs.nb]; exact G.lay_new g (some p), by simp [p], by simp, by simp [p]⟩⟩
  · have hm := hs.m.alloc (M' := s.mem) (o := .cells cs el) (p := p) (fun _ _ h => h) rfl (hbr _ _ (G.lay_new g (some p)))
    rw [hs.nb] at hm
    exact hs.lay hm
end Go.Sx
end
namespace Go.Sx
open Go
variable {A : Amb} {I : Itp} {P : Program} {g : G} {X : Nat → Prop} {ts : Tmps} {a : Act} {M : Mem} {w : World}
theorem cells_src {p : PB} {c : Array Value} {T : TypeId} {fr : Nat × Nat} {l : List AV} {k len : Nat} (hh : w.heap[p.blk]? = some (.cells c T fr))
    (hcs : ∀ i v, l[i]? = some v → ∃ x, c[p.base + i]? = some x ∧ Rel I g v x) (hle : k + len ≤ l.length) :
    ∃ xs : List Value, Rels I g ((l.drop k).take len) xs ∧ xs.length = len ∧ (∀ q v, xs[q]? = some v → c[p.base + k + q]? = some v) ∧
      ∀ w' : World, w'.heap = w.heap → (loadCells ⟨p.blk, p.base + k, none⟩ len).run P w' = .ok xs.toArray w' := by
  have hget : ∀ q, q < len → ∃ x, c[p.base + k + q]? = some x ∧ ∀ v, l[k + q]? = some v → Rel I g v x := fun q hq => by
    obtain ⟨x, h1, h2⟩ := hcs (k + q) _ (List.getElem?_eq_getElem (by omega))
    refine ⟨x, by rw [← h1, Nat.add_assoc], fun v hv => ?_⟩
    rw [List.getElem?_eq_getElem (by omega)] at hv
    cases hv; exact h2
  have hx : ∀ q v, ((List.range len).map fun q => (c[p.base + k + q]?).getD Go.undef)[q]? = some v → c[p.base + k + q]? = some v := fun q v hq => by
    obtain ⟨h1, rfl⟩ := get_range_map hq
    obtain ⟨x, h2, _⟩ := hget q h1
    rw [h2]; rfl
  refine ⟨(List.range len).map fun q => (c[p.base + k + q]?).getD Go.undef, ?_, by simp, hx, fun w' hw' => ?_⟩
  · refine Rels.mk (by simp; omega) fun i v y h1 h2 => ?_
    have hi : i < len := by
      have := (List.getElem?_eq_some_iff.1 h2).1
      simpa using this
    obtain ⟨x, h3, h4⟩ := hget i hi
    rw [List.getElem?_take, if_pos hi, List.getElem?_drop] at h1
    have := hx i y h2
    rw [h3] at this; cases this
    exact h4 v h1
  · have := run_loadCells_list (P := P) w' ⟨p.blk, p.base + k, none⟩ ((List.range len).map fun q => (c[p.base + k + q]?).getD Go.undef) fun q v hq => by
      rw [addr_add, cell_cells (by rw [hw']; exact hh)]
      exact hx q v hq
    simpa using this
theorem firstCells_zero {sz : Nat} {ad : Option Addr} {cp : Nat} : (Builtin.firstCells sz 0 (.slice ad 0 cp)).run P w = .ok #[] w := by
  cases ad with
  | none => simp [Builtin.firstCells]
  | some a =>
    have := run_loadCells_list (P := P) w a [] (fun q v hq => by simp at hq)
    simp only [Builtin.firstCells, Nat.zero_mul]
    simpa using this
theorem srcCells_rel {sz : Nat} {y : AV} {u : List AV} {x : Value} (hm : MRel A I P g M w) (h : srcCells M sz y = some u) (hy : Rel I g y x) :
    ∃ (mm : Nat) (xs : List Value), Rels I g u xs ∧ xs.length = mm * sz ∧ (Builtin.lenOf x).run P w = .ok mm w ∧
      ∀ w' : World, w'.heap = w.heap → (Builtin.firstCells sz mm x).run P w' = .ok xs.toArray w' := by
  have nil : ∀ ad cp, x = .slice ad 0 cp → ∃ (mm : Nat) (xs : List Value), Rels I g [] xs ∧ xs.length = mm * sz ∧ (Builtin.lenOf x).run P w = .ok mm w ∧
      ∀ w' : World, w'.heap = w.heap → (Builtin.firstCells sz mm x).run P w' = .ok xs.toArray w' := by
    rintro ad cp rfl
    exact ⟨0, [], trivial, by simp, rfl, fun w' _ => firstCells_zero⟩
  unfold srcCells at h
  split at h
  · simp at h; subst h
    simp only [Rel] at hy
    exact nil _ _ hy
  · simp at h; subst h
    obtain ⟨ad, hy⟩ := hy
    exact nil _ _ hy
  · simp at h; subst h
    obtain ⟨ad, cp, hy⟩ := hy
    exact nil _ _ hy
  · rename_i b lo m s nl
    split at h
    · rename_i l wr hb
      split at h
      · rename_i hc
        simp at h; subst h
        obtain ⟨rfl, h1, h2, h3⟩ := hc
        obtain ⟨p, c, T, fr, hp, hh, hcs, _⟩ := hm.blk _ _ hb
        obtain ⟨l', n', h4, h5, h6, h7, h8⟩ := hy
        simp [E.den] at h4 h5; subst h4; subst h5
        rcases h8 with ⟨p', cap, h9, rfl, h10, h11⟩ | ⟨_, rfl, ad, rfl⟩
        · rw [hp] at h9; cases h9
          obtain ⟨xs, h12, h13, _, h14⟩ := cells_src (P := P) (k := lo.toNat * s) (len := m.toNat * s) hh hcs (by rw [← Nat.add_mul, ← Int.toNat_add h1 h2]; exact h3)
          exact ⟨m.toNat, xs, h12, h13, rfl, h14⟩
        · obtain ⟨mm, xs, h12, h13⟩ := nil _ _ rfl
          exact ⟨mm, xs, by simpa using h12, h13⟩
      · cases h
    · cases h
  · rename_i b k n s
    split at h
    · rename_i l wr hb
      split at h
      · rename_i hc
        simp at h; subst h
        obtain ⟨rfl, h3⟩ := hc
        obtain ⟨p, c, T, fr, hp, hh, hcs, _⟩ := hm.blk _ _ hb
        obtain ⟨p', cap, h9, h10, rfl⟩ := hy
        rw [hp] at h9; cases h9
        obtain ⟨xs, h12, h13, _, h14⟩ := cells_src (P := P) (k := k) (len := n * s) hh hcs h3
        exact ⟨n, xs, h12, h13, rfl, h14⟩
      · cases h
    · cases h
  · cases h
inductive DstC (I : Itp) (P : Program) (g : G) (M : Mem) (w : World) (sz : Nat) (l : List AV) (N : Nat) : Option Nat → Value → Prop
  | nil (bo : Option Nat) (base : Option Addr) : N = 0 → l = [] → DstC I P g M w sz l N bo (.slice base 0 0)
  | row (b : Nat) (p : PB) (c : Array Value) (T : TypeId) (cap : Nat) (blk : Blk) : get M b = some blk → blk.wr = true → g.φ b = some p → N ≤ cap → cap * sz ≤ p.tot → w.heap[p.blk]? = some (.cells c T (0, 0)) →
      l.length = N * sz → (∀ i v, l[i]? = some v → ∃ x, c[p.base + i]? = some x ∧ Rel I g v x) → p.base + p.tot ≤ c.size →
      DstC I P g M w sz l N (some b) (.slice (some ⟨p.blk, p.base, none⟩) N cap)
theorem dstCells_rel {sz : Nat} {x y : AV} {l : List AV} {n : Nat} {bo : Option Nat} {v : Value} (hm : MRel A I P g M w) (h : dstCells M sz x y = some (bo, l, n)) (hx : Rel I g x v) :
    DstC I P g M w sz l n bo v := by
  unfold dstCells at h
  split at h
  · simp at h
    obtain ⟨rfl, rfl, rfl⟩ := h
    simp only [Rel] at hx
    subst hx
    exact .nil _ _ rfl rfl
  · simp at h
    obtain ⟨rfl, rfl, rfl⟩ := h
    obtain ⟨ad, rfl⟩ := hx
    exact .nil _ _ rfl rfl
  · rename_i b n' s nl
    split at h
    · rename_i l0 hb
      split at h
      · rename_i hc
        obtain ⟨rfl, h1, h2, _⟩ := hc
        simp at h
        obtain ⟨rfl, rfl, rfl⟩ := h
        obtain ⟨p, c, T, fr, hp, hh, hcs, hwr⟩ := hm.blk _ _ hb
        obtain ⟨hfr, htot⟩ := hwr rfl
        subst hfr
        obtain ⟨l', N, h4, h5, h6, h7, h8⟩ := hx
        simp [E.den] at h4 h5; subst h4; subst h5
        rcases h8 with ⟨p', cap, h9, rfl, h10, h11⟩ | ⟨_, rfl, ad, rfl⟩
        · rw [hp] at h9; cases h9
          have := DstC.row (I := I) (P := P) (g := g) (M := M) (w := w) (sz := s) (l := l0.take (n'.toNat * s)) (N := n'.toNat) b p c T cap _ hb rfl hp h10 (by simpa using h11) hh
            (by simp; omega) (fun i v hv => by
              rw [List.getElem?_take] at hv
              split at hv
              · exact hcs i v hv
              · cases hv) htot
          simpa using this
        · exact .nil _ _ rfl (by simp)
      · cases h
    · cases h
  · cases h
theorem appendCells_loud {s : St} {o : Oper} {t u el d : TypeId} {x y : Operand} {v yv r : AV} {s1 : St} {ps : List PE} (hs : SRel A I P X g s a w)
    (hop : o.op = .call { callee := .builtin .append, args := #[x, y], argTypes := #[t, u] }) (ht : P.underlying t = some (.slice el)) (hu : P.underlying u = some (.slice d))
    (hx : Rel I g v (a.eval x)) (hy : Rel I g yv (a.eval y)) (h : appendCells P s el v yv = some (r, s1, ps)) :
    LoudRun A I P X g a w o r s1 := by
  unfold appendCells at h
  split at h
  case h_2 => cases h
  rename_i z sz bytes hz hsz hbytes
  split at h
  case isFalse => cases h
  rename_i hc
  obtain ⟨hb1, hb0, hsz0, hzl⟩ := hc
  split at h
  case h_2 => cases h
  rename_i uL bo lL n hsrc hdst
  obtain ⟨ti, zx, hi, hiz, hzr, hzrel⟩ := zeroAV_rel hz
  have htis : ti.size = sz := by simpa [tySize, hi] using hsz
  have htib : ti.bytes = bytes := by simpa [hi] using hbytes
  obtain ⟨m, xs, hxs, hxl, hlenY, hfY⟩ := srcCells_rel hs.m hsrc hy
  have hd := dstCells_rel hs.m hdst hx
  have hul : uL.length = m * sz := by rw [hxs.length, hxl]
  have exec : ∀ {val : Value} {w' : World}, (Builtin.append_ #[t, u] o.type #[a.eval x, a.eval y]).run P w = .ok val w' → (execOp a.eval o).run P w = .ok (.value val) w' := by
    intro val w' hrun
    simp [execOp, hop, resolve, invoke, builtin, hrun, Result.andThen]
  split at h
  · rename_i hemp
    simp at h
    obtain ⟨rfl, rfl, rfl⟩ := h
    have hu0 : uL = [] := by simpa using hemp
    have hm0 : m = 0 := by
      rw [hu0] at hul
      rcases Nat.mul_eq_zero.1 hul.symm with h0 | h0
      · exact h0
      · exact absurd h0 hsz0
    subst hm0
    have hxs0 : xs = [] := List.length_eq_zero_iff.1 (by rw [hxl]; simp)
    subst hxs0
    have hrun : (Builtin.append_ #[t, u] o.type #[a.eval x, a.eval y]).run P w = .ok (a.eval x) w := by
      have hf0 : (Builtin.firstCells ti.size 0 (a.eval y)).run P w = .ok #[] w := by rw [htis]; simpa using hfY w rfl
      generalize a.eval x = xv at hd
      cases hd with
      | nil bo base hN0 hl0 => exact run_append_nothing (n := 0) (cap := 0) (base := base) (Nat.le_refl _) ht hu hi hlenY hf0
      | row b p c T cap blk hb hwr hφ hnc hct hh hl hcont hcs => exact run_append_nothing hnc ht hu hi hlenY hf0
    exact ⟨_, w, g, .inl (exec hrun), G.Le.refl _, rfl, hx, hs⟩
  rename_i hne
  split at h
  case isFalse => cases h
  rename_i hc
  obtain ⟨hsm, hones⟩ := hc
  cases h
  have hdiv : uL.length / sz = m := by rw [hul, Nat.mul_div_cancel _ (by omega)]
  rw [hdiv] at hsm ⊢
  have hm0 : m ≠ 0 := by
    rintro rfl
    rw [Nat.zero_mul] at hul
    exact hne (by simp [List.length_eq_zero_iff.1 hul])
  have hval : ∀ (cs : Array Value) (base : Nat), (∀ i v, lL[i]? = some v → ∃ x, cs[base + i]? = some x ∧ Rel I g v x) → lL.length = n * sz → (∀ q v, xs[q]? = some v → cs[base + n * sz + q]? = some v) →
      ∀ i v, (lL ++ uL)[i]? = some v → ∃ x, cs[base + i]? = some x ∧ Rel I g v x := by
    intro cs base h1 h2 h3 i v hv
    by_cases hil : i < lL.length
    · rw [List.getElem?_append_left hil] at hv
      exact h1 i v hv
    · rw [List.getElem?_append_right (by omega)] at hv
      obtain ⟨x, h4, h5⟩ := hxs.get hv
      refine ⟨x, ?_, h5⟩
      rw [← h3 _ _ h4]
      congr 1; omega
  have hzs : zx.cells.size = sz := by
    have h1 := (hzrel I g).2.length
    simp at h1; omega
  -- a new array
  have grow : ∀ (cap : Nat) (base : Option Addr) (old : List Value), cap < n + m → a.eval x = .slice base n cap → Rels I g lL old →
      old.length = n * sz → (Builtin.firstCells ti.size n (.slice base n cap)).run P w.drew = .ok old.toArray w.drew →
      LoudRun A I P X g a w o (.slice s.nb (.lit 0) (.lit ((n + m : Nat) : Int)) sz false)
        { s with mem := (s.nb, .cells (lL ++ uL) true) :: dropBlk bo s.mem, nb := s.nb + 1 } := by
    intro cap base old hcap hex hold hol hfo
    obtain ⟨nc, hnc, hrun⟩ := run_append_grow (t := t) (u := u) (ty := o.type) (base := base) ht hu hi hiz (new := xs.toArray) hlenY
      (by rw [htis]; exact hfY w.drew rfl) hcap hfo (by have := Nat.mul_le_mul hsm hb1; rw [← htib] at this; omega) (by omega)
    rw [← hex] at hrun
    let p : PB := { blk := w.heap.size, base := 0, tot := nc * sz }
    refine ⟨_, _, g.lay (some p), .inl (exec hrun), g.lay_le _, rfl, ?_, ?_⟩
    · exact ⟨0, ((n + m : Nat) : Int), rfl, rfl, Int.le_refl _, by omega, .inl ⟨p, nc, by rw [← hs.nb]; exact G.lay_new g (some p), by simp [p]; omega, by simp; omega, by simp [p]⟩⟩
    · have hm1 := (hs.m.heap_eq (w' := w.drew) rfl).alloc (M' := dropBlk bo s.mem) (p := p)
        (o := .cells (old.toArray ++ xs.toArray ++ Builtin.zeroCells zx.cells (nc - (n + m))) el)
        (x := .cells (lL ++ uL) true)
        (fun b z hz => by
          cases bo with
          | none => exact hz
          | some b0 =>
            simp only [dropBlk, get_del] at hz
            split at hz
            · cases hz
            · exact hz) rfl
        ⟨p, _, el, (0, 0), G.lay_new g (some p), heap_alloc_new _ _, fun i v hv => by
          obtain ⟨x, h1, h2⟩ := hval (old.toArray ++ xs.toArray ++ Builtin.zeroCells zx.cells (nc - (n + m))) 0 (fun i v hv => by
            obtain ⟨x, h1, h2⟩ := hold.get hv
            have hlt := (List.getElem?_eq_some_iff.1 h1).1
            refine ⟨x, ?_, h2⟩
            rw [Nat.zero_add, Array.getElem?_append_left (by simp; omega), Array.getElem?_append_left (by simp; omega)]
            simpa using h1) (by rw [hold.length]; exact hol) (fun q v hq => by
            have hlt := (List.getElem?_eq_some_iff.1 hq).1
            rw [Nat.zero_add, Array.getElem?_append_left (by simp; omega), Array.getElem?_append_right (by simp; omega)]
            simp only [List.size_toArray, hol, List.getElem?_toArray]
            rw [← hq]; congr 1; omega) i v hv
          exact ⟨x, h1, h2.le (g.lay_le _) hs.m.wf⟩, fun _ => ⟨rfl, by
            simp [hxl, hol, size_zeroCells, hzs, p, ← Nat.add_mul]
            exact Nat.mul_le_mul_right _ (by omega)⟩⟩
      rw [hs.nb] at hm1
      exact hs.lay hm1
  generalize hex : a.eval x = xv at hd
  cases hd with
  | nil bo base hN0 hl0 =>
    subst hN0
    subst hl0
    exact grow 0 base [] (by omega) hex trivial (by simp) firstCells_zero
  | row b p c T cap blk hb hwr hφ hnc hct hh hl hcont hcs =>
    by_cases hroom : n + m ≤ cap
    · have hxones := ones_rel hxs hones
      have hfit : p.base + n * sz + xs.length ≤ c.size := by
        rw [hxl, Nat.add_assoc, ← Nat.add_mul]
        have := Nat.mul_le_mul_right sz hroom
        omega
      have hst := run_storeCells_at P p.blk (p.base + n * sz) T xs 0 c w hh (by simpa using hfit) hxones
      have hst' : (storeCells ((⟨p.blk, p.base, none⟩ : Addr).add (n * ti.size)) xs.toArray.toList).run P w = .ok () (w.setRow p.blk (c.toList.take (p.base + n * sz + 0) ++ xs ++ c.toList.drop (p.base + n * sz + 0 + xs.length)).toArray) := by
        rw [htis, addr_add]; exact hst
      have hrun := run_append_in (t := t) (u := u) (ty := o.type) ht hu hi hlenY (by rw [htis]; exact hfY w rfl) hroom hst'
      rw [← hex] at hrun
      have hle := g.lay_le (some p)
      refine ⟨_, _, g.lay (some p), .inl (exec hrun), hle, rfl, ?_, ?_⟩
      · exact ⟨0, ((n + m : Nat) : Int), rfl, rfl, Int.le_refl _, by omega, .inl ⟨p, cap, by rw [← hs.nb]; exact G.lay_new g (some p), by simp; omega, by simp; omega, by simp; omega⟩⟩
      · generalize hcn : (c.toList.take (p.base + n * sz + 0) ++ xs ++ c.toList.drop (p.base + n * sz + 0 + xs.length)).toArray = cn
        have hcg : ∀ q, cn[q]? = if p.base + n * sz ≤ q ∧ q < p.base + n * sz + xs.length then xs[q - (p.base + n * sz)]? else c[q]? := fun q => by
          rw [← hcn, List.getElem?_toArray, Nat.add_zero, getElem_splice _ _ _ (by simpa using hfit)]
          simp
        have hcsz : cn.size = c.size := by
          rw [← hcn]; simp; omega
        have hall : ∀ i v, (lL ++ uL)[i]? = some v → ∃ x, cn[p.base + i]? = some x ∧ Rel I g v x := hval cn p.base (fun i v hv => by
            have hlt := (List.getElem?_eq_some_iff.1 hv).1
            rw [hcg, if_neg (by omega)]
            exact hcont i v hv) hl (fun q v hq => by
            have hlt := (List.getElem?_eq_some_iff.1 hq).1
            rw [hcg, if_pos (by omega), ← hq]
            congr 1; omega)
        have hbr : ∀ (g1 : G) (b1 : Nat), g1.φ b1 = some p → g.Le g1 → BRel I P g1 b1 (fun i => (w.setRow p.blk cn).heap[i]?) (.cells (lL ++ uL) true) := by
          intro g1 b1 hb1 hle1
          exact ⟨p, cn, T, (0, 0), hb1, setRow_heap _ _ _ _ _ _ hh, fun i v hv => let ⟨x, h1, h2⟩ := hall i v hv; ⟨x, h1, h2.le hle1 hs.m.wf⟩, fun _ => ⟨rfl, by omega⟩⟩
        have hm1 := hs.m.write (w' := w.setRow p.blk cn) hb hwr hφ (by simp) (fun i hi => setRow_other _ _ _ _ hi) (hbr g b hφ (G.Le.refl _))
        have hm2 := hm1.rename (b := b) (x := .cells (lL ++ uL) true) (y := .cells (lL ++ uL) true)
          (by rw [get_put, if_pos rfl]) hφ rfl (hbr _ _ (G.lay_new g (some p)) hle)
        have hm3 := hm2.sub (M' := (g.nb, .cells (lL ++ uL) true) :: dropBlk (some b) s.mem) (fun c z hz => by
          simp only [get_cons] at hz ⊢
          split at hz
          · rename_i hc; rw [if_pos hc]; exact hz
          · rename_i hc
            rw [if_neg hc]
            simp only [dropBlk, get_del] at hz ⊢
            split at hz
            · cases hz
            · rename_i hbc
              rw [if_neg hbc, get_put, if_neg hbc]; exact hz)
        rw [hs.nb] at hm3
        exact hs.lay hm3
    · obtain ⟨xs0, h1, h2, _, h3⟩ := cells_src (P := P) (l := lL) (k := 0) (len := n * sz) hh hcont (by omega)
      refine grow cap (some ⟨p.blk, p.base, none⟩) xs0 (by omega) hex (by simpa [← hl] using h1) h2 ?_
      rw [htis]
      exact h3 w.drew rfl
section run
variable {t u ty el : TypeId} {k : IntKind} {kd : IntKind} {ti : TypeInfo} {z : Value} {n cap : Nat} {base : Option Addr} {y : Value}
theorem run_zeros_nothing (ht : P.underlying t = some (.slice el)) (hu : P.underlying u = some (.int k)) (hi : P.info? el = some ti) :
    (Builtin.append_ #[t, u] ty #[.slice base 0 0, .int kd 0]).run P w = .ok (.slice base 0 0) w := by
  have hs : ∀ ad : Addr, (storeCells ad []).run P w = .ok () w := fun ad => rfl
  have hw : IntKind.i64.wrap 0 = 0 := by decide
  cases base <;> simp [hs, Builtin.append_, run_underlying ht, run_underlying hu, sizeOf, typeInfo, hi, Result.andThen, asInt, asIntOf, hw]
theorem run_zeros_grow (ht : P.underlying t = some (.slice el)) (hu : P.underlying u = some (.int k)) (hi : P.info? el = some ti) (hz : ti.zero = some z) (hs0 : ti.size ≠ 0) (hn0 : n ≠ 0)
    (hsn : n ≤ 1000000) (hb : ti.bytes ≤ 1000) (hb0 : ti.bytes ≠ 0) :
    ∃ nc, n ≤ nc ∧ (Builtin.append_ #[t, u] ty #[.slice base 0 0, .int kd n]).run P w =
      .ok (.slice (some ⟨w.heap.size, 0, none⟩) n nc) (w.drew.alloc (.cells (Builtin.zeroCells z.cells n ++ Builtin.zeroCells z.cells (nc - n)) el)) := by
  have hsb := Nat.mul_le_mul hsn hb
  have hgs := growslice_fits (need := n) (old := 0) (bytes := ti.bytes) (by omega) (by omega)
  have hn3 : ¬ (Builtin.nextslicecap n 0 * ti.bytes > 2 ^ 48) := by omega
  have hw : IntKind.i64.wrap (n : Int) = n := by simp [IntKind.wrap, IntKind.signed, IntKind.bits]; omega
  have h1 : ¬ ((n : Int) < 0) := by omega
  have h2 : ¬ ((n : Int) * (ti.bytes : Int) > 2 ^ 48) := by rw [← Int.natCast_mul]; omega
  have h2' : ¬ (281474976710656 < (n : Int) * (ti.bytes : Int)) := h2
  have h3 : ¬ (9223372036854775807 < (n : Int)) := by omega
  have hfc : ∀ w', (Builtin.firstCells ti.size 0 (.slice base 0 0)).run P w' = .ok #[] w' := fun w' => firstCells_zero
  refine ⟨(Question.appendCap n 0 el).cut (w.tape w.drawn (.appendCap n 0 el)), by simp [Question.cut], ?_⟩
  simp [Builtin.append_, run_underlying ht, run_underlying hu, sizeOf, typeInfo, hi, Result.andThen, hn0, hn3, Question.forced, zeroValue, hz, newRow, asInt, asIntOf, hw, h1, h2', h3, hfc]
  rw [if_neg (by rw [Nat.mul_eq_zero]; omega)]
  rfl
end run
theorem appendZeros_loud {s : St} {o : Oper} {t u el : TypeId} {k kd : IntKind} {x y : Operand} {v r : AV} {e : E} {s1 : St} {ps : List PE} (hs : SRel A I P X g s a w)
    (hop : o.op = .call { callee := .builtin .append, args := #[x, y], argTypes := #[t, u] }) (ht : P.underlying t = some (.slice el)) (hu : P.underlying u = some (.int k))
    (hx : Rel I g v (a.eval x)) (hy : Rel I g (.int kd e) (a.eval y)) (h : appendZeros P s el v e = some (r, s1, ps)) (hp : ∀ q ∈ ps, q.den I g.env) :
    LoudRun A I P X g a w o r s1 := by
  have hbase : ∃ base, a.eval x = .slice base 0 0 := by
    unfold appendZeros at h
    split at h
    · simp only [Rel] at hx; exact ⟨_, hx⟩
    · obtain ⟨ad, hx⟩ := hx; exact ⟨_, hx⟩
    · cases h
  obtain ⟨base, hbase⟩ := hbase
  have h' : (match zeroAV P el, tySize P el, (P.info? el).map (·.bytes) with
    | some z, some sz, some bytes => match kindsOf z.cells with
      | some ks =>
        if sz = ks.length ∧ ks.length ≠ 0 ∧ bytes ≤ 1000 ∧ bytes ≠ 0 ∧ z.cells.all AV.isZero then
          some (AV.slice s.nb (.lit 0) e sz (maybeNil true e), { s with mem := (s.nb, Blk.rows ks .zt e true (maybeNil true e)) :: s.mem, nb := s.nb + 1 },
            [PE.tt (mkBin .le (.lit 0) e), .tt (mkBin .le e (.lit 1000000))])
        else none
      | none => none
    | _, _, _ => none) = some (r, s1, ps) := by
    unfold appendZeros at h
    split at h
    · exact h
    · exact h
    · cases h
  clear h
  split at h'
  case h_2 => cases h'
  rename_i z sz bytes hz hsz hbytes
  split at h'
  case h_2 => cases h'
  rename_i ks hks
  split at h'
  case isFalse => cases h'
  rename_i hc
  obtain ⟨hszk, hk0, hb1, hb0, haz⟩ := hc
  cases h'
  obtain ⟨ti, zx, hi, hiz, hzr, hzrel⟩ := zeroAV_rel hz
  have htis : ti.size = ks.length := by simp [tySize, hi] at hsz; omega
  have htib : ti.bytes = bytes := by simpa [hi] using hbytes
  obtain ⟨n0, he, hyv⟩ := hy
  have h0 : 0 ≤ n0 := le_den (show (E.lit 0).den I g.env = some (.i 0) from rfl) he (hp _ (by simp))
  have h1 : n0 ≤ 1000000 := le_den he (show (E.lit 1000000).den I g.env = some (.i 1000000) from rfl) (hp _ (by simp))
  obtain ⟨n, rfl⟩ := Int.eq_ofNat_of_zero_le h0
  have exec : ∀ {val : Value} {w' : World}, (Builtin.append_ #[t, u] o.type #[a.eval x, a.eval y]).run P w = .ok val w' → (execOp a.eval o).run P w = .ok (.value val) w' := by
    intro val w' hrun
    simp [execOp, hop, resolve, invoke, builtin, hrun, Result.andThen]
  by_cases hn0 : n = 0
  · subst hn0
    have hnl : maybeNil true e = true := by
      cases e <;> simp [E.den] at he <;> simp [maybeNil]
      omega
    rw [hnl]
    have hrun := run_zeros_nothing (P := P) (w := w) (t := t) (u := u) (ty := o.type) (base := base) (kd := kd) ht hu hi
    rw [show (Value.int kd 0) = a.eval y from hyv.symm, ← hbase] at hrun
    refine ⟨_, w, g.lay none, .inl (exec hrun), g.lay_le _, rfl, ?_, ?_⟩
    · exact ⟨0, 0, rfl, by simpa [G.lay] using he, Int.le_refl _, Int.le_refl _, .inr ⟨rfl, rfl, base, hbase⟩⟩
    · have hm1 := hs.m.lay_none (x := .rows ks .zt e true true) (fun b z hz => hz) ⟨fun _ _ => 0, 0, rfl, by simpa [G.lay] using he, Int.le_refl _, .inr ⟨rfl, rfl, by simp⟩⟩
      rw [hs.nb] at hm1
      exact hs.lay hm1
  · obtain ⟨nc, hnc, hrun⟩ := run_zeros_grow (P := P) (w := w) (t := t) (u := u) (ty := o.type) (base := base) (kd := kd) ht hu hi hiz (by omega) hn0 (by omega) (by omega) (by omega)
    rw [← hyv, ← hbase] at hrun
    let p : PB := { blk := w.heap.size, base := 0, tot := nc * ks.length }
    have hzs : zx.cells.size = ks.length := by
      have h1 := (hzrel I g).2.length
      have h2 := kindsOf_length hks
      simp at h1; omega
    have hzc : ∀ (N r j : Nat) (k : CK), r < N → ks[j]? = some k → (Builtin.zeroCells zx.cells N)[r * ks.length + j]? = some (k.val 0) := fun N r j k hr hj => by
      have hjlt : j < ks.length := (List.getElem?_eq_some_iff.1 hj).1
      have hlt := row_index hjlt hr
      have hv := allZero_rel (I := I) (g := g) hks haz (hzrel I g).2 j k hj
      have hv' : zx.cells[j]? = some (k.val 0) := by simpa using hv
      have hmod : (r * ks.length + j) % zx.cells.size = j := by
        rw [hzs, Nat.mul_comm, Nat.mul_add_mod, Nat.mod_eq_of_lt hjlt]
      have : (Builtin.zeroCells zx.cells N)[r * ks.length + j]? = some (zx.cells[(r * ks.length + j) % zx.cells.size]!) := by
        simp only [Builtin.zeroCells, Array.getElem?_map, hzs]
        simp [hlt]
      rw [this, hmod, getElem!_def, hv']
    refine ⟨_, _, g.lay (some p), .inl (exec hrun), g.lay_le _, rfl, ?_, ?_⟩
    · exact ⟨0, (n : Int), rfl, he, Int.le_refl _, by omega, .inl ⟨p, nc, by rw [← hs.nb]; exact G.lay_new g (some p), by simp [p], by simp; omega, by simp [p, hszk]⟩⟩
    · have hm1 := (hs.m.heap_eq (w' := w.drew) rfl).alloc (M' := s.mem) (p := p)
        (o := .cells (Builtin.zeroCells zx.cells n ++ Builtin.zeroCells zx.cells (nc - n)) el)
        (x := .rows ks .zt e true (maybeNil true e)) (fun b z hz => hz) rfl
        (rows_brel (n := n) (f := fun _ _ => 0) (G.lay_new g (some p)) rfl (heap_alloc_new _ _) rfl he (fun r j k hr hj => by
          have hjlt : j < ks.length := (List.getElem?_eq_some_iff.1 hj).1
          have hlt := row_index hjlt hr
          rw [Array.getElem?_append_left (by rw [size_zeroCells, hzs]; exact hlt)]
          exact hzc n r j k hr hj) (by
          simp [size_zeroCells, hzs, p, ← Nat.add_mul]
          exact Nat.mul_le_mul_right _ (by omega)) (Nat.mul_le_mul_right _ hnc))
      rw [hs.nb] at hm1
      exact hs.lay hm1
theorem appendZeroCells_loud {s : St} {o : Oper} {t u el : TypeId} {k kd : IntKind} {x y : Operand} {v r : AV} {e : E} {s1 : St} {ps : List PE} (hs : SRel A I P X g s a w)
    (hop : o.op = .call { callee := .builtin .append, args := #[x, y], argTypes := #[t, u] }) (ht : P.underlying t = some (.slice el)) (hu : P.underlying u = some (.int k))
    (hx : Rel I g v (a.eval x)) (hy : Rel I g (.int kd e) (a.eval y)) (h : appendZeroCells P s el v e = some (r, s1, ps)) :
    LoudRun A I P X g a w o r s1 := by
  unfold appendZeroCells at h
  split at h
  case h_2 => cases h
  rename_i c
  simp only [Rel] at hx
  split at h
  case h_2 => cases h
  rename_i z sz bytes hz hsz hbytes
  split at h
  case isFalse => cases h
  rename_i hc
  obtain ⟨hc1, hc2, hsz0, hzl, hb1, hb0⟩ := hc
  cases h
  obtain ⟨ti, zx, hi, hiz, hzr, hzrel⟩ := zeroAV_rel hz
  have htis : ti.size = sz := by simpa [tySize, hi] using hsz
  have htib : ti.bytes = bytes := by simpa [hi] using hbytes
  obtain ⟨n0, he, hyv⟩ := hy
  simp only [E.den, Option.some.injEq, D.i.injEq] at he
  subst he
  obtain ⟨n, rfl⟩ := Int.eq_ofNat_of_zero_le (show 0 ≤ c by omega)
  have exec : ∀ {val : Value} {w' : World}, (Builtin.append_ #[t, u] o.type #[a.eval x, a.eval y]).run P w = .ok val w' → (execOp a.eval o).run P w = .ok (.value val) w' := by
    intro val w' hrun
    simp [execOp, hop, resolve, invoke, builtin, hrun, Result.andThen]
  obtain ⟨nc, hnc, hrun⟩ := run_zeros_grow (P := P) (w := w) (t := t) (u := u) (ty := o.type) (base := none) (kd := kd) ht hu hi hiz (by omega) (show n ≠ 0 by omega) (by omega) (by omega) (by omega)
  rw [← hyv, ← hx] at hrun
  let p : PB := { blk := w.heap.size, base := 0, tot := nc * sz }
  have hzs : zx.cells.size = sz := by
    have h1 := (hzrel I g).2.length
    simp at h1; omega
  refine ⟨_, _, g.lay (some p), .inl (exec hrun), g.lay_le _, rfl, ?_, ?_⟩
  · exact ⟨0, (n : Int), rfl, rfl, Int.le_refl _, by omega, .inl ⟨p, nc, by rw [← hs.nb]; exact G.lay_new g (some p), by simp [p], by simp; omega, by simp [p]⟩⟩
  · have hm1 := (hs.m.heap_eq (w' := w.drew) rfl).alloc (M' := s.mem) (p := p)
      (o := .cells (Builtin.zeroCells zx.cells n ++ Builtin.zeroCells zx.cells (nc - n)) el)
      (x := .cells (repl (n : Int).toNat z.cells) true) (fun b z hz => hz) rfl
      ⟨p, _, el, (0, 0), G.lay_new g (some p), heap_alloc_new _ _, fun i v hv => by
        have hil : i < n * sz := by
          have := (List.getElem?_eq_some_iff.1 hv).1
          rw [repl_length, hzl] at this
          simpa using this
        rw [repl_get _ _ _ (by rw [hzl]; simpa using hil), hzl] at hv
        obtain ⟨y, h1, h2⟩ := (hzrel I (g.lay (some p))).2.get hv
        refine ⟨y, ?_, h2⟩
        rw [show p.base + i = i from Nat.zero_add i, Array.getElem?_append_left (by rw [size_zeroCells, hzs]; exact hil)]
        have h1' : zx.cells[i % sz]? = some y := by simpa using h1
        simp only [Builtin.zeroCells, Array.getElem?_map, hzs]
        simp [hil, getElem!_def, h1'], fun _ => ⟨rfl, by
        simp [size_zeroCells, hzs, p, ← Nat.add_mul]
        exact Nat.mul_le_mul_right _ (by omega)⟩⟩
    rw [hs.nb] at hm1
    exact hs.lay hm1
theorem storeCells_shift {q o : Nat} : ∀ (ys : List Value) (j i : Nat), storeCells ⟨q, o, none⟩ ys (j + i) = storeCells ⟨q, o + j, none⟩ ys i
  | [], _, _ => rfl
  | y :: ys, j, i => by
    simp only [storeCells, addr_add]
    rw [Nat.add_assoc j i 1, storeCells_shift ys j (i + 1), Nat.add_assoc o j i]
theorem storeCells_append {q o : Nat} {w' : World} {r : Result Unit} : ∀ (xs ys : List Value) (i : Nat) (w : World), (storeCells ⟨q, o, none⟩ xs i).run P w = .ok () w' → (storeCells ⟨q, o, none⟩ ys (i + xs.length)).run P w' = r →
    (storeCells ⟨q, o, none⟩ (xs ++ ys) i).run P w = r
  | [], ys, i, w, h, h2 => by
    simp [storeCells] at h
    subst h
    simpa using h2
  | x :: xs, ys, i, w, h, h2 => by
    simp only [storeCells, List.cons_append, Sem.run_bind] at h ⊢
    cases hs : (store ((⟨q, o, none⟩ : Addr).add i) x).run P w with
    | ok u w1 =>
      rw [hs] at h
      simp only [Result.andThen] at h ⊢
      exact storeCells_append xs ys (i + 1) w1 h (by rw [← h2]; congr 2; simp; omega)
    | halt e w1 => rw [hs] at h; simp [Result.andThen] at h
theorem zeroCells_succ {z : Array Value} (n : Nat) : (Builtin.zeroCells z (n + 1)).toList = (Builtin.zeroCells z n).toList ++ z.toList := by
  rcases Nat.eq_zero_or_pos z.size with h0 | h0
  · have : z = #[] := Array.eq_empty_of_size_eq_zero h0
    subst this
    simp [Builtin.zeroCells]
  · refine List.ext_getElem? fun i => ?_
    rw [List.getElem?_append]
    have hlen : ∀ m, (Builtin.zeroCells z m).toList.length = m * z.size := fun m => by simp [size_zeroCells]
    have hget : ∀ m i, i < m * z.size → (Builtin.zeroCells z m).toList[i]? = some z[i % z.size]! := fun m i hi => by
      simp [Builtin.zeroCells, hi]
    rw [hlen]
    by_cases hi : i < n * z.size
    · rw [if_pos hi, hget _ _ hi, hget _ _ (by rw [Nat.add_mul]; omega)]
    · rw [if_neg hi]
      by_cases hi2 : i < (n + 1) * z.size
      · rw [hget _ _ hi2]
        rw [Nat.add_mul, Nat.one_mul] at hi2
        have hlt : i - n * z.size < z.size := by omega
        have hmod : i % z.size = i - n * z.size := by
          conv => lhs; rw [show i = i - n * z.size + z.size * n by rw [Nat.mul_comm z.size]; omega]
          rw [Nat.add_mul_mod_self_left, Nat.mod_eq_of_lt hlt]
        rw [hmod, getElem!_pos z _ hlt]
        simp [hlt]
      · rw [List.getElem?_eq_none (by rw [hlen]; omega), List.getElem?_eq_none (by rw [Nat.add_mul] at hi2; simp; omega)]
theorem clearAt_rel {b k sz : Nat} {p : PB} {zs : List AV} {z : Array Value} (hφ : g.φ b = some p) (hv : Rels I g zs z.toList) (hzl : zs.length = sz) : ∀ (n : Nat) {M' : Mem} {ps : List PE}, MRel A I P g M w →
    clearAt M b k sz zs n = some (M', ps) → (∀ q ∈ ps, q.den I g.env) →
    ∃ w', (storeCells ⟨p.blk, p.base + k, none⟩ (Builtin.zeroCells z n).toList).run P w = .ok () w' ∧ MRel A I P g M' w'
  | 0, M', ps, hm, h, _ => by
    simp [clearAt] at h
    obtain ⟨rfl, rfl⟩ := h
    refine ⟨w, ?_, hm⟩
    simp [Builtin.zeroCells, storeCells]
  | n + 1, M', ps, hm, h, hp => by
    simp only [clearAt] at h
    split at h
    · rename_i M1 p1 h1
      cases h2 : storeAt M1 b (.lit 0) 0 (k + n * sz) zs with
      | none => simp [h2] at h
      | some q =>
        obtain ⟨M2, p2⟩ := q
        simp [h2] at h
        obtain ⟨rfl, rfl⟩ := h
        obtain ⟨w1, h3, h4⟩ := clearAt_rel hφ hv hzl n hm h1 (fun q hq => hp q (by simp [hq]))
        obtain ⟨w2, h5, h6⟩ := storeAt_rel h4 h2 (fun q hq => hp q (by simp [hq])) (show (E.lit 0).den I g.env = some (.i 0) from rfl) (Int.le_refl _) hφ hv
        refine ⟨w2, ?_, h6⟩
        rw [zeroCells_succ]
        refine storeCells_append _ _ 0 w h3 ?_
        have hz : z.size = sz := by have := hv.length; simp at this; omega
        have := storeCells_shift (q := p.blk) (o := p.base + k) z.toList (n * sz) 0
        simp only [Nat.add_zero] at this
        rw [Nat.zero_add, show (Builtin.zeroCells z n).toList.length = n * sz by simp [size_zeroCells, hz], this, ← h5]
        congr 3; simp; omega
    · cases h
theorem clear_loud {s : St} {o : Oper} {t el : TypeId} {x : Operand} {b k n z : Nat} {zv : AV} {M' : Mem} {ps : List PE} (hs : SRel A I P X g s a w)
    (hop : o.op = .call { callee := .builtin .clear, args := #[x], argTypes := #[t] }) (ht : P.underlying t = some (.slice el)) (hx : Rel I g (.asl b k n z) (a.eval x)) (hz : zeroAV P el = some zv)
    (hl : zv.cells.length = z) (h : clearAt s.mem b k z zv.cells n = some (M', ps)) (hp : ∀ q ∈ ps, q.den I g.env) :
    LoudRun A I P X g a w o (.tup []) { s with mem := M' } := by
  obtain ⟨ti, zx, hi, hiz, hzr, hzrel⟩ := zeroAV_rel hz
  obtain ⟨p, cap, h1, h2, h3⟩ := hx
  obtain ⟨w', h4, h5⟩ := clearAt_rel h1 (hzrel I g).2 hl n hs.m h hp
  refine ⟨.tuple #[], w', g, .inl ?_, .refl _, rfl, ⟨#[], rfl, trivial⟩, hs.mem h5⟩
  have hrun : (Builtin.clear_ #[t] o.type #[a.eval x]).run P w = .ok (.tuple #[]) w' := by
    rw [h3]
    by_cases hn : n = 0
    · subst hn
      simp [Builtin.zeroCells, storeCells] at h4
      subst h4
      simp [Builtin.clear_, run_underlying ht, Result.andThen]
    · simp [Builtin.clear_, run_underlying ht, Result.andThen, zeroValue, typeInfo, hi, hiz, hn, h4]
  simp [execOp, hop, resolve, invoke, builtin, hrun, Result.andThen]
end Go.Sx
namespace Go.Sx
open Go
variable {A : Amb} {I : Itp} {P : Program} {g : G} {X : Nat → Prop} {a : Act} {M : Mem} {w : World}
theorem rowsVals_succ {ks : List CK} {f : Int → Nat → Int} (n : Nat) {xs : List Value} (hl : xs.length = ks.length)
    (hx : ∀ j v, xs[j]? = some v → ∃ c : CK, ks[j]? = some c ∧ v = c.val (f n j)) : rowsVals ks f (n + 1) = rowsVals ks f n ++ xs := by
  refine List.ext_getElem? fun i => ?_
  rw [List.getElem?_append, rowsVals_length]
  split
  · rename_i hi
    have hs : 0 < ks.length := by
      rcases Nat.eq_zero_or_pos ks.length with h0 | h0
      · rw [h0] at hi; omega
      · exact h0
    have hj : i % ks.length < ks.length := Nat.mod_lt _ hs
    have hr : i / ks.length < n := Nat.div_lt_of_lt_mul (by rw [Nat.mul_comm]; exact hi)
    have he : i / ks.length * ks.length + i % ks.length = i := by rw [Nat.mul_comm]; exact Nat.div_add_mod i ks.length
    have h1 := rowsVals_get (f := f) (n := n + 1) (Nat.lt_succ_of_lt hr) (List.getElem?_eq_getElem hj)
    have h2 := rowsVals_get (f := f) (n := n) hr (List.getElem?_eq_getElem hj)
    rw [he] at h1 h2
    rw [h1, h2]
  · rename_i hi
    have hi' : n * ks.length ≤ i := Nat.le_of_not_lt hi
    rcases Nat.lt_or_ge (i - n * ks.length) ks.length with hj | hj
    · have h1 := rowsVals_get (f := f) (n := n + 1) (r := n) (Nat.lt_succ_self n) (List.getElem?_eq_getElem hj)
      rw [show n * ks.length + (i - n * ks.length) = i by omega] at h1
      rw [h1]
      obtain ⟨c, h2, h3⟩ := hx _ _ (List.getElem?_eq_getElem (by rw [hl]; exact hj))
      rw [List.getElem?_eq_getElem (by rw [hl]; exact hj), h3]
      rw [List.getElem?_eq_getElem hj] at h2
      cases h2
      rfl
    · rw [List.getElem?_eq_none (by rw [rowsVals_length, Nat.add_mul, Nat.one_mul]; omega), List.getElem?_eq_none (by omega)]
theorem copyRows_rel {b lo : Nat} {p : PB} {ks : List CK} {u : E} {l0 : Int} {fu : Int → Nat → Int} (hφ : g.φ b = some p) (hu : u.den I g.env = some (.t fu)) : ∀ (n : Nat) {M' : Mem} {ps : List PE}, MRel A I P g M w →
    copyRows M b lo ks u l0 n = some (M', ps) → (∀ q ∈ ps, q.den I g.env) →
    ∃ w', (storeCells ⟨p.blk, p.base + lo * ks.length, none⟩ (rowsVals ks (fun r j => fu (l0 + r) j) n)).run P w = .ok () w' ∧ MRel A I P g M' w'
  | 0, M', ps, hm, h, _ => by
    simp [copyRows] at h
    obtain ⟨rfl, rfl⟩ := h
    exact ⟨w, by simp [rowsVals, storeCells], hm⟩
  | n + 1, M', ps, hm, h, hp => by
    simp only [copyRows] at h
    split at h
    · rename_i M1 p1 vs h1 h0
      cases h2 : storeAt M1 b (.lit ((lo + n : Nat) : Int)) ks.length 0 vs with
      | none => rw [h2] at h; simp at h
      | some q =>
        obtain ⟨M2, p2⟩ := q
        rw [h2] at h
        simp at h
        obtain ⟨rfl, rfl⟩ := h
        obtain ⟨w1, h3, h4⟩ := copyRows_rel hφ hu n hm h1 (fun q hq => hp q (by simp [hq]))
        obtain ⟨hlen, xs, hxs, hx⟩ := rowCells_rel hu (show (E.lit (l0 + n)).den I g.env = some (.i (l0 + n)) from rfl) ks.length 0 h0
        obtain ⟨w2, h5, h6⟩ := storeAt_rel h4 h2 (fun q hq => hp q (by simp [hq])) (show (E.lit ((lo + n : Nat) : Int)).den I g.env = some (.i _) from rfl) (by omega) hφ hxs
        have hxl : xs.length = ks.length := by rw [← hxs.length, hlen]
        refine ⟨w2, ?_, h6⟩
        rw [rowsVals_succ n hxl (fun j v hv => by simpa using hx j v hv)]
        refine storeCells_append _ _ 0 w h3 ?_
        have := storeCells_shift (q := p.blk) (o := p.base + lo * ks.length) xs (n * ks.length) 0
        simp only [Nat.add_zero] at this
        have e : p.base + lo * ks.length + n * ks.length = p.base + (((lo + n : Nat) : Int)).toNat * ks.length + 0 := by rw [Int.toNat_natCast, Nat.add_mul]; omega
        rw [Nat.zero_add, rowsVals_length, this, e]
        exact h5
    · cases h
theorem copy_loud {s : St} {o : Oper} {t t' el : TypeId} {ks : List CK} {sz : Nat} {x y : Operand} {xv yv : AV} {n : Nat} {M' : Mem} {ps : List PE} (hs : SRel A I P X g s a w)
    (hop : o.op = .call { callee := .builtin .copy, args := #[x, y], argTypes := #[t, t'] }) (ht : P.underlying t = some (.slice el)) (hsz : tySize P el = some sz) (hks : sz = ks.length)
    (hx : Rel I g xv (a.eval x)) (hy : Rel I g yv (a.eval y)) (h : copyAV s.mem sz ks xv yv = some (n, M', ps)) (hp : ∀ q ∈ ps, q.den I g.env) :
    LoudRun A I P X g a w o (.int .i64 (.lit n)) { s with mem := M' } := by
  subst hks
  unfold copyAV at h
  split at h
  rotate_left
  · cases h
  rename_i b lo len z nl
  split at h
  rotate_left
  · cases h
  rename_i u l0 m p0 hsrc
  split at h
  rotate_left
  · cases h
  rename_i hc
  obtain ⟨rfl, hlo, hm0, hmn, hm1⟩ := hc
  cases hcp : copyRows s.mem b lo.toNat ks u l0 m.toNat with
  | none => rw [hcp] at h; simp at h
  | some q =>
    obtain ⟨M2, p2⟩ := q
    rw [hcp] at h
    simp at h
    obtain ⟨rfl, rfl, rfl⟩ := h
    obtain ⟨fu, mm, hu, hmm, hrows⟩ := srcRows_rel hs.m hsrc rfl (fun q hq => hp q (by simp [hq])) hy
    have hmm' : m = mm := by have := Option.some.inj hmm; exact D.i.inj this
    subst hmm'
    obtain ⟨l, ln, h1, h2, h3, h4, hsl⟩ := hx
    obtain rfl : lo = l := D.i.inj (Option.some.inj h1)
    obtain rfl : len = ln := D.i.inj (Option.some.inj h2)
    obtain ⟨w', h5, h6⟩ : ∃ w', (Builtin.copy_ #[t, t'] o.type #[a.eval x, a.eval y]).run P w = .ok (goInt mm) w' ∧ MRel A I P g M2 w' := by
      obtain ⟨ho, hf⟩ := Rows.first (P := P) hrows
      have hmin : Nat.min mm len.toNat = mm := Nat.min_eq_left (by omega)
      rcases hsl with ⟨p, cap, hφ, hxe, _, _⟩ | ⟨_, hn0, ad, hxe⟩
      · obtain ⟨w', h7, h8⟩ := copyRows_rel hφ hu mm hs.m (by simpa using hcp) (fun q hq => hp q (by simp [hq]))
        refine ⟨w', ?_, h8⟩
        rw [hxe]
        simp [Builtin.copy_, run_underlying ht, Result.andThen, ho, hmin, run_tySize hsz, hf, h7]
      · obtain rfl : mm = 0 := by omega
        simp [copyRows] at hcp
        obtain ⟨rfl, rfl⟩ := hcp
        refine ⟨w, ?_, hs.m⟩
        rw [hxe]
        cases ad <;> simp [Builtin.copy_, run_underlying ht, Result.andThen, ho, run_tySize hsz, hf, rowsVals, storeCells]
    refine ⟨_, w', g, .inl ?_, .refl _, rfl, ⟨_, rfl, rfl⟩, hs.mem h6⟩
    simp [execOp, hop, resolve, invoke, builtin, h5, Result.andThen, goInt]
end Go.Sx
noncomputable section
namespace Go.Sx
open Go
variable {A : Amb} {I : Itp} {P : Program} {g : G} {X : Nat → Prop} {ts : Tmps} {a : Act} {M : Mem} {w : World}
theorem sval_inj {n m : Int} (h : sval n = sval m) : n = m := by
  unfold sval at h
  simp only [Value.string.injEq, ByteArray.mk.injEq] at h
  exact sdec_inj (by simpa using congrArg Array.toList h)
open Classical in
theorem famGet_cons {e : MapEntry} {l : List MapEntry} {κ : Int} : famGet (e :: l) κ = if e.key = sval κ then some e.val else famGet l κ := by
  by_cases h : e.key = sval κ
  · rw [if_pos h]
    have h' : e.key = .string ⟨(sdec κ).toArray⟩ := h
    simp only [famGet]; rw [if_pos h']
  · rw [if_neg h]
    have h' : ¬ e.key = .string ⟨(sdec κ).toArray⟩ := h
    simp only [famGet]; rw [if_neg h']
open Classical in
theorem famGet_push {e : MapEntry} {κ : Int} (hk : e.key = sval κ) (κ' : Int) : ∀ {l : List MapEntry}, famGet l κ = none → famGet (l ++ [e]) κ' = if κ' = κ then some e.val else famGet l κ'
  | [], _ => by
    simp only [List.nil_append, famGet_cons, hk]
    by_cases h : κ' = κ
    · subst h; simp
    · rw [if_neg (fun h' => h (sval_inj h').symm), if_neg h]
  | e0 :: l, hn => by
    simp only [famGet_cons] at hn
    split at hn
    · cases hn
    · rename_i h0
      simp only [List.cons_append, famGet_cons, famGet_push hk κ' hn]
      by_cases h : κ' = κ
      · subst h; rw [if_neg h0]; simp
      · simp [h]
open Classical in
theorem famGet_set {v : Value} {e' : MapEntry} {κ : Int} (hk : e'.key = sval κ) (hv : e'.val = v) (κ' : Int) : ∀ {l : List MapEntry} {j : Nat} {e : MapEntry}, l[j]? = some e → e.key = sval κ →
    (∀ i, i < j → ∀ x, l[i]? = some x → x.key ≠ sval κ) → famGet (l.set j e') κ' = if κ' = κ then some v else famGet l κ'
  | [], j, e, h, _, _ => by simp at h
  | e0 :: l, 0, e, h, he, _ => by
    simp only [List.getElem?_cons_zero, Option.some.injEq] at h
    subst h
    simp only [List.set_cons_zero, famGet_cons, hk, he, hv]
    by_cases h : κ' = κ
    · subst h; simp
    · rw [if_neg (fun h' => h (sval_inj h').symm), if_neg h, if_neg (fun h' => h (sval_inj h').symm)]
  | e0 :: l, j + 1, e, h, he, hf => by
    have h0 := hf 0 (by omega) e0 rfl
    simp only [List.getElem?_cons_succ] at h
    simp only [List.set_cons_succ, famGet_cons, famGet_set hk hv κ' h he fun i hi x hx => hf (i + 1) (by omega) x (by simpa using hx)]
    by_cases h : κ' = κ
    · subst h; rw [if_neg h0]; simp
    · simp [h]
def famKeys : List MapEntry → List AV
  | [] => []
  | e :: l => (match e.key with
    | .string s => AV.str s.data.toList
    | _ => .any) :: famKeys l
theorem famKeys_rel : ∀ {l : List MapEntry}, (∀ e ∈ l, ∃ κ : Int, e.key = sval κ) → Rels I g (famKeys l) (l.map (·.key))
  | [], _ => trivial
  | e :: l, h => by
    obtain ⟨κ, hκ⟩ := h e (by simp)
    refine ⟨?_, famKeys_rel fun x hx => h x (by simp [hx])⟩
    simp only [hκ]
    exact ⟨_, rfl, rfl⟩
theorem famFind {kt : TypeId} (hu : P.underlying kt = some .string) (κ : Int) : ∀ {l : List MapEntry} (i : Nat), (∀ e ∈ l, ∃ κ : Int, e.key = sval κ) →
    (famGet l κ = none ∧ mapFind P kt (.str (sdec κ)) (famKeys l) i = some none) ∨
    ∃ (j : Nat) (e : MapEntry), l[j]? = some e ∧ e.key = sval κ ∧ famGet l κ = some e.val ∧ (∀ i, i < j → ∀ x, l[i]? = some x → x.key ≠ sval κ) ∧ mapFind P kt (.str (sdec κ)) (famKeys l) i = some (some (i + j))
  | [], i, _ => .inl ⟨rfl, rfl⟩
  | e :: l, i, h => by
    obtain ⟨κ', hκ⟩ := h e (by simp)
    have e1 : mapFind P kt (.str (sdec κ)) (famKeys (e :: l)) i = if sdec κ = sdec κ' then some (some i) else mapFind P kt (.str (sdec κ)) (famKeys l) (i + 1) := by
      simp only [famKeys, hκ, sval, mapFind, eqAV, hu]
      by_cases hs : sdec κ = sdec κ'
      · simp [hs]
      · simp [hs]
    by_cases hs : sdec κ = sdec κ'
    · have := sdec_inj hs
      subst this
      exact .inr ⟨0, e, rfl, hκ, by rw [famGet_cons, if_pos hκ], fun i hi => by omega, by rw [e1, if_pos rfl]; rfl⟩
    · have hne : e.key ≠ sval κ := by rw [hκ]; exact fun h' => hs (by rw [sval_inj h'])
      rw [e1, if_neg hs]
      rcases famFind hu κ (i + 1) (l := l) (fun x hx => h x (List.mem_cons_of_mem _ hx)) with ⟨h1, h2⟩ | ⟨j, x, h1, h2, h3, h4, h5⟩
      · exact .inl ⟨by rw [famGet_cons, if_neg hne]; exact h1, h2⟩
      · refine .inr ⟨j + 1, x, by simpa using h1, h2, by rw [famGet_cons, if_neg hne]; exact h3, fun i hi y hy => ?_, by rw [h5]; congr 2; omega⟩
        cases i with
        | zero => simp at hy; subst hy; exact hne
        | succ i => exact h4 i (by omega) y (by simpa using hy)
theorem famKey_run {kt : TypeId} (hu : P.underlying kt = some .string) (κ : Int) {l : List MapEntry} (h : ∀ e ∈ l, ∃ κ : Int, e.key = sval κ) :
    (famGet l κ = none ∧ (Instr.findKey kt (sval κ) l).run P w = .ok none w) ∨
    ∃ (j : Nat) (e : MapEntry), l[j]? = some e ∧ e.key = sval κ ∧ famGet l κ = some e.val ∧ (∀ i, i < j → ∀ x, l[i]? = some x → x.key ≠ sval κ) ∧ (Instr.findKey kt (sval κ) l).run P w = .ok (some (j, e.val)) w := by
  have I : Itp := ⟨fun _ _ _ _ _ => none, fun _ _ => False⟩
  have g : G := ⟨[], fun _ => none, 0⟩
  have hk : keyOk P kt (.str (sdec κ)) = true := by simp [keyOk, hu]
  have hx : Rel I g (.str (sdec κ)) (sval κ) := ⟨_, rfl, by simp⟩
  rcases famFind hu κ 0 h with ⟨h1, h2⟩ | ⟨j, e, h1, h2, h3, h4, h5⟩
  · exact .inl ⟨h1, findKey_run (w := w) hk hx h2 (famKeys_rel h)⟩
  · rw [Nat.zero_add] at h5
    obtain ⟨e', h6, h7⟩ := findKey_run (w := w) hk hx h5 (famKeys_rel h)
    rw [h1] at h6; cases h6
    exact .inr ⟨j, e, h1, h2, h3, h4, h7⟩
theorem MRel.famOpen {b : Nat} {ck : CK} {t c : E} {κ : Int} {pq : Option PB} {y : Blk} (h : MRel A I P g M w) (hb : get M b = some (.fam ck t none)) (hc : c.den I g.env = some (.i κ))
    (hy : BRel I P (g.lay pq) g.nb (fun i => w.heap[i]?) y) (hyf : y.isFam = false)
    (hpq : ∀ q, pq = some q → ∃ (p : PB) (es : Array MapEntry) (cc : Nat), g.φ b = some p ∧ w.heap[p.blk]? = some (.map es cc) ∧ famAt es.toList none κ q.blk) :
    MRel A I P (g.lay pq) ((g.nb, y) :: put b (.fam ck t (some c)) M) w := by
  have hle := g.lay_le pq
  have hlt := h.lt b _ hb
  have hold : ∀ d q, d ≠ g.nb → (g.lay pq).φ d = some q → g.φ d = some q := fun d q hd hq => by simpa [G.lay, hd] using hq
  have hnew : ∀ q, (g.lay pq).φ g.nb = some q → pq = some q := fun q hq => by simpa using hq
  have hcase : ∀ d z, get ((g.nb, y) :: put b (.fam ck t (some c)) M) d = some z → (d = g.nb ∧ z = y) ∨ (d ≠ g.nb ∧ d = b ∧ z = .fam ck t (some c)) ∨ (d ≠ g.nb ∧ d ≠ b ∧ get M d = some z) := fun d z hz => by
    simp only [get_cons] at hz
    by_cases hd : g.nb = d
    · rw [if_pos hd] at hz; cases hz; exact .inl ⟨hd.symm, rfl⟩
    · rw [if_neg hd, get_put] at hz
      split at hz
      · rename_i hbd; subst hbd; cases hz; exact .inr (.inl ⟨fun e => hd e.symm, rfl, rfl⟩)
      · rename_i hbd; exact .inr (.inr ⟨fun e => hd e.symm, fun e => hbd e.symm, hz⟩)
  have hkey : ∀ d z, d ≠ g.nb → get ((g.nb, y) :: put b (.fam ck t (some c)) M) d = some z → ∃ z', get M d = some z' ∧ (z.wr = true → z'.wr = true) := fun d z hd hz => by
    rcases hcase d z hz with ⟨h1, _⟩ | ⟨_, rfl, rfl⟩ | ⟨_, _, h1⟩
    · exact absurd h1 hd
    · exact ⟨_, hb, fun _ => rfl⟩
    · exact ⟨z, h1, id⟩
  -- the new block's object
  have hobj : ∀ q, pq = some q → FRef (fun i => w.heap[i]?) I g b (.fam ck t none) q.blk := fun q hq => by
    obtain ⟨p, es, cc, h1, h2, h3⟩ := hpq q hq
    exact ⟨p, es, cc, none, κ, h1, h2, trivial, h3⟩
  have hback : ∀ o, FRef (fun i => w.heap[i]?) I (g.lay pq) b (.fam ck t (some c)) o → FRef (fun i => w.heap[i]?) I g b (.fam ck t none) o ∧ ∀ q, pq = some q → q.blk ≠ o := fun o ho => by
    obtain ⟨p, es, cc, k, κ', h1, h2, h3, h4, off, n, cap, h5, h6⟩ := ho
    have hk : k = some κ := FamOp.fn h3 (show FamOp I (g.lay pq) (some c) (some κ) from E.den_le hle hc)
    subst hk
    have h1' := hold b p (by omega) h1
    refine ⟨⟨p, es, cc, none, κ', h1', h2, trivial, by simp, off, n, cap, h5, h6⟩, fun q hq e => ?_⟩
    obtain ⟨p', es', cc', k1, k2, k3⟩ := hpq q hq
    rw [h1'] at k1; cases k1
    have h2' : w.heap[p.blk]? = some (.map es cc) := h2
    rw [h2'] at k2; cases k2
    obtain ⟨p2, es2, cc2, f2, kk, l1, l2, l3, l4, l5⟩ := h.blk b _ hb
    rw [h1'] at l1; cases l1
    have l2' : w.heap[p.blk]? = some (.map es2 cc2) := l2
    rw [h2'] at l2'; cases l2'
    have : kk = none := FamOp.fn l4 trivial
    subst this
    have := l5.apart κ κ' o (by rw [← e]; exact k3) ⟨by simp, off, n, cap, h5, h6⟩
    subst this
    exact h4 rfl
  refine ⟨G.lay_wf h.wf _, fun d z hz => ?_, fun d z hz => ?_, fun d e z u q r hz hu hwz hq hr he => ?_, fun d q hq => ?_, fun d z q hz hwz hq => ?_, h.size, h.keep, h.same, fun d z o hz hr => ?_⟩
  · rcases hcase d z hz with ⟨rfl, rfl⟩ | ⟨_, rfl, rfl⟩ | ⟨_, _, hz'⟩
    · exact hy
    · obtain ⟨p, es, cc, f, k, h1, h2, h3, h4, h5⟩ := h.blk d _ hb
      have : k = none := FamOp.fn h4 trivial
      subst this
      refine ⟨p, es, cc, f, some κ, hle.some h.wf h1, h2, E.den_le hle h3, E.den_le hle hc, h5.key, fun κ' _ => h5.mem κ' (by simp), fun κ1 κ2 o k1 k2 => h5.apart κ1 κ2 o ⟨by simp, k1.2⟩ ⟨by simp, k2.2⟩⟩
    · exact (h.blk d z hz').le hle h.wf (h.lt d z hz')
  · by_cases hd : d = g.nb
    · subst hd; simp [G.lay]
    · obtain ⟨z', hz', _⟩ := hkey d z hd hz
      have := h.lt d z' hz'
      simp [G.lay]; omega
  · have key : ∀ d q r e u, d = g.nb → e ≠ g.nb → get ((g.nb, y) :: put b (.fam ck t (some c)) M) e = some u → (g.lay pq).φ d = some q → (g.lay pq).φ e = some r → q.blk = r.blk → d = e := fun d q r e u hd he hu hq hr hqr => by
      subst hd
      obtain ⟨u', hu', _⟩ := hkey e u he hu
      exact absurd hqr.symm ((h.fam b _ _ hb (hobj q (hnew q hq))).2.2.1 e u' r hu' (hold e r he hr))
    by_cases hd : d = g.nb
    · by_cases hee : e = g.nb
      · omega
      · exact key d q r e u hd hee hu hq hr he
    · by_cases hee : e = g.nb
      · exact (key e r q d z hee hd hz hr hq he.symm).symm
      · obtain ⟨z', hz', hwz'⟩ := hkey d z hd hz
        obtain ⟨u', hu', _⟩ := hkey e u hee hu
        exact h.inj d e z' u' q r hz' hu' (hwz' hwz) (hold d q hd hq) (hold e r hee hr) he
  · by_cases hd : d = g.nb
    · subst hd; exact (h.fam b _ _ hb (hobj q (hnew q hq))).2.1
    · exact h.bnd d q (hold d q hd hq)
  · by_cases hd : d = g.nb
    · subst hd; exact (h.fam b _ _ hb (hobj q (hnew q hq))).1
    · obtain ⟨z', hz', hwz'⟩ := hkey d z hd hz
      exact h.own d z' q hz' (hwz' hwz) (hold d q hd hq)
  · -- an object of a map of lists
    have hfor : ∀ d z o, get ((g.nb, y) :: put b (.fam ck t (some c)) M) d = some z → FRef (fun i => w.heap[i]?) I (g.lay pq) d z o → d ≠ g.nb ∧ ∃ z', get M d = some z' ∧ FRef (fun i => w.heap[i]?) I g d z' o ∧ ∀ q, pq = some q → q.blk ≠ o := fun d z o hz hr => by
      rcases hcase d z hz with ⟨rfl, rfl⟩ | ⟨hd, rfl, rfl⟩ | ⟨hd, hdb, hz'⟩
      · rw [hr.fam] at hyf; cases hyf
      · exact ⟨hd, _, hb, hback o hr⟩
      · have hr' := FRef.le hle (h.lt d z hz') (h.blk d z hz') (fun _ _ => rfl) hr
        refine ⟨hd, z, hz', hr', fun q hq e => ?_⟩
        have := hobj q hq
        rw [e] at this
        exact hdb ((h.fam b _ o hb this).2.2.2 d z hz' hr')
    obtain ⟨hd, z', hz', hr', hq'⟩ := hfor d z o hz hr
    obtain ⟨h1, h2, h3, h4⟩ := h.fam d z' o hz' hr'
    refine ⟨h1, h2, fun e u q hu hq => ?_, fun e u hu hre => ?_⟩
    · by_cases hee : e = g.nb
      · subst hee; exact hq' q (hnew q hq)
      · obtain ⟨u', hu', _⟩ := hkey e u hee hu
        exact h3 e u' q hu' (hold e q hee hq)
    · obtain ⟨_, u', hu', hre', _⟩ := hfor e u o hu hre
      exact h4 e u' hu' hre'
theorem MRel.famClose {w' : World} {b d : Nat} {ck : CK} {t t' c : E} {p : PB} {x : Blk} (h : MRel A I P g M w) (hb : get M b = some (.fam ck t (some c))) (hp : g.φ b = some p) (hd : get M d = some x) (hx : x.wr = true) (hdb : d ≠ b)
    (hsz : w'.heap.size = w.heap.size) (hoth : ∀ i, i ≠ p.blk → w'.heap[i]? = w.heap[i]?) (hy : BRel I P g b (fun i => w'.heap[i]?) (.fam ck t' none))
    (hR : ∀ o, FRef (fun i => w'.heap[i]?) I g b (.fam ck t' none) o → FRef (fun i => w.heap[i]?) I g b (.fam ck t (some c)) o ∨ ∃ q, g.φ d = some q ∧ q.blk = o)
    (ho : w'.os = w.os ∧ w'.output = w.output := by exact ⟨rfl, rfl⟩) : MRel A I P g (put b (.fam ck t' none) (del d M)) w' := by
  have hoth' : ∀ e z q, e ≠ b → get M e = some z → g.φ e = some q → w'.heap[q.blk]? = w.heap[q.blk]? := fun e z q he hz hq => hoth q.blk fun ee => he (h.inj b e _ z p q hb hz rfl hp hq ee.symm).symm
  have hcase : ∀ e z, get (put b (.fam ck t' none) (del d M)) e = some z → (e = b ∧ z = .fam ck t' none) ∨ (e ≠ b ∧ e ≠ d ∧ get M e = some z) := fun e z hz => by
    rw [get_put] at hz
    by_cases he : b = e
    · rw [if_pos he] at hz; cases hz; exact .inl ⟨he.symm, rfl⟩
    · rw [if_neg he, get_del] at hz
      split at hz
      · cases hz
      · rename_i hde; exact .inr ⟨fun e' => he e'.symm, fun e' => hde e'.symm, hz⟩
  have hkey : ∀ e z, get (put b (.fam ck t' none) (del d M)) e = some z → e ≠ d ∧ ∃ z', get M e = some z' ∧ (z.wr = true → z'.wr = true) := fun e z hz => by
    rcases hcase e z hz with ⟨rfl, rfl⟩ | ⟨_, h1, h2⟩
    · exact ⟨fun e' => hdb e'.symm, _, hb, fun _ => rfl⟩
    · exact ⟨h1, z, h2, id⟩
  have hfor : ∀ e z o, get (put b (.fam ck t' none) (del d M)) e = some z → FRef (fun i => w'.heap[i]?) I g e z o → (∃ z', get M e = some z' ∧ FRef (fun i => w.heap[i]?) I g e z' o) ∨ (e = b ∧ ∃ q, g.φ d = some q ∧ q.blk = o) := fun e z o hz hr => by
    rcases hcase e z hz with ⟨rfl, rfl⟩ | ⟨he, _, hz'⟩
    · rcases hR o hr with h1 | h1
      · exact .inl ⟨_, hb, h1⟩
      · exact .inr ⟨rfl, h1⟩
    · exact .inl ⟨z, hz', FRef.le (.refl g) (h.lt e z hz') (h.blk e z hz') (fun q hq => hoth' e z q he hz' hq) hr⟩
  refine ⟨h.wf, fun e z hz => ?_, fun e z hz => ?_, fun e f z u q r hz hu hwz hq hr ee => ?_, fun e q hq => ?_, fun e z q hz hwz hq => ?_, ?_, fun i hi hX => ?_, ⟨ho.1.trans h.same.1, ho.2.trans h.same.2⟩, fun e z o hz hr => ?_⟩
  · rcases hcase e z hz with ⟨rfl, rfl⟩ | ⟨he, _, hz'⟩
    · exact hy
    · exact (h.blk e z hz').heap (fun q hq => hoth' e z q he hz' hq) fun o hr => hoth o fun ee => (h.fam e z o hz' hr).2.2.1 b _ p hb hp ee.symm
  · obtain ⟨_, z', hz', _⟩ := hkey e z hz; exact h.lt e z' hz'
  · obtain ⟨_, z', hz', hwz'⟩ := hkey e z hz
    obtain ⟨_, u', hu', _⟩ := hkey f u hu
    exact h.inj e f z' u' q r hz' hu' (hwz' hwz) hq hr ee
  · rw [hsz]; exact h.bnd e q hq
  · obtain ⟨_, z', hz', hwz'⟩ := hkey e z hz; exact h.own e z' q hz' (hwz' hwz) hq
  · rw [hsz]; exact h.size
  · by_cases hi' : i = p.blk
    · exfalso
      subst hi'
      rcases h.own b _ p hb rfl hp with h1 | h1
      · exact hX h1
      · omega
    · rw [hoth i hi']; exact h.keep i hi hX
  · rcases hfor e z o hz hr with ⟨z', hz', hr'⟩ | ⟨rfl, q, hq, rfl⟩
    · obtain ⟨h1, h2, h3, h4⟩ := h.fam e z' o hz' hr'
      refine ⟨h1, by rw [hsz]; exact h2, fun f u q hu hq => ?_, fun f u hu hrf => ?_⟩
      · obtain ⟨_, u', hu', _⟩ := hkey f u hu
        exact h3 f u' q hu' hq
      · rcases hfor f u o hu hrf with ⟨u', hu', hrf'⟩ | ⟨_, q, hq, hqo⟩
        · exact h4 f u' hu' hrf'
        · exact absurd hqo (h3 d x q hd hq)
    · refine ⟨h.own d x q hd hx hq, by rw [hsz]; exact h.bnd d q hq, fun f u r hu hr' e => ?_, fun f u hu hrf => ?_⟩
      · obtain ⟨hfd, u', hu', _⟩ := hkey f u hu
        exact hfd (h.inj d f x u' q r hd hu' hx hq hr' e.symm).symm
      · rcases hfor f u _ hu hrf with ⟨u', hu', hrf'⟩ | ⟨hfb, _⟩
        · exact absurd rfl ((h.fam f u' _ hu' hrf').2.2.1 d x q hd hq)
        · exact hfb
theorem run_setObj_fam {r : Nat} {es : Array MapEntry} {c : Nat} {o : Obj} (h : w.heap[r]? = some (.map es c)) : (setObj r o).run P w = .ok () (w.putObj r o) := by
  simp [setObj, Sem.run, h, World.putObj]
theorem openF_loud {s : St} {o : Oper} {t kt et : TypeId} {y z : Operand} (hs : SRel A I P X g s a w) (hop : o.op = .lookup t y z false) (hu : P.underlying t = some (.map kt et)) {b : Nat} {ck : CK} {tE : E} {k u : AV} {s1 : St} {ps : List PE}
    (hb : get s.mem b = some (.fam ck tE none)) (hy : Rel I g (.mref b) (a.eval y)) (hz : Rel I g k (a.eval z)) (h : openF P s kt et b ck tE k = some (u, s1, ps)) : LoudRun A I P X g a w o u s1 := by
  unfold openF at h
  split at h
  · rename_i c hkt hze hc
    simp only [Option.some.injEq, Prod.mk.injEq] at h
    obtain ⟨rfl, rfl, rfl⟩ := h
    obtain ⟨κ, hκ, hzv⟩ := code_rel hc hz
    obtain ⟨p, h1, h2⟩ := hy
    obtain ⟨p', es, cc, f, kk, h3, h4, h5, h6, h7⟩ := hs.m.blk b _ hb
    rw [h1] at h3; cases h3
    have hk0 : kk = none := FamOp.fn h6 trivial
    subst hk0
    have hh : w.heap[p.blk]? = some (.map es cc) := h4
    obtain ⟨ti, zx, _, _, hzr, hzrel⟩ := zeroAV_rel hze
    have hzx : zx = .slice none 0 0 := (hzrel I g).1
    subst hzx
    have hck : (Instr.checkKey es.isEmpty 10000 kt (sval κ)).run P w = .ok () w := by
      exact checkKey_run (I := I) (g := g) (v := .str (sdec κ)) (by simp [keyOk, hkt]) ⟨_, rfl, by simp⟩ _ 9998
    have main : ∀ {r : Option (Nat × Value)} {v : Value}, (Instr.findKey kt (sval κ) es.toList).run P w = .ok r w → (match r with | some (_, u') => u' = v | none => v = .slice none 0 0) →
        (execOp a.eval o).run P w = .ok (.value v) w := by
      intro r v hr hv
      simp only [execOp, hop, h2, Instr.lookup, Sem.run_bind, run_underlying hu, Result.andThen, run_getObj_mp hh, Sem.run_pure, hzv, hck, hr]
      cases r with
      | none => simp only at hv; subst hv; simp [hzr w]
      | some r => simp only at hv; subst hv; simp
    have hmem := h7.mem κ (by simp)
    have hsel := den_mkSel (c := 0) h5 hκ
    have htab : (E.fn 1012 tE c (.lit 0) (.lit 0)).den I g.env = some (.t (fmem f κ)) :=
      den_fn (j := 12) h5 hκ (show (E.lit 0).den I g.env = some (.i 0) from rfl) (show (E.lit 0).den I g.env = some (.i 0) from rfl)
    -- a list that is nil, or has no room
    have nothing : ∀ (v : Value), (∃ q, v = .slice q 0 0) → f κ 0 = 0 → (execOp a.eval o).run P w = .ok (.value v) w →
        LoudRun A I P X g a w o (.slice s.nb (.lit 0) (mkSel tE c 0) 1 true) { s with mem := (s.nb, .rows [ck] (.fn 1012 tE c (.lit 0) (.lit 0)) (mkSel tE c 0) true true) :: put b (.fam ck tE (some c)) s.mem, nb := s.nb + 1 } := by
      rintro v ⟨q, rfl⟩ h0 hrun
      rw [h0] at hsel
      refine ⟨_, w, g.lay none, .inl hrun, g.lay_le _, rfl, ⟨0, 0, rfl, hsel, Int.le_refl _, Int.le_refl _, .inr ⟨rfl, rfl, q, rfl⟩⟩, ?_⟩
      refine hs.lay ?_
      rw [← hs.nb]
      exact hs.m.famOpen hb hκ (y := .rows [ck] (.fn 1012 tE c (.lit 0) (.lit 0)) (mkSel tE c 0) true true) ⟨fmem f κ, 0, htab, hsel, Int.le_refl _, .inr ⟨rfl, rfl, by simp [G.lay]⟩⟩ rfl (fun q hq => by cases hq)
    rcases famKey_run (P := P) (w := w) hkt κ h7.key with ⟨h8, h9⟩ | ⟨j, e, h8, h9, h10, h11, h12⟩
    · rw [h8] at hmem
      exact nothing _ ⟨none, rfl⟩ hmem (main h9 rfl)
    · rw [h10] at hmem
      rcases hmem with ⟨hv, h0⟩ | ⟨ob, off, n, cap, cs, T, fr, k1, k2, k3, k4, k5, k6, k7, k8⟩
      · exact nothing _ hv h0 (main h12 rfl)
      · let q : PB := { blk := ob, base := off, tot := cap }
        rw [k4] at hsel
        have hat : famAt es.toList none κ ob := ⟨by simp, off, n, cap, by rw [h10, k1], k2⟩
        refine ⟨e.val, w, g.lay (some q), .inl (main h12 rfl), g.lay_le _, rfl, ⟨0, n, rfl, hsel, Int.le_refl _, by omega, .inl ⟨q, cap, by rw [← hs.nb]; simp, by rw [k1]; simp [q], by simpa using k3, by simp [q]⟩⟩, ?_⟩
        refine hs.lay ?_
        rw [← hs.nb]
        refine hs.m.famOpen hb hκ (y := .rows [ck] (.fn 1012 tE c (.lit 0) (.lit 0)) (mkSel tE c 0) true true) ⟨fmem f κ, n, htab, hsel, by omega, .inl ⟨q, cs, T, fr, by simp, k5, fun r j' ck' hr hj => ?_, fun _ => ⟨k6, k7, by simp [q]; omega⟩⟩⟩ rfl (fun q' hq => by cases hq; exact ⟨p, es, cc, h1, hh, hat⟩)
        match j', hj with
        | 0, hj =>
          simp only [List.getElem?_cons_zero, Option.some.injEq] at hj
          subst hj
          have := k8 r (by simpa using hr)
          simpa [q, fmem] using this
        | j' + 1, hj => simp at hj
  · cases h
theorem closeF_loud {s : St} {o : Oper} {t kt et : TypeId} {y z x : Operand} (hs : SRel A I P X g s a w) (hop : o.op = .mapUpdate t y z x) (hu : P.underlying t = some (.map kt et)) {b : Nat} {ck : CK} {tE c : E} {k v u : AV} {s1 : St} {ps : List PE}
    (hb : get s.mem b = some (.fam ck tE (some c))) (hy : Rel I g (.mref b) (a.eval y)) (hz : Rel I g k (a.eval z)) (hv : Rel I g v (a.eval x)) (h : closeF P s kt b ck tE c k v = some (u, s1, ps)) (hps : ∀ q ∈ ps, q.den I g.env) :
    LoudRun A I P X g a w o u s1 := by
  unfold closeF at h
  split at h
  · rename_i c' d n nl hkt hc
    split at h
    · rename_i ck' ut m nl' hd
      split at h
      · rename_i hcc
        obtain ⟨rfl, rfl⟩ := hcc
        simp only [Option.some.injEq, Prod.mk.injEq] at h
        obtain ⟨rfl, rfl, rfl⟩ := h
        obtain ⟨κ, hκ, hzv⟩ := code_rel hc hz
        obtain ⟨p, h1, h2⟩ := hy
        obtain ⟨p', es, cc, f, kk, h3, h4, h5, h6, h7⟩ := hs.m.blk b _ hb
        rw [h1] at h3; cases h3
        have hk0 : kk = some κ := FamOp.fn h6 (show FamOp I g (some c') (some κ) from hκ)
        subst hk0
        have hh : w.heap[p.blk]? = some (.map es cc) := h4
        have hlt := hs.m.bnd b p h1
        obtain ⟨l0, nn, hl0, hnn, hl0', hnn', hsl⟩ := hv
        simp only [E.den, Option.some.injEq, D.i.injEq] at hl0
        subst hl0
        obtain ⟨fu, mm, hfu, hmm, hmm', hrows⟩ := hs.m.blk d _ hd
        have hle : nn ≤ mm := by
          obtain ⟨q, hq, hq0⟩ := hps _ (List.mem_singleton.2 rfl)
          rw [den_mkBin (o := .le) hnn hmm] at hq
          simp only [Option.some.injEq, D.i.injEq, BO.ev] at hq
          by_cases hx : nn ≤ mm
          · exact hx
          · rw [if_neg hx] at hq; omega
        have hdb : d ≠ b := fun e => by subst e; rw [hb] at hd; cases hd
        have hck : ∀ em, (Instr.checkKey em 10000 kt (sval κ)).run P w = .ok () w := fun em => by
          exact checkKey_run (I := I) (g := g) (v := .str (sdec κ)) (by simp [keyOk, hkt]) ⟨_, rfl, by simp⟩ em 9998
        have htab : (E.fn 1013 tE c' ut n).den I g.env = some (.t (fput f κ fu nn)) := den_fn (j := 13) h5 hκ hfu hnn
        -- what the list is behind it
        have hap : ∀ κ' o', famAt es.toList (some κ) κ' o' → (∀ q, g.φ d = some q → q.blk ≠ o') ∧ o' ≠ p.blk := fun κ' o' ho => by
          have hr := hs.m.fam b _ o' hb ⟨p, es, cc, some κ, κ', h1, h4, hκ, ho⟩
          exact ⟨fun q hq => hr.2.2.1 d _ q hd hq, fun e => hr.2.2.1 b _ p hb h1 e.symm⟩
        have hdp : ∀ q, g.φ d = some q → q.blk ≠ p.blk := fun q hq e => hdb (hs.m.inj d b _ _ q p hd hb rfl hq h1 e)
        have build : ∀ (es' : Array MapEntry) (c2 : Nat), (∀ e ∈ es'.toList, ∃ κ : Int, e.key = sval κ) → (∀ κ', famGet es'.toList κ' = if κ' = κ then some (a.eval x) else famGet es.toList κ') →
            (execOp a.eval o).run P w = .ok .skip (w.putObj p.blk (.map es' c2)) → LoudRun A I P X g a w o .undef { s with mem := put b (.fam ck' (.fn 1013 tE c' ut n) none) (del d s.mem) } := by
          intro es' c2 hkeys hget hrun
          have hoth : ∀ i, i ≠ p.blk → (w.putObj p.blk (.map es' c2)).heap[i]? = w.heap[i]? := fun i hi => World.putObj_heap_other hi
          -- the list that is put back
          have hnew : ∀ o', famAt es'.toList none κ o' → ∃ q, g.φ d = some q ∧ q.blk = o' := fun o' ⟨_, off, n', cap, k1, k2⟩ => by
            rw [hget, if_pos rfl] at k1
            rcases hsl with ⟨q, cap', l1, l2, _, _⟩ | ⟨_, _, q, l2⟩
            · rw [l2] at k1
              simp only [Option.some.injEq, Value.slice.injEq, Addr.mk.injEq] at k1
              exact ⟨q, l1, k1.1.1⟩
            · rw [l2] at k1
              simp only [Option.some.injEq, Value.slice.injEq] at k1
              omega
          have hold : ∀ κ' o', κ' ≠ κ → famAt es'.toList none κ' o' → famAt es.toList (some κ) κ' o' := fun κ' o' hne ⟨_, off, n', cap, k1, k2⟩ => by
            rw [hget, if_neg hne] at k1
            exact ⟨fun e => hne (Option.some.inj e).symm, off, n', cap, k1, k2⟩
          refine ⟨Go.undef, _, g, .inr ⟨hrun, rfl⟩, .refl _, rfl, rfl, hs.mem (hs.m.famClose hb h1 hd rfl hdb (by simp) hoth ?_ ?_)⟩
          · refine ⟨p, es', c2, fput f κ fu nn, none, h1, World.putObj_heap_same hlt, htab, trivial, hkeys, fun κ' _ => ?_, fun κ1 κ2 o' k1 k2 => ?_⟩
            · rw [hget]
              by_cases hne : κ' = κ
              · subst hne
                rw [if_pos rfl]
                rcases hsl with ⟨q, cap, l1, l2, l3, l4⟩ | ⟨_, l1, q, l2⟩
                · by_cases hcap : cap = 0
                  · refine .inl ⟨⟨some ⟨q.blk, q.base + (0 : Int).toNat * 1, none⟩, ?_⟩, ?_⟩
                    · rw [l2, hcap, show nn.toNat = 0 by omega]
                    · simp [fput]; omega
                  · rcases hrows with ⟨q', cs, T, fr, m1, m2, m3, m4⟩ | ⟨_, _, m1⟩
                    · rw [l1] at m1; cases m1
                      obtain ⟨m5, m6, m7⟩ := m4 rfl
                      refine .inr ⟨q.blk, q.base + (0 : Int).toNat * 1, nn.toNat, cap, cs, T, fr, l2, by omega, l3, by simp [fput]; omega, ?_, m5, by simp at l4 ⊢; omega, fun j hj => ?_⟩
                      · show (w.putObj p.blk _).heap[q.blk]? = _
                        rw [hoth _ (hdp q l1)]; exact m2
                      · have := m3 j 0 ck' (by omega) rfl
                        simp [fput] at this ⊢
                        exact this
                    · rw [l1] at m1; cases m1
                · refine .inl ⟨⟨q, l2⟩, by simp [fput, l1]⟩
              · rw [if_neg hne]
                have := h7.mem κ' fun e => hne (Option.some.inj e).symm
                have e2 : fput f κ fu nn κ' = f κ' := by funext c; simp [fput, hne]
                split at this
                · rw [e2]; exact this
                · rename_i v e
                  rw [e2]
                  refine this.heap fun o' off n' cap k1 k2 => hoth _ ?_
                  exact (hap κ' o' ⟨fun e => hne (Option.some.inj e).symm, off, n', cap, by rw [e, k1], k2⟩).2
            · by_cases e1 : κ1 = κ
              · by_cases e2 : κ2 = κ
                · rw [e1, e2]
                · subst e1
                  obtain ⟨q, l1, l2⟩ := hnew o' k1
                  exact absurd l2 ((hap κ2 o' (hold κ2 o' e2 k2)).1 q l1)
              · by_cases e2 : κ2 = κ
                · subst e2
                  obtain ⟨q, l1, l2⟩ := hnew o' k2
                  exact absurd l2 ((hap κ1 o' (hold κ1 o' e1 k1)).1 q l1)
                · exact h7.apart κ1 κ2 o' (hold κ1 o' e1 k1) (hold κ2 o' e2 k2)
          · rintro o' ⟨p2, es2, c3, k2, κ', l1, l2, l3, l4⟩
            rw [h1] at l1; cases l1
            have l2' : (w.putObj p.blk (.map es' c2)).heap[p.blk]? = some (.map es2 c3) := l2
            rw [World.putObj_heap_same hlt] at l2'
            simp only [Option.some.injEq, Obj.map.injEq] at l2'
            obtain ⟨rfl, rfl⟩ := l2'
            have : k2 = none := FamOp.fn l3 trivial
            subst this
            by_cases e1 : κ' = κ
            · subst e1; exact .inr (hnew o' l4)
            · exact .inl ⟨p, es, cc, some κ, κ', h1, h4, hκ, hold κ' o' e1 l4⟩
        rcases famKey_run (P := P) (w := w) hkt κ h7.key with ⟨h8, h9⟩ | ⟨j, e, h8, h9, h10, h11, h12⟩
        · refine build (es.push { key := a.eval z, val := a.eval x, born := cc }) (cc + 1) (fun e he => ?_) (fun κ' => ?_) ?_
          · simp only [Array.toList_push, List.mem_append, List.mem_singleton] at he
            rcases he with he | rfl
            · exact h7.key e he
            · exact ⟨κ, hzv⟩
          · rw [Array.toList_push]
            exact famGet_push (e := { key := a.eval z, val := a.eval x, born := cc }) hzv κ' h8
          · simp only [execOp, hop, h2, Instr.mapUpdate, Sem.run_bind, run_underlying hu, Result.andThen, run_getObj_mp hh, Sem.run_pure, hzv, hck, h9, run_setObj_fam hh]
        · have h8' : es[j]? = some e := by rw [← Array.getElem?_toList]; exact h8
          have hstay : (Instr.keyThatStays e.key (sval κ)).run P w = .ok (sval κ) w := by
            unfold Instr.keyThatStays
            have e0 : ∀ s : ByteArray, (s == s) = true := fun s => by
              show (s.data == s.data) = true
              simp
            rw [h9, if_pos (by simp only [sval, Instr.sameBits, e0])]; rfl
          have hlist : (es.modify j fun e => { e with key := sval κ, val := a.eval x }).toList = es.toList.set j { e with key := sval κ, val := a.eval x } := by
            apply List.ext_getElem?
            intro i
            simp only [Array.getElem?_toList, Array.getElem?_modify, List.getElem?_set]
            split
            · rename_i hij; subst hij
              have hjl : j < es.size := (Array.getElem?_eq_some_iff.1 h8').1
              rw [h8']; simp [hjl]
            · simp
          refine build (es.modify j fun e => { e with key := sval κ, val := a.eval x }) cc (fun e' he => ?_) (fun κ' => ?_) ?_
          · rw [hlist] at he
            rcases List.mem_or_eq_of_mem_set he with he | rfl
            · exact h7.key e' he
            · exact ⟨κ, rfl⟩
          · rw [hlist]
            exact famGet_set rfl rfl κ' h8 h9 h11
          · simp only [execOp, hop, h2, Instr.mapUpdate, Sem.run_bind, run_underlying hu, Result.andThen, run_getObj_mp hh, Sem.run_pure, hzv, hck, h12, h8', Option.map_some, Option.getD_some, hstay, run_setObj_fam hh, Result.andThen, Sem.run_bind]
      · cases h
    · cases h
  · cases h
end Go.Sx
end
noncomputable section
namespace Go.Sx
open Go
variable {A : Amb} {I : Itp} {P : Program} {g : G} {X : Nat → Prop} {ts : Tmps} {a : Act} {M : Mem} {w : World}
theorem convert_loud {s : St} {o : Oper} {src dst el : TypeId} {x : Operand} {t n : E} (hs : SRel A I P X g s a w) (hop : o.op = .convert src dst x) (hsrc : P.underlying src = some .string) (hd : P.underlying dst = some (.slice el))
    (hel : P.underlying el = some (.int .u8)) (hv : Rel I g (.strT t n) (a.eval x)) :
    LoudRun A I P X g a w o (.slice s.nb (.lit 0) n 1 false) (newBlk s (.rows [.int .u8] t n true false)) := by
  obtain ⟨f, k, sb, h1, h2, h3, h4, h5⟩ := hv
  have hsize : sb.size = sb.data.toList.length := by rw [Array.length_toList]; rfl
  have hcap : sb.size ≤ grownCap w sb.size 0 el := by simp [grownCap, Question.cut]
  obtain ⟨cap, hcapE⟩ : ∃ cap, cap = grownCap w sb.size 0 el := ⟨_, rfl⟩
  rw [← hcapE] at hcap
  have hrun := run_bytes_of_string w src dst el sb hsrc hd hel
  rw [← hcapE] at hrun
  have hcs : (bytesRow sb cap).size = cap := by
    simp [bytesRow]
    have : sb.data.size = sb.size := rfl
    omega
  have hget : ∀ (i : Nat) (b : UInt8), sb.data.toList[i]? = some b → (bytesRow sb cap)[i]? = some (.int .u8 (b.toNat : Int)) := fun i b hb => by
    have hi := (List.getElem?_eq_some_iff.1 hb).1
    have hb' : sb.data[i]? = some b := by simpa using hb
    unfold bytesRow
    rw [Array.getElem?_append_left (by simp; rw [Array.length_toList] at hi; exact hi)]
    simp [hb']
  generalize bytesRow sb cap = cs at hrun hcs hget
  let p : PB := { blk := w.heap.size, base := 0, tot := cap }
  refine ⟨.slice (some ⟨w.heap.size, 0, none⟩) sb.size cap, w.drew.alloc (.cells cs el (cs.size, cs.size + 1)), g.lay (some p), .inl ?_, g.lay_le _, rfl, ?_, ?_⟩
  · have : (execOp a.eval o) = (do pure (.value (← convert src dst (.string sb)))) := by simp only [execOp, hop, h3]
    rw [this, Sem.run_bind, hrun]
    rfl
  · refine ⟨0, k, rfl, E.den_le (g.lay_le _) h2, Int.le_refl _, by omega, .inl ⟨p, cap, by rw [← hs.nb]; exact G.lay_new g (some p), ?_, by omega, by simp [p]⟩⟩
    simp only [p, Int.toNat_zero, Nat.zero_mul, Nat.add_zero]
    congr 1; omega
  · have hm1 := (hs.m.heap_eq (w' := w.drew) rfl).alloc (M' := s.mem) (o := .cells cs el (cs.size, cs.size + 1)) (x := .rows [.int .u8] t n true false) (p := p) (fun _ _ h => h) rfl
      ⟨f, k, h1, h2, by omega, .inl ⟨p, cs, el, _, G.lay_new g (some p), heap_alloc_new _ _, fun r j ck hr hj => by
        cases j with
        | zero =>
          simp at hj; subst hj
          have hlt : r < sb.data.toList.length := by omega
          have hb := List.getElem?_eq_getElem hlt
          have := hget r _ hb
          simp only [p, List.length_singleton, Nat.mul_one, Nat.zero_add, Nat.add_zero]
          rw [this, h5 r _ hb]; rfl
        | succ j => simp at hj, fun _ => ⟨.inr (Nat.le_refl _), by simp [p]; omega, by simp [p]; omega⟩⟩⟩
    rw [hs.nb] at hm1
    exact hs.lay hm1
theorem mark_loud {s : St} {o : Oper} {src el : TypeId} {x : Operand} {b : Nat} {lo n t len : E} (hs : SRel A I P X g s a w) (hop : o.op = .convert src src x) (hu : P.underlying src = some (.slice el)) (hel : P.underlying el = some (.int .u8))
    (hv : Rel I g (.slice b lo n 1 false) (a.eval x)) (hb : get s.mem b = some (.rows [.int .u8] t len true false)) :
    LoudRun A I P X g a w o (.slice b lo n 1 false) { s with mem := put b (.rows [.int .u8] t len true false) s.mem } := by
  have hv0 := hv
  obtain ⟨l, m, hl, hm, hl0, hm0, ⟨p, cap, hp, hx, hle, htot⟩ | ⟨h0, _⟩⟩ := hv
  case inr => cases h0
  obtain ⟨f, k, h1, h2, h3, ⟨p', c, T, fr, hp', hh, hc, hw⟩ | ⟨h0, _⟩⟩ := hs.m.blk b _ hb
  case inr => cases h0
  obtain rfl : p' = p := Option.some.inj (hp'.symm.trans hp)
  obtain ⟨hfr, hw2, hw3⟩ := hw rfl
  have hsh : (shape p'.blk).run P w = .ok (some (T, c.size)) w := by simp [run_shape, World.shape?, hh]
  have hrun : (execOp a.eval o).run P w = .ok (.value (a.eval x)) (w.freeze ⟨p'.blk, c.size, none⟩ 1) := by
    simp only [execOp, hop, hx, convert, Sem.run_bind, run_underlying hu, run_underlying hel, Result.andThen, beq_self_eq_true, markStringish, hsh, Sem.run_pure, run_freeze]
  refine ⟨_, _, g, .inl hrun, .refl g, rfl, hv0, hs.mem (hs.m.write hb rfl hp (by simp [World.freeze]) (fun i hi => ?_) ?_ ⟨rfl, rfl⟩)⟩
  · simp only [World.freeze, Nat.one_ne_zero, if_false]
    rw [Array.getElem?_modify, if_neg (fun e => hi e.symm)]
  · refine ⟨f, k, h1, h2, h3, .inl ⟨p', c, T, (if fr.1 == fr.2 then (c.size, c.size + 1) else (min fr.1 c.size, max fr.2 (c.size + 1))), hp, ?_, hc, fun _ => ⟨?_, hw2, hw3⟩⟩⟩
    · simp only [World.freeze, Nat.one_ne_zero, if_false]
      rw [Array.getElem?_modify, if_pos rfl]
      have : w.heap[p'.blk]? = some (.cells c T fr) := hh
      rw [this]; rfl
    · rcases hfr with rfl | hfr
      · exact .inr (Nat.le_refl _)
      · right
        split
        · exact Nat.le_refl _
        · show c.size ≤ min fr.1 c.size
          omega
theorem makeMap_loud {s : St} {o : Oper} {t : TypeId} (hs : SRel A I P X g s a w) (hop : o.op = .makeMap t none) :
    LoudRun A I P X g a w o (.mref s.nb) (newBlk s (.mp [] [])) := by
  let p : PB := { blk := w.heap.size, base := 0, tot := 0 }
  refine ⟨.map (some w.heap.size), w.alloc (.map #[] 0), g.lay (some p), .inl ?_, g.lay_le _, rfl, ?_, ?_⟩
  · simp only [execOp, hop, Option.map_none, Instr.makeMap, Sem.run_bind, Result.andThen, run_newObj_alloc, Sem.run_pure]
  · exact ⟨p, by rw [← hs.nb]; exact G.lay_new g (some p), rfl⟩
  · have hm := hs.m.alloc (M' := s.mem) (o := .map #[] 0) (x := .mp [] []) (p := p) (fun _ _ h => h) rfl
      ⟨p, #[], 0, G.lay_new g (some p), heap_alloc_new _ _, trivial, trivial⟩
    rw [hs.nb] at hm
    exact hs.lay hm
theorem sameF_rel {v u : AV} {x y : Value} (h : v.sameF u = true) (hx : Rel I g v x) (hy : Rel I g u y) : x = y ∧ ∀ n, Instr.sameBits n x y = true := by
  unfold AV.sameF at h
  split at h
  · obtain ⟨s1, rfl, h1⟩ := hx
    obtain ⟨s2, rfl, h2⟩ := hy
    have : s1 = s2 := by
      have e : s1.data = s2.data := Array.toList_inj.1 (by rw [h1, h2]; exact beq_iff_eq.1 h)
      cases s1; cases s2; simp_all
    subst this
    have e : (s1 == s1) = true := by
      show (s1.data == s1.data) = true
      simp
    exact ⟨rfl, fun n => by cases n <;> simp only [Instr.sameBits, e]⟩
  · simp only [Bool.and_eq_true, beq_iff_eq] at h
    obtain ⟨rfl, rfl⟩ := h
    obtain ⟨n1, h1, rfl⟩ := hx
    obtain ⟨n2, h2, rfl⟩ := hy
    simp only [E.den, Option.some.injEq, D.i.injEq] at h1 h2
    subst h1; subst h2
    exact ⟨rfl, fun n => by cases n <;> simp [Instr.sameBits]⟩
  · cases h
theorem sameFs_rel : ∀ {l m : List AV} {xs ys : List Value}, sameFs l m = true → Rels I g l xs → Rels I g m ys → xs = ys ∧ ∀ n, (xs.zip ys).all (fun z => Instr.sameBits n z.1 z.2) = true
  | [], [], [], [], _, _, _ => ⟨rfl, fun _ => rfl⟩
  | v :: l, u :: m, x :: xs, y :: ys, h, hx, hy => by
    simp only [sameFs, Bool.and_eq_true] at h
    obtain ⟨h1, h2⟩ := sameF_rel h.1 hx.1 hy.1
    obtain ⟨h3, h4⟩ := sameFs_rel h.2 hx.2 hy.2
    exact ⟨by rw [h1, h3], fun n => by simp [h2 n]; simpa using h4 n⟩
  | [], [], _ :: _, _, _, h, _ => by simp [Rels] at h
  | [], [], [], _ :: _, _, _, h => by simp [Rels] at h
  | [], _ :: _, _, _, h, _, _ => by simp [sameFs] at h
  | _ :: _, [], _, _, h, _, _ => by simp [sameFs] at h
  | _ :: _, _ :: _, [], _, _, h, _ => by simp [Rels] at h
  | _ :: _, _ :: _, _ :: _, [], _, _, h => by simp [Rels] at h
theorem sameK_rel {v u : AV} {x y : Value} (h : v.sameK u = true) (hx : Rel I g v x) (hy : Rel I g u y) : x = y ∧ ∀ n, Instr.sameBits (n + 1) x y = true := by
  unfold AV.sameK at h
  split at h
  · obtain ⟨cs, rfl, h1⟩ := hx
    obtain ⟨ds, rfl, h2⟩ := hy
    obtain ⟨h3, h4⟩ := sameFs_rel h h1 h2
    have : cs = ds := Array.toList_inj.1 h3
    subst this
    exact ⟨rfl, fun n => by simp only [Instr.sameBits, beq_self_eq_true, Bool.true_and]; exact h4 n⟩
  · obtain ⟨h1, h2⟩ := sameF_rel h hx hy
    exact ⟨h1, fun n => h2 _⟩
theorem Rels.set1 {l : List AV} {xs : List Value} {v : AV} {x : Value} (h : Rels I g l xs) (hv : Rel I g v x) (j : Nat) : Rels I g (l.set j v) (xs.set j x) :=
  .mk (by simp [h.length]) fun i u y h1 h2 => by
    rw [List.getElem?_set] at h1 h2
    split at h1
    · rename_i hij
      rw [if_pos hij] at h2
      split at h1
      · split at h2
        · cases h1; cases h2; exact hv
        · cases h2
      · cases h1
    · rename_i hij
      rw [if_neg hij] at h2
      obtain ⟨z, h3, h4⟩ := h.get h1
      rw [h2] at h3; cases h3
      exact h4
theorem run_setObj_mp {r : Nat} {es : Array MapEntry} {c : Nat} {o : Obj} (h : w.heap[r]? = some (.map es c)) : (setObj r o).run P w = .ok () (w.putObj r o) := by
  simp [setObj, Sem.run, h, World.putObj]
theorem mapUpdate_loud {s : St} {o : Oper} {t kt et : TypeId} {y z x : Operand} (hs : SRel A I P X g s a w) (hop : o.op = .mapUpdate t y z x ∨ o.op = .insert t y z x) (hu : P.underlying t = some (.map kt et)) {b : Nat} {k v u : AV} {s1 : St} {ps : List PE}
    (hy : Rel I g (.mref b) (a.eval y)) (hz : Rel I g k (a.eval z)) (hv : Rel I g v (a.eval x)) (h : updateAV P s kt b k v = some (u, s1, ps)) :
    LoudRun A I P X g a w o u s1 := by
  unfold updateAV at h
  split at h
  · rename_i hk
    split at h
    · rename_i l m hb
      obtain ⟨p, h1, h2⟩ := hy
      obtain ⟨p', es, c, h3, h4, h5, h6⟩ := hs.m.blk b _ hb
      rw [h1] at h3; cases h3
      have hlt := hs.m.bnd b p h1
      have hc : ∀ em, (Instr.checkKey em 10000 kt (a.eval z)).run P w = .ok () w := fun em => checkKey_run hk hz em 9998
      split at h
      · rename_i j hj
        split at h
        · rename_i k' hk'
          split at h
          · rename_i hsame
            simp at h
            obtain ⟨rfl, rfl, rfl⟩ := h
            obtain ⟨e, k1, k2⟩ := findKey_run (w := w) hk hz hj h5
            obtain ⟨kv, k3, k4⟩ := h5.get hk'
            have k5 : kv = e.key := by
              rw [List.getElem?_map, k1] at k3
              simpa using k3.symm
            subst k5
            obtain ⟨k6, k7⟩ := sameK_rel hsame k4 hz
            have k8 : es[j]? = some e := by rw [← Array.getElem?_toList]; exact k1
            have hstay : (Instr.keyThatStays e.key (a.eval z)).run P w = .ok (a.eval z) w := by
              unfold Instr.keyThatStays
              rw [if_pos (k7 9999)]; rfl
            have hjl : j < es.size := (Array.getElem?_eq_some_iff.1 k8).1
            have hkeys : ((es.modify j fun e => { e with key := a.eval z, val := a.eval x }).toList.map (·.key)) = es.toList.map (·.key) := by
              apply List.ext_getElem?
              intro i
              simp only [List.getElem?_map, Array.getElem?_toList, Array.getElem?_modify]
              split
              · rename_i hij; subst hij
                rw [k8]
                simp [k6]
              · rfl
            have hvals : ((es.modify j fun e => { e with key := a.eval z, val := a.eval x }).toList.map (·.val)) = (es.toList.map (·.val)).set j (a.eval x) := by
              apply List.ext_getElem?
              intro i
              simp only [List.getElem?_map, Array.getElem?_toList, Array.getElem?_modify, List.getElem?_set]
              split
              · rename_i hij; subst hij
                rw [k8]
                simp [hjl]
              · rfl
            refine ⟨Go.undef, w.putObj p.blk (.map (es.modify j fun e => { e with key := a.eval z, val := a.eval x }) c), g, .inr ⟨?_, rfl⟩, .refl _, rfl, rfl, hs.mem (hs.m.write (y := .mp l (m.set j v)) hb rfl h1 (by simp) (fun i hi => World.putObj_heap_other hi) ?_)⟩
            · rcases hop with hop | hop <;> simp only [execOp, hop, h2, Instr.mapUpdate, Sem.run_bind, run_underlying hu, Result.andThen, run_getObj_mp h4, hc, k2, k8, Option.map_some, Option.getD_some, hstay, run_setObj_mp h4, Sem.run_pure]
            · exact ⟨p, _, c, h1, World.putObj_heap_same hlt, by rw [hkeys]; exact h5, by rw [hvals]; exact h6.set1 hv j⟩
          · cases h
        · cases h
      · rename_i hj
        simp at h
        obtain ⟨rfl, rfl, rfl⟩ := h
        have k2 := findKey_run (w := w) hk hz hj h5
        refine ⟨Go.undef, w.putObj p.blk (.map (es.push { key := a.eval z, val := a.eval x, born := c }) (c + 1)), g, .inr ⟨?_, rfl⟩, .refl _, rfl, rfl, hs.mem (hs.m.write (y := .mp (l ++ [k]) (m ++ [v])) hb rfl h1 (by simp) (fun i hi => World.putObj_heap_other hi) ?_)⟩
        · rcases hop with hop | hop <;> simp only [execOp, hop, h2, Instr.mapUpdate, Sem.run_bind, run_underlying hu, Result.andThen, run_getObj_mp h4, hc, k2, run_setObj_mp h4, Sem.run_pure]
        · exact ⟨p, _, _, h1, World.putObj_heap_same hlt, by simpa using Rels.append h5 (m := [k]) (ys := [a.eval z]) ⟨hz, trivial⟩, by simpa using Rels.append h6 (m := [v]) (ys := [a.eval x]) ⟨hv, trivial⟩⟩
      · cases h
    · cases h
  · cases h
theorem sameBits_val (c : CK) (n : Int) (m : Nat) : Instr.sameBits m (c.val n) (c.val n) = true := by
  cases c with
  | int k => cases m <;> simp [CK.val, Instr.sameBits]
  | bool => cases m <;> simp [CK.val, Instr.sameBits]
  | str =>
    have e : ∀ s : ByteArray, (s == s) = true := fun s => by
      show (s.data == s.data) = true
      simp
    cases m <;> simp only [CK.val, Instr.sameBits, e]
theorem sameBits_row (f : Nat → Int) (m : Nat) : ∀ (ks : List CK) (c : Nat), ((rowVals f c ks).zip (rowVals f c ks)).all (fun z => Instr.sameBits m z.1 z.2) = true
  | [], _ => rfl
  | k :: ks, c => by
    simp only [rowVals, List.zip_cons_cons, List.all_cons, sameBits_val, Bool.true_and]
    exact sameBits_row f m ks (c + 1)
theorem sameBits_key (w : Nat) (one : Bool) (ks : List CK) (f : Nat → Int) (m : Nat) : Instr.sameBits (m + 1) (keyV w one ks f) (keyV w one ks f) = true := by
  unfold keyV
  cases one with
  | true =>
    cases ks with
    | nil => rfl
    | cons k ks => exact sameBits_val ..
  | false =>
    have e : ∀ l : List Value, l.zip l |>.all (fun z => Instr.sameBits m z.1 z.2) → Instr.sameBits (m + 1) (.agg l.toArray) (.agg l.toArray) = true := fun l h => by
      simp only [Instr.sameBits, beq_self_eq_true, Bool.true_and]
      simpa using h
    cases ks with
    | nil => exact e _ (by simpa using sameBits_row f m _ 0)
    | cons k ks => exact e _ (by simpa using sameBits_row f m _ 0)
theorem updateS_loud {s : St} {o : Oper} {t kt et : TypeId} {y z x : Operand} (hs : SRel A I P X g s a w) (hop : o.op = .mapUpdate t y z x ∨ o.op = .insert t y z x) (hu : P.underlying t = some (.map kt et)) {b wd : Nat} {one : Bool} {ks : List CK} {tE n : E} {k v u : AV} {s1 : St} {ps : List PE}
    (hb : get s.mem b = some (.smp wd one ks tE n)) (hy : Rel I g (.mref b) (a.eval y)) (hz : Rel I g k (a.eval z)) (hv : Rel I g v (a.eval x)) (h : updateS P s kt b wd one ks tE n k v = some (u, s1, ps)) :
    LoudRun A I P X g a w o u s1 := by
  obtain ⟨p, h1, h2⟩ := hy
  obtain ⟨p', es, c, f, h3, h4, h5, h6, h7⟩ := hs.m.blk b _ hb
  rw [h1] at h3; cases h3
  have hh : w.heap[p.blk]? = some (.map es c) := h4
  have hlt := hs.m.bnd b p h1
  unfold updateS at h
  split at h
  · rename_i hkt
    split at h
    · rename_i ue ck ck' e hku hck hkv hsc
      split at h
      · rename_i hcc
        subst hcc
        simp only [Option.some.injEq, Prod.mk.injEq] at h
        obtain ⟨rfl, rfl, rfl⟩ := h
        obtain ⟨q, hq, hkey, _⟩ := keyRow_rel hku hz
        rw [hkey] at hz
        have hlen : ks.length = wd + 1 ∧ (one = true → 1 ≤ wd) := by
          unfold keyT at hkt
          simp only [Bool.and_eq_true, decide_eq_true_eq] at hkt
          refine ⟨hkt.1, fun h1 => ?_⟩
          subst h1
          have := hkt.2
          simp only [if_true, Bool.and_eq_true, beq_iff_eq] at this
          omega
        have hval : ∃ m : Int, e.den I g.env = some (.i m) ∧ a.eval x = ck.val m := by
          cases v <;> simp [kindOf] at hkv <;> simp [scal] at hsc
          case bool q => subst hkv; subst hsc; obtain ⟨n, h4, h5⟩ := hv; exact ⟨n, h4, h5⟩
          case sat q => subst hkv; exact code_rel hsc hv
          case str q => subst hkv; exact code_rel hsc hv
          case strT q q' => subst hkv; exact code_rel hsc hv
          case int q q' => subst hkv; subst hsc; obtain ⟨n, h4, h5⟩ := hv; exact ⟨n, h4, h5⟩
        obtain ⟨m, hm, hxv⟩ := hval
        have hq2 := den_mkUpd (k := wd) hq (show (E.lit 0).den I g.env = some (.i 0) from rfl) hm
        have hagree : ∀ c, c < wd → tupd q 0 wd m 0 c = q 0 c := fun c hc => by simp only [tupd]; rw [if_neg (by omega)]
        have hfind := den_find h5 h6 hq wd
        have hle := den_mkBin (o := .le) (show (E.lit 0).den I g.env = some (.i 0) from rfl) hfind
        have hn' := den_mkS (j := 0) (n := if BO.le.ev 0 (tfind f q wd es.size 0) ≠ 0 then (es.size : Int) else (es.size : Int) + 1) hle h6 (den_mkAdd h6 (show (E.lit 1).den I g.env = some (.i 1) from rfl)) rfl
        have ht' := den_fn (j := 9) h5 h6 hq2 (show (E.lit (wd : Int)).den I g.env = some (.i (wd : Int)) from rfl)
        have e9 : bi 9 (.t f) (.i (es.size : Int)) (.t (tupd q 0 wd m)) (.i (wd : Int)) = .t (mput f es.size (tupd q 0 wd m) wd) := rfl
        rw [e9] at ht'
        have htf : ∀ n i, tfind f (tupd q 0 wd m) wd n i = tfind f q wd n i := by
          intro n
          induction n with
          | zero => intro i; rfl
          | succ n ih =>
            intro i
            simp only [tfind, ih]
            have : ((List.range wd).all fun c => f i c == tupd q 0 wd m 0 c) = ((List.range wd).all fun c => f i c == q 0 c) := by
              rw [Bool.eq_iff_iff, List.all_eq_true, List.all_eq_true]
              constructor
              · intro hh c hc; have := hh c hc; rwa [hagree c (List.mem_range.1 hc)] at this
              · intro hh c hc; have := hh c hc; rwa [hagree c (List.mem_range.1 hc)]
            rw [this]
        have hc : ∀ em, (Instr.checkKey em 10000 kt (a.eval z)).run P w = .ok () w := fun em => by rw [hkey]; exact checkKey_run (keyT_ok hkt (q 0)) (litKey_rel (I := I) (g := g) wd one ks (q 0)) em 9998
        rcases findRows (q := q) (W := w) hkt (fun i e he => (h7 i e he).1) with ⟨h8, h9⟩ | ⟨j, e0, h8, h9, h10⟩
        · have e1 : BO.le.ev 0 (tfind f q wd es.size 0) = 0 := by simp only [BO.ev]; rw [if_neg (by omega)]
          rw [e1] at hn'
          simp only [ne_eq, not_true_eq_false, if_false] at hn'
          rw [← hkey] at h9
          refine ⟨Go.undef, w.putObj p.blk (.map (es.push { key := a.eval z, val := a.eval x, born := c }) (c + 1)), g, .inr ⟨?_, rfl⟩, .refl _, rfl, rfl, hs.mem (hs.m.write (y := .smp wd one ks _ _) hb rfl h1 (by simp) (fun i hi => World.putObj_heap_other hi) ?_)⟩
          · rcases hop with hop | hop <;> simp only [execOp, hop, h2, Instr.mapUpdate, Sem.run_bind, run_underlying hu, Result.andThen, run_getObj_mp hh, hc, h9, run_setObj_mp hh, Sem.run_pure]
          · refine ⟨p, _, _, mput f es.size (tupd q 0 wd m) wd, h1, World.putObj_heap_same hlt, ht', by rw [hn']; simp, fun i e he => ?_⟩
            have hmp : mput f es.size (tupd q 0 wd m) wd = fun r c => if r = (es.size : Int) ∧ c ≤ wd then tupd q 0 wd m 0 c else f r c := by
              unfold mput
              rw [if_neg (by rw [Int.toNat_natCast, htf]; omega)]
            rw [hmp]
            rw [Array.getElem?_push] at he
            split at he
            · rename_i hi
              subst hi
              simp only [Option.some.injEq] at he
              subst he
              refine ⟨?_, ck, hck, ?_⟩
              · simp only
                rw [hkey]
                exact keyV_congr hlen.2 fun c hc => by simp only [true_and]; rw [if_pos (by omega), hagree c hc]
              · simp only [true_and]
                rw [if_pos (by omega), hxv]
                simp [tupd]
            · rename_i hi
              have hne : ¬ ((i : Int) = (es.size : Int)) := by omega
              obtain ⟨k1, k2, k3, k4⟩ := h7 i e he
              refine ⟨?_, k2, k3, ?_⟩
              · rw [k1]; exact keyV_congr hlen.2 fun c hc => by simp [hne]
              · rw [k4]; simp [hne]
        · have e1 : BO.le.ev 0 (tfind f q wd es.size 0) = 1 := by simp only [BO.ev]; rw [if_pos (by omega)]
          rw [e1] at hn'
          simp only [ne_eq, Int.one_ne_zero, not_false_eq_true, if_true] at hn'
          obtain ⟨k1, k2, k3, k4⟩ := h7 j e0 h9
          rw [hck] at k3; cases k3
          have hjl : j < es.size := (Array.getElem?_eq_some_iff.1 h9).1
          have hrow : ∀ c, c < wd → f j c = q 0 c := by
            rcases tfind_spec f q wd es.size 0 with ⟨h11, _⟩ | ⟨j', h11, _, _, h12, _⟩
            · omega
            · have : j' = j := by omega
              subst this; exact h12
          have hkk : keyV wd one ks (f j) = keyV wd one ks (q 0) := keyV_congr hlen.2 hrow
          have hstay : (Instr.keyThatStays e0.key (a.eval z)).run P w = .ok (a.eval z) w := by
            unfold Instr.keyThatStays
            rw [k1, hkey, hkk, if_pos (sameBits_key ..)]; rfl
          rw [← hkey] at h10
          refine ⟨Go.undef, w.putObj p.blk (.map (es.modify j fun e => { e with key := a.eval z, val := a.eval x }) c), g, .inr ⟨?_, rfl⟩, .refl _, rfl, rfl, hs.mem (hs.m.write (y := .smp wd one ks _ _) hb rfl h1 (by simp) (fun i hi => World.putObj_heap_other hi) ?_)⟩
          · rcases hop with hop | hop <;> simp only [execOp, hop, h2, Instr.mapUpdate, Sem.run_bind, run_underlying hu, Result.andThen, run_getObj_mp hh, hc, h10, h9, Option.map_some, Option.getD_some, hstay, run_setObj_mp hh, Sem.run_pure]
          · refine ⟨p, _, _, mput f es.size (tupd q 0 wd m) wd, h1, World.putObj_heap_same hlt, ht', by rw [hn']; simp, fun i e he => ?_⟩
            have hmp : mput f es.size (tupd q 0 wd m) wd = fun r c => if r = (j : Int) ∧ c = wd then m else f r c := by
              unfold mput
              rw [Int.toNat_natCast, htf, h8, if_pos (by omega)]
              simp [tupd]
            rw [hmp]
            rw [Array.getElem?_modify] at he
            split at he
            · rename_i hij
              subst hij
              rw [h9] at he
              simp only [Option.map_some, Option.some.injEq] at he
              subst he
              refine ⟨?_, ck, hck, ?_⟩
              · simp only
                rw [hkey, ← hkk]
                exact keyV_congr hlen.2 fun c hc => by rw [if_neg (by omega)]
              · simp [hxv]
            · rename_i hij
              have hne : ¬ ((i : Int) = (j : Int)) := by omega
              obtain ⟨l1, l2, l3, l4⟩ := h7 i e he
              refine ⟨?_, l2, l3, ?_⟩
              · rw [l1]; exact keyV_congr hlen.2 fun c hc => by simp [hne]
              · rw [l4]; simp [hne]
      · cases h
    · cases h
  · cases h
theorem range_loud {s : St} {o : Oper} {t : TypeId} {x : Operand} (hs : SRel A I P X g s a w) (hop : o.op = .range t x) (hu : P.underlying t = some .string) {c : E} {n : Int} (hc : c.den I g.env = some (.i n)) (hx : a.eval x = sval n) :
    LoudRun A I P X g a w o (.ptr s.nb (.lit 0) 0 0) (newBlk s (.iter c (.lit 0) 0)) := by
  let p : PB := { blk := w.heap.size, base := 0, tot := 0 }
  refine ⟨.pointer (some ⟨w.heap.size, 0, none⟩), w.alloc (.stringIter ⟨(sdec n).toArray⟩ 0), g.lay (some p), .inl ?_, g.lay_le _, rfl, ?_, ?_⟩
  · simp only [execOp, hop, hx, sval, Instr.range, Sem.run_bind, run_underlying hu, Result.andThen, Sem.run_pure, run_newObj_alloc]
  · exact ⟨0, p, rfl, Int.le_refl _, by rw [← hs.nb]; exact G.lay_new g (some p), by simp [p]⟩
  · have hm := hs.m.alloc (M' := s.mem) (o := .stringIter ⟨(sdec n).toArray⟩ 0) (x := .iter c (.lit 0) 0) (p := p) (fun _ _ h => h) rfl
      ⟨p, n, 0, G.lay_new g (some p), rfl, E.den_le (g.lay_le _) hc, rfl, heap_alloc_new _ _, fun h => by omega, fun h => by omega⟩
    rw [hs.nb] at hm
    exact hs.lay hm
theorem next_loud {s : St} {o : Oper} {x : Operand} (hs : SRel A I P X g s a w) (hop : o.op = .next x true) {b : Nat} (hx : Rel I g (.ptr b (.lit 0) 0 0) (a.eval x)) {e q : E} (hb : get s.mem b = some (.iter e q 1)) :
    LoudRun A I P X g a w o (.tup [.bool (.lit 1), .int .i64 q, .int .i32 (mkS 10 e q (.lit 0))]) { s with mem := put b (.iter e (mkAdd q (mkS 11 e q (.lit 0))) 0) s.mem } := by
  obtain ⟨m0, p, h1, _, h2, h3⟩ := hx
  obtain ⟨p', n, m, h4, h5, h6, h7, h8, h9, _⟩ := hs.m.blk b _ hb
  rw [h2] at h4; cases h4
  have hh : w.heap[p.blk]? = some (.stringIter ⟨(sdec n).toArray⟩ m) := h8
  have hlt := hs.m.bnd b p h2
  have h1' : m0 = 0 := by simpa [E.den] using h1.symm
  subst h1'
  have hsz : m < (ByteArray.mk (sdec n).toArray).size := by
    show m < (sdec n).toArray.size
    simpa using h9 rfl
  have hr := den_mkS (j := 10) (n := srune n m) h6 h7 (show (E.lit 0).den I g.env = some (.i 0) from rfl) rfl
  have hwd := den_mkS (j := 11) (n := swidth n m) h6 h7 (show (E.lit 0).den I g.env = some (.i 0) from rfl) rfl
  have hget : (getObj p.blk).run P w = .ok (.stringIter ⟨(sdec n).toArray⟩ m) w := by simp [getObj, Sem.run, hh]
  have hset : ∀ o', (setObj p.blk o').run P w = .ok () (w.putObj p.blk o') := fun o' => by simp [setObj, Sem.run, hh, World.putObj]
  refine ⟨.tuple #[.bool true, .int .i64 m, .int .i32 ((Utf8.decode ⟨(sdec n).toArray⟩ m).1 : Nat)], w.putObj p.blk (.stringIter ⟨(sdec n).toArray⟩ (m + (Utf8.decode ⟨(sdec n).toArray⟩ m).2)), g, .inl ?_, .refl _, rfl, ?_, hs.mem (hs.m.write (y := .iter e _ 0) hb rfl h2 (by simp) (fun i hi => World.putObj_heap_other hi) ?_)⟩
  · simp only [execOp, hop, h3, h5, Instr.next, Int.toNat_zero, Nat.zero_mul, Nat.add_zero, Sem.run_bind, hget, Result.andThen, hsz, if_true, hset, Sem.run_pure, goInt]
  · exact ⟨_, rfl, ⟨1, rfl, rfl⟩, ⟨m, h7, rfl⟩, ⟨_, hr, by simp [srune]⟩, trivial⟩
  · refine ⟨p, n, _, h2, h5, h6, ?_, World.putObj_heap_same hlt, fun h => by omega, fun h => by omega⟩
    have := den_mkAdd h7 hwd
    rw [this]
    simp [swidth]
theorem next_over {s : St} {o : Oper} {x : Operand} (hs : SRel A I P X g s a w) (hop : o.op = .next x true) {b : Nat} (hx : Rel I g (.ptr b (.lit 0) 0 0) (a.eval x)) {e q : E} (hb : get s.mem b = some (.iter e q 2)) :
    LoudRun A I P X g a w o (.tup [.bool (.lit 0)]) s := by
  obtain ⟨m0, p, h1, _, h2, h3⟩ := hx
  obtain ⟨p', n, m, h4, h5, h6, h7, h8, _, h9⟩ := hs.m.blk b _ hb
  rw [h2] at h4; cases h4
  have hh : w.heap[p.blk]? = some (.stringIter ⟨(sdec n).toArray⟩ m) := h8
  have h1' : m0 = 0 := by simpa [E.den] using h1.symm
  subst h1'
  have hsz : ¬ m < (ByteArray.mk (sdec n).toArray).size := by
    show ¬ m < (sdec n).toArray.size
    simpa using h9 rfl
  have hget : (getObj p.blk).run P w = .ok (.stringIter ⟨(sdec n).toArray⟩ m) w := by simp [getObj, Sem.run, hh]
  refine ⟨.tuple #[.bool false], w, g, .inl ?_, .refl _, rfl, ⟨_, rfl, ⟨0, rfl, rfl⟩, trivial⟩, hs⟩
  simp only [execOp, hop, h3, h5, Instr.next, Int.toNat_zero, Nat.zero_mul, Nat.add_zero, Sem.run_bind, hget, Result.andThen, hsz, if_false, Sem.run_pure]
theorem loud_sound {s : St} {o : Oper} {v : AV} {s1 : St} {ps : List PE} (hs : SRel A I P X g s a w) (hx : ∀ t, .tmp t ∈ o.op.operands.toList → ¬ X t)
    {kn : Kn} (h : loud P kn s o.op = some (v, s1, ps)) (hp : ∀ q ∈ ps, q.den I g.env) : LoudRun A I P X g a w o v s1 := by
  have ev : ∀ {y : Operand} {u : AV}, y ∈ o.op.operands.toList → evalOp s.tmps y = some u → Rel I g u (a.eval y) := fun hy hu => evalOp_rel hs.t hu fun t e => hx t (e ▸ hy)
  cases hop : o.op with
  | alloc t =>
    rw [hop] at h
    simp only [loud] at h
    split at h
    · split at h
      · rename_i bg hbg
        split at h
        · rename_i l m hz
          cases h
          have ht : bg.t = t := by have := List.find?_some hbg; simpa using this
          subst ht
          exact allocBig_loud hs hop hz
        · cases h
      · cases h
    · split at h
      · split at h
        · rename_i hz
          simp at h
          obtain ⟨rfl, rfl, rfl⟩ := h
          exact allocBld_loud hs hop hz
        · cases h
      · split at h
        · rename_i z hz
          simp at h
          obtain ⟨rfl, rfl, rfl⟩ := h
          exact alloc_loud hs hop hz
        · cases h
  | convert src dst x =>
    rw [hop] at h ev
    simp only [loud] at h
    split at h
    · rename_i hsd
      subst hsd
      unfold markBytes at h
      split at h
      · rename_i b lo n el hv hd
        split at h
        · rename_i t len hel hb
          cases h
          exact mark_loud hs hop hd hel (ev (by simp [Op.operands]) hv) hb
        · cases h
      · cases h
    split at h
    · rename_i tE n el hv hd hsrc
      split at h
      · rename_i hel hsz
        simp at h
        obtain ⟨rfl, rfl, rfl⟩ := h
        obtain ⟨u, hu, has⟩ := Option.bind_eq_some_iff.1 hv
        exact convert_loud hs hop hsrc hd hel (asTab_rel has (ev (by simp [Op.operands]) hu))
      · cases h
    · cases h
  | box t x =>
    rw [hop] at h ev
    simp only [loud] at h
    split at h
    · rename_i l ks tt n m hu
      split at h
      · cases h
        exact boxBig_loud hs hop (ev (by simp [Op.operands]) hu)
      · cases h
    · rename_i u hnb hu
      split at h
      · simp at h
        obtain ⟨rfl, rfl, rfl⟩ := h
        exact box_loud hs hop (ev (by simp [Op.operands]) hu) (evalOp_ne hu) (by cases u <;> first | rfl | exact (hnb _ _ _ _ _ rfl).elim)
      · cases h
    · cases h
  | makeMap t r =>
    rw [hop] at h
    cases r with
    | some _ => simp [loud] at h
    | none =>
      simp [loud] at h
      obtain ⟨rfl, rfl, rfl⟩ := h
      exact makeMap_loud hs hop
  | mapUpdate t y z x =>
    rw [hop] at h ev
    simp only [loud] at h
    split at h
    · rename_i b k v' kt et hy hz hv hu
      split at h
      · rename_i wd one ks tE n hb
        exact updateS_loud hs (.inl hop) hu hb (ev (by simp [Op.operands]) hy) (ev (by simp [Op.operands]) hz) (ev (by simp [Op.operands]) hv) h
      · rename_i ck t c hb
        exact closeF_loud hs hop hu hb (ev (by simp [Op.operands]) hy) (ev (by simp [Op.operands]) hz) (ev (by simp [Op.operands]) hv) h hp
      · exact mapUpdate_loud hs (.inl hop) hu (ev (by simp [Op.operands]) hy) (ev (by simp [Op.operands]) hz) (ev (by simp [Op.operands]) hv) h
    · cases h
  | insert t y z x =>
    rw [hop] at h ev
    simp only [loud] at h
    split at h
    · rename_i b k v' kt et hy hz hv hu
      split at h
      · rename_i wd one ks tE n hb
        exact updateS_loud hs (.inr hop) hu hb (ev (by simp [Op.operands]) hy) (ev (by simp [Op.operands]) hz) (ev (by simp [Op.operands]) hv) h
      · exact mapUpdate_loud hs (.inr hop) hu (ev (by simp [Op.operands]) hy) (ev (by simp [Op.operands]) hz) (ev (by simp [Op.operands]) hv) h
    · cases h
  | lookup t y z ok =>
    rw [hop] at h ev
    cases ok with
    | true => simp [loud] at h
    | false =>
      simp only [loud] at h
      split at h
      · rename_i b k kt et hy hz hu
        split at h
        · rename_i ck t c hb
          exact openF_loud hs hop hu hb (ev (by simp [Op.operands]) hy) (ev (by simp [Op.operands]) hz) h
        · cases h
      · cases h
  | range t x =>
    rw [hop] at h ev
    simp only [loud] at h
    split at h
    · rename_i c hc hu
      simp only [Option.some.injEq, Prod.mk.injEq] at h
      obtain ⟨rfl, rfl, rfl⟩ := h
      obtain ⟨v0, hv0, hcode⟩ := Option.bind_eq_some_iff.1 hc
      obtain ⟨n, h1, h2⟩ := code_rel hcode (ev (by simp [Op.operands]) hv0)
      exact range_loud hs hop hu h1 h2
    · cases h
  | next x str =>
    rw [hop] at h ev
    cases str with
    | false => simp [loud] at h
    | true =>
      simp only [loud] at h
      split at h
      · rename_i b hv0
        split at h
        · rename_i e q hb
          simp only [Option.some.injEq, Prod.mk.injEq] at h
          obtain ⟨rfl, rfl, rfl⟩ := h
          exact next_loud hs hop (ev (by simp [Op.operands]) hv0) hb
        · rename_i e q hb
          simp only [Option.some.injEq, Prod.mk.injEq] at h
          obtain ⟨rfl, rfl, rfl⟩ := h
          exact next_over hs hop (ev (by simp [Op.operands]) hv0) hb
        · cases h
      · cases h
  | store t y x =>
    rw [hop] at h ev
    simp only [loud] at h
    split at h
    · rename_i b r z k u n hy hu hn
      split at h
      · rename_i hl
        cases hst : storeAt s.mem b r z k u.cells with
        | none => simp [hst] at h
        | some q =>
          obtain ⟨M', ps'⟩ := q
          simp [hst] at h
          obtain ⟨rfl, rfl, rfl⟩ := h
          exact store_loud hs hop (ev (by simp [Op.operands]) hy) (ev (by simp [Op.operands]) hu) (evalOp_ne hu) (by cases u <;> first | rfl | simp [storeAt, AV.cells, AV.one] at hst) hn hl hst hp
      · cases h
    · cases h
  | buildSlice t n parts =>
    rw [hop] at h
    simp only [loud] at h
    split at h
    · rename_i el hu
      split at h
      · rename_i z sz l hz hsz hl
        split at h
        · rename_i hc
          split at h
          · rename_i vs hf
            split at h
            · simp at h
              obtain ⟨rfl, rfl, rfl⟩ := h
              exact buildSlice_loud hs hop hx hu hz hsz hl hc.1 hc.2 hf
            · cases h
          · cases h
        · cases h
      · cases h
    · cases h
  | makeSlice t l c =>
    rw [hop] at h ev
    simp only [loud] at h
    split at h
    · rename_i el k1 x k2 y hu hl hc
      split at h
      · rename_i z sz bytes hz hsz hb
        split at h
        · rename_i hcond
          obtain ⟨h0, rfl, h1, h2, h3⟩ := hcond
          split at h
          · rename_i ks hks
            split at h
            · rename_i haz
              simp at h
              obtain ⟨rfl, rfl, rfl⟩ := h
              exact makeSlice_loud hs hop hu (ev (by simp [Op.operands]) hl) (ev (by simp [Op.operands]) hc) hz hsz hb h0 h1 h2 h3 hks haz
            · cases h
          · split at h
            · cases h
              exact makeCells_loud hs hop hu (ev (by simp [Op.operands]) hl) (ev (by simp [Op.operands]) hc) hz hsz hb h0 h1 h2 h3
            · cases h
        · cases h
      · cases h
    · rename_i hu hl hc
      exact makeSym_loud hs hop hu (ev (by simp [Op.operands]) hl) (ev (by simp [Op.operands]) hc) h hp
    · cases h
  | call c =>
    obtain ⟨callee, args, argTypes⟩ := c
    rw [hop] at h ev
    cases callee with
    | builtin b =>
      cases b with
      | copy =>
        simp only [loud] at h
        split at h
        · rename_i x y t t' ha hat
          have ha' := toList_two ha
          have hat' := toList_two hat
          subst ha'; subst hat'
          split at h
          · rename_i xv yv el hv1 hv2 ht
            split at h
            · rename_i zv sz hz hsz
              split at h
              · rename_i ks hks
                split at h
                · rename_i hl
                  cases hcl : copyAV s.mem sz ks xv yv with
                  | none => simp [hcl] at h
                  | some q =>
                    obtain ⟨n, M', ps'⟩ := q
                    simp [hcl] at h
                    obtain ⟨rfl, rfl, rfl⟩ := h
                    exact copy_loud hs hop ht hsz hl (ev (by simp [Op.operands, Call.operands]) hv1) (ev (by simp [Op.operands, Call.operands]) hv2) hcl hp
                · cases h
              · cases h
            · cases h
          · cases h
        · cases h
      | append =>
        simp only [loud] at h
        split at h
        · rename_i x y t u ha hat
          have ha' := toList_two ha
          have hat' := toList_two hat
          subst ha'; subst hat'
          split at h
          · rename_i v1 kd e el k hv1 hv2 ht hu
            split at h
            · rename_i r hr
              cases h
              exact appendZeros_loud hs hop ht hu (ev (by simp [Op.operands, Call.operands]) hv1) (ev (by simp [Op.operands, Call.operands]) hv2) hr hp
            · exact appendZeroCells_loud hs hop ht hu (ev (by simp [Op.operands, Call.operands]) hv1) (ev (by simp [Op.operands, Call.operands]) hv2) h
          · rename_i v1 v2 el d hv1 hv2 ht hu
            split at h
            · split at h
              · exact append_loud hs hop ht hu (ev (by simp [Op.operands, Call.operands]) hv1) (ev (by simp [Op.operands, Call.operands]) hv2) h hp
              · exact appendCells_loud hs hop ht hu (ev (by simp [Op.operands, Call.operands]) hv1) (ev (by simp [Op.operands, Call.operands]) hv2) h
            · cases h
          · cases h
        · cases h
      | clear =>
        simp only [loud] at h
        split at h
        · rename_i x t ha hat
          have ha' := toList_one ha
          have hat' := toList_one hat
          subst ha'; subst hat'
          split at h
          · rename_i b k n z el hv1 ht
            split at h
            · rename_i zv sz hz hsz
              split at h
              · rename_i hc
                obtain ⟨rfl, hl⟩ := hc
                cases hcl : clearAt s.mem b k sz zv.cells n with
                | none => simp [hcl] at h
                | some q =>
                  obtain ⟨M', ps'⟩ := q
                  simp [hcl] at h
                  obtain ⟨rfl, rfl, rfl⟩ := h
                  exact clear_loud hs hop ht (ev (by simp [Op.operands, Call.operands]) hv1) hz hl hcl hp
              · cases h
            · cases h
          · cases h
        · cases h
      | _ => simp [loud] at h
    | _ => simp [loud] at h
  | _ => rw [hop] at h; simp [loud] at h
section vc
variable {env : List D}
theorem colOk_den {c : Nat} {lo hi : Int} : ∀ {e : E}, e.colOk c lo hi = true → ∃ f, e.den I env = some (.t f) ∧ ∀ r : Int, lo ≤ f r c ∧ f r c ≤ hi := by
  intro e
  induction e with
  | zt => intro h; simp [E.colOk] at h; exact ⟨_, rfl, fun _ => h⟩
  | kt row => intro h; simp [E.colOk] at h; exact ⟨_, rfl, fun _ => by simpa using h⟩
  | upd t r d v iht _ _ =>
    intro h
    cases r with
    | lit m =>
      cases v with
      | lit n =>
        simp only [E.colOk, Bool.and_eq_true, Bool.or_eq_true, bne_iff_ne, ne_eq, decide_eq_true_eq] at h
        obtain ⟨f, h1, h2⟩ := iht h.2
        refine ⟨tupd f m d n, by simp [E.den, h1], fun r => ?_⟩
        simp only [tupd]
        split
        · rename_i hc
          rcases h.1 with h3 | h3
          · exact absurd hc.2.symm h3
          · exact h3
        · exact h2 r
      | _ => simp [E.colOk] at h
    | _ => simp [E.colOk] at h
  | _ => intro h; simp [E.colOk] at h
theorem mkAssert_vc {p : PE} {t : Tree} (h : (mkAssert p t).vc I env) : p.den I env ∧ t.vc I env := by
  unfold mkAssert at h
  split at h
  · split at h
    · exact h.elim
    · rename_i n hn; exact ⟨⟨n, rfl, hn⟩, h⟩
  · split at h
    · rename_i n hn; subst hn; exact ⟨rfl, h⟩
    · exact h.elim
  · split at h
    · rename_i k n hn; exact ⟨⟨n, rfl, hn⟩, h⟩
    · exact h.elim
  · exact ⟨⟨_, rfl⟩, h⟩
  · exact ⟨⟨_, rfl⟩, h⟩
  · split at h
    · rename_i hc; exact ⟨colOk_den hc, h⟩
    · exact h
  · exact h
theorem mkAsserts_vc : ∀ {ps : List PE} {t : Tree}, (mkAsserts ps t).vc I env → (∀ p ∈ ps, p.den I env) ∧ t.vc I env
  | [], t, h => ⟨by simp, h⟩
  | p :: ps, t, h => by
    obtain ⟨h1, h2⟩ := mkAssert_vc h
    obtain ⟨h3, h4⟩ := mkAsserts_vc h2
    exact ⟨List.forall_mem_cons.2 ⟨h1, h3⟩, h4⟩
theorem assumes_vc : ∀ {ps : List PE} {t : Tree}, (assumes ps t).vc I env → (∀ p ∈ ps, p.den I env) → t.vc I env
  | [], t, h, _ => h
  | p :: ps, t, h, hp => assumes_vc (h (hp p (by simp))) fun q hq => hp q (by simp [hq])
def Sorts : List Bool → List D → Prop
  | [], [] => True
  | true :: l, .t _ :: m => Sorts l m
  | false :: l, .i _ :: m => Sorts l m
  | _, _ => False
theorem Sorts.length : ∀ {l : List Bool} {m : List D}, Sorts l m → m.length = l.length
  | [], [], _ => rfl
  | true :: l, .t _ :: m, h => by simp [Sorts.length (l := l) (m := m) h]
  | false :: l, .i _ :: m, h => by simp [Sorts.length (l := l) (m := m) h]
  | [], _ :: _, h => by simp [Sorts] at h
  | true :: _, [], h => by simp [Sorts] at h
  | false :: _, [], h => by simp [Sorts] at h
  | true :: _, .i _ :: _, h => by simp [Sorts] at h
  | false :: _, .t _ :: _, h => by simp [Sorts] at h
theorem havocs_vc : ∀ {l : List Bool} {ds : List D} {env : List D} {t : Tree}, (havocs l t).vc I env → Sorts l ds → t.vc I (env ++ ds)
  | [], [], env, t, h, _ => by simpa [havocs] using h
  | true :: l, .t f :: m, env, t, h, hs => by
    have := havocs_vc (l := l) (ds := m) (env := env ++ [.t f]) (h f) hs
    simpa using this
  | false :: l, .i n :: m, env, t, h, hs => by
    have := havocs_vc (l := l) (ds := m) (env := env ++ [.i n]) (h n) hs
    simpa using this
  | [], _ :: _, _, _, _, h => by simp [Sorts] at h
  | true :: _, [], _, _, _, h => by simp [Sorts] at h
  | false :: _, [], _, _, _, h => by simp [Sorts] at h
  | true :: _, .i _ :: _, _, _, _, h => by simp [Sorts] at h
  | false :: _, .t _ :: _, _, _, _, h => by simp [Sorts] at h
end vc
end Go.Sx
end
noncomputable section
namespace Go.Sx
open Go
variable {A : Amb} {I : Itp} {P : Program} {g : G} {X : Nat → Prop} {ts : Tmps} {a : Act} {M : Mem} {w : World}
def FW (r : Option Nat) : Fence := { Fence.wide with round := r }
def Ex.toX : Ex → Exit
  | .normal => .normal
  | .ret => .ret
  | .exit id => .exit id
  | .goto l => .goto l
def Post (A : Amb) (I : Itp) (P : Program) (X : Nat → Prop) (g : G) (k : Ex → St → Tree) : Exit → Act → World → Prop :=
  fun e a w => ∃ x g' s', e = Ex.toX x ∧ g.Le g' ∧ SRel A I P X g' s' a w ∧ (k x s').vc I g'.env
def RndRel (g : G) : Option Nat → Option Nat → Prop
  | none, none => True
  | some b, some l => ∃ p, g.φ b = some p ∧ l = p.blk
  | _, _ => False
theorem RndRel.le {g g' : G} (h : g.Le g') (hw : g.wf) : ∀ {x y : Option Nat}, RndRel g x y → RndRel g' x y
  | none, none, _ => trivial
  | some _, some _, ⟨p, h1, h2⟩ => ⟨p, h.some hw h1, h2⟩
  | none, some _, h => h.elim
  | some _, none, h => h.elim
def COK (P : Program) (fn o : Nat) (c : Code) : Prop := ∀ i rf, (rfs c)[i]? = some rf → rfAt P fn (o + i) = some rf
def CallTo (r : Option Nat) (n : Nat) (P : Program) (x : Value) (xs : List Value) (w : World) (R : Value → World → Prop) : Prop :=
  ∃ nx w1, (do let d ← Deferred.ofValue x xs.toArray; invoke d.target d.args : Sem Next).run P w = .ok nx w1 ∧
    ((∃ f args, nx = .enter f args ∧ CallsIn (FW r) n P f args w1 fun e w' => ∃ v, e = .returned v ∧ R v w') ∨
     (∃ l f tmps assign body, nx = .round l f tmps assign body ∧ RoundIn (FW r) n P l f tmps assign body w1 fun e w' => ∃ v, e = .returned v ∧ R v w'))
def CPost (A : Amb) (I : Itp) (P : Program) (X : Nat → Prop) (g : G) (a : Act) (k : AV → St → Tree) : Value → World → Prop :=
  fun v w => ∃ av g' s', g.Le g' ∧ Rel I g' av v ∧ SRel A I P X g' s' a w ∧ (k av s').vc I g'.env
def LoopWp (F : Fence) (n : Nat) (P : Program) (c : Code) (Q : Exit → Act → World → Prop) (a : Act) (w : World) : Prop :=
  ∀ (b : Frame) (k : List Item) (cs : List Frame), b.roundOf = F.round → F.fn b.fn → F.room (cs.length + 1 + n) →
    ∃ e a' w', Q e a' w' ∧ ArrivesIn (Machine.fenced P F) P (lone (b.atR a (.code c :: .inLoop c :: k)) cs w) b k cs e a' w'
structure EngSound (I : Itp) (cx : Cx) (e : Eng) : Prop where
  exec : ∀ {A : Amb} {g : G} {fn : FuncId} {rnd r : Option Nat} {bid o : Nat} {c : Code} {s : St} {k : Ex → St → Tree} {a : Act} {w : World},
    GOk cx.kn.globs A → (e.exec fn rnd bid o c s k).vc I g.env → SRel A I cx.P (fun _ => False) g s a w → RndRel g rnd r → COK cx.P fn o c → ∀ n, c.wpIn (FW r) n cx.P (Post A I cx.P (fun _ => False) g k) a w
  loop : ∀ {A : Amb} {g : G} {fn : FuncId} {rnd r : Option Nat} {bid o : Nat} {c : Code} {s : St} {k : Ex → St → Tree} {a : Act} {w : World},
    GOk cx.kn.globs A → (e.loop fn rnd bid o c s k).vc I g.env → SRel A I cx.P (fun _ => False) g s a w → RndRel g rnd r → COK cx.P fn o c → ∀ n, LoopWp (FW r) n cx.P c (Post A I cx.P (fun _ => False) g k) a w
  callv : ∀ {A : Amb} {X : Nat → Prop} {g : G} {r : Option Nat} {f : AV} {args : List AV} {s : St} {k : AV → St → Tree} {a : Act} {w : World} {x : Value} {xs : List Value},
    GOk cx.kn.globs A → (e.callv f args s k).vc I g.env → SRel A I cx.P X g s a w → Rel I g f x → Rels I g args xs → ∀ n, CallTo r n cx.P x xs w (CPost A I cx.P X g a k)
  callf : ∀ {A : Amb} {X : Nat → Prop} {g : G} {f : FuncId} {cap args : List AV} {s : St} {k : AV → St → Tree} {a : Act} {w : World} {xs : List Value},
    GOk cx.kn.globs A → (e.callv (.func f cap) args s k).vc I g.env → SRel A I cx.P X g s a w → Rels I g (args ++ cap) xs →
      (∃ fn c, cx.P.funcs[f]? = some fn ∧ fn.body = some c ∧ (fn.name == "runtime.NumGoroutine") = false) ∧ Calls cx.P f xs.toArray w fun e w' => ∃ v, e = .returned v ∧ CPost A I cx.P X g a k v w'
theorem SRel.setT {s s' : St} {dst : Option Tmp} {v : AV} {x : Value} (hs : SRel A I P X g s a w) (hv : Rel I g v x) (h : setT s dst v = some s') : SRel A I P X g s' (a.put dst x) w := by
  rw [setT_eq] at h
  cases dst with
  | none => simp at h; subst h; exact hs
  | some d =>
    simp only at h
    split at h
    · rename_i hd
      simp at h; subst h
      refine ⟨hs.m, fun t u ht hX => ?_, (by show (a.tmps.setIfInBounds d x).size = s.nt; rw [Array.size_setIfInBounds]; exact hs.nt), hs.d, hs.nv, hs.nb⟩
      have ht : get (putT d v s.tmps) t = some u := ht
      rw [get_putT] at ht
      by_cases htd : d = t
      · subst htd
        rw [if_pos rfl] at ht; simp at ht; subst ht
        exact ⟨x, by simp [Act.put, hs.nt, hd], hv⟩
      · rw [if_neg htd] at ht
        obtain ⟨y, h1, h2⟩ := hs.t t u ht hX
        exact ⟨y, by simp [Act.put, Array.getElem?_setIfInBounds_ne htd, h1], h2⟩
    · cases h
def NPost (A : Amb) (I : Itp) (P : Program) (X : Nat → Prop) (g : G) (k : St → Tree) : Act → World → Prop :=
  fun a w => ∃ g' s', g.Le g' ∧ SRel A I P X g' s' a w ∧ (k s').vc I g'.env
theorem CallTo.upon {r : Option Nat} {n : Nat} {x : Value} {xs : List Value} {R : Value → World → Prop} {o : Oper} {K : Act → World → Prop} {Q : Exit → Act → World → Prop}
    {f : Operand} {args : Array Operand} {tys : Array TypeId} (hop : o.op = .call { callee := .value f, args, argTypes := tys })
    (hx : a.eval f = x) (hxs : args.toList.map a.eval = xs) (h : CallTo r (n - 1) P x xs w R) (hK : ∀ v w', R v w' → K (a.put o.dst v) w') :
    o.wpIn (FW r) n P a w K Q := by
  obtain ⟨nx, w1, hrun, hc⟩ := h
  refine ⟨fun _ _ => trivial, ?_⟩
  have hsem : (o.semAt (FW r).round a.eval).run P w = .ok nx w1 := by
    rw [Oper.semAt_eq _ _ _ (fun c hc => by rw [hop] at hc; cases hc)]
    have : execOp a.eval o = (do let d ← Deferred.ofValue x xs.toArray; invoke d.target d.args) := by
      have e : args.map a.eval = xs.toArray := Array.toList_inj.1 (by rw [← hxs]; exact Array.toList_map)
      simp [execOp, hop, resolve, hx, e]
    rw [this]; exact hrun
  rw [hsem]
  rcases hc with ⟨f', args', rfl, hcall⟩ | ⟨l, f', tmps, assign, body, rfl, hround⟩
  · refine ⟨fun h => by simp [FW, Fence.wide] at h, hcall.mono fun e w' he => ?_⟩
    obtain ⟨v, rfl, hv⟩ := he
    exact hK v w' hv
  · refine ⟨fun h => by simp [FW, Fence.wide] at h, hround.mono fun e w' he => ?_⟩
    obtain ⟨v, rfl, hv⟩ := he
    exact hK v w' hv
theorem callOf_inv {o : Op} {f : AV} {l : List AV} (h : callOf ts o = some (f, l)) : ∃ fo args tys, o = .call { callee := .value fo, args, argTypes := tys } ∧ evalOp ts fo = some f ∧ evalOps ts args.toList = some l := by
  unfold callOf at h
  split at h
  · rename_i fo args tys
    split at h
    · rename_i v l' h1 h2
      simp at h
      obtain ⟨rfl, rfl⟩ := h
      exact ⟨fo, args, tys, rfl, h1, h2⟩
    · cases h
  · cases h
theorem quiet_wp {cx : Cx} {s s' : St} {o : Oper} {v : AV} {ps : List PE} {k : St → Tree} {r : Option Nat} {n : Nat} {Q : Exit → Act → World → Prop} (hG : GOk cx.kn.globs A) (hs : SRel A I cx.P X g s a w)
    (hx : ∀ t, .tmp t ∈ o.op.operands.toList → ¬ X t) (hq : quiet cx.P cx.kn s.tmps s.mem o.op = some (v, ps)) (hset : setT s o.dst v = some s') (h : (mkAsserts ps (k s')).vc I g.env) :
    o.wpIn (FW r) n cx.P a w (NPost A I cx.P X g k) Q := by
  obtain ⟨hp, hk⟩ := mkAsserts_vc h
  obtain ⟨x, h1, h2⟩ := quiet_sound hG hs.m hs.t hx hq hp
  refine ⟨fun _ _ => trivial, ?_⟩
  rw [Oper.semAt_eq _ _ _ (fun c hc => quiet_noDefer hc hq), h1]
  exact ⟨g, s', .refl _, hs.setT h2 hset, hk⟩
theorem loud_wp {cx : Cx} {s s1 s' : St} {o : Oper} {v : AV} {ps : List PE} {k : St → Tree} {r : Option Nat} {n : Nat} {Q : Exit → Act → World → Prop} (hs : SRel A I cx.P X g s a w)
    (hx : ∀ t, .tmp t ∈ o.op.operands.toList → ¬ X t) (hq : loud cx.P cx.kn s o.op = some (v, s1, ps)) (hset : setT s1 o.dst v = some s') (h : (mkAsserts ps (k s')).vc I g.env) :
    o.wpIn (FW r) n cx.P a w (NPost A I cx.P X g k) Q := by
  obtain ⟨hp, hk⟩ := mkAsserts_vc h
  obtain ⟨x, w', g', h1, h2, henv, h3, h4⟩ := (loud_sound hs hx hq hp).run
  refine ⟨fun _ _ => trivial, ?_⟩
  rw [Oper.semAt_eq _ _ _ (fun c hc => by rw [hc] at hq; simp [loud] at hq)]
  have hk' : (k s').vc I g'.env := by rw [henv]; exact hk
  rcases h1 with h1 | ⟨h1, rfl⟩
  · rw [h1]; exact ⟨g', s', h2, h4.setT h3 hset, hk'⟩
  · rw [h1]; exact ⟨g', s', h2, h4.setT h3 hset, hk'⟩
theorem call_wp {cx : Cx} {e : Eng} (hE : EngSound I cx e) {s : St} {o : Oper} {f : AV} {l : List AV} {k : St → Tree} {r : Option Nat} {n : Nat} {Q : Exit → Act → World → Prop} {bad : Nat} (hG : GOk cx.kn.globs A) (hs : SRel A I cx.P X g s a w)
    (hx : ∀ t, .tmp t ∈ o.op.operands.toList → ¬ X t) (hq : callOf s.tmps o.op = some (f, l))
    (h : (e.callv f l s fun v s1 => match setT s1 o.dst v with | some s' => k s' | none => .fail bad).vc I g.env) :
    o.wpIn (FW r) n cx.P a w (NPost A I cx.P X g k) Q := by
  obtain ⟨fo, args, tys, hop, h1, h2⟩ := callOf_inv hq
  have hf : Rel I g f (a.eval fo) := evalOp_rel hs.t h1 fun t e => hx t (by rw [hop, e]; simp [Op.operands, Call.operands])
  have hl : Rels I g l (args.toList.map a.eval) := evalOps_rel hs.t h2 fun t ht => hx t (by rw [hop]; simp [Op.operands, Call.operands]; right; simpa using ht)
  refine (hE.callv hG h hs hf hl (n - 1)).upon hop rfl rfl fun v w' hv => ?_
  obtain ⟨av, g', s', h3, h4, h5, h6⟩ := hv
  dsimp only at h6
  split at h6
  · rename_i s'' hset
    exact ⟨g', s'', h3, h5.setT h4 hset, h6⟩
  · exact h6.elim
theorem defer_wp {cx : Cx} {s : St} {o : Oper} {d : DV} {k : St → Tree} {r : Option Nat} {n : Nat} {Q : Exit → Act → World → Prop} (hd : r = none ∨ isDefer o.op = false) (hs : SRel A I cx.P X g s a w)
    (hx : ∀ t, .tmp t ∈ o.op.operands.toList → ¬ X t) (hq : deferOf s.tmps o.op = some d) (hdst : o.dst = none) (h : (k { s with defers := d :: s.defers }).vc I g.env) :
    o.wpIn (FW r) n cx.P a w (NPost A I cx.P X g k) Q := by
  unfold deferOf at hq
  split at hq
  case h_2 => cases hq
  rename_i fo args tys hop
  split at hq
  case isFalse => cases hq
  rename_i hsz
  have hargs : args = #[] := Array.eq_empty_of_size_eq_zero hsz
  subst hargs
  have hr : r = none := by
    rcases hd with hd | hd
    · exact hd
    · rw [hop] at hd; simp [isDefer] at hd
  subst hr
  have fin : ∀ {x : Deferred}, (Deferred.ofValue (a.eval fo) #[]).run cx.P w = .ok x w → DVRel I g d x → o.wpIn (FW none) n cx.P a w (NPost A I cx.P X g k) Q := fun {x} h1 h2 => by
    refine ⟨fun _ _ => trivial, ?_⟩
    have : (o.semAt (FW none).round a.eval).run cx.P w = .ok (.defer x) w := by
      show (Oper.semAt none a.eval o).run cx.P w = .ok (.defer x) w
      rw [Oper.semAt_none]
      simp [execOp, hop, resolve, h1, Result.andThen]
    rw [this, Oper.uponIn_defer, hdst]
    exact ⟨g, { s with defers := d :: s.defers }, .refl _, ⟨hs.m, hs.t, hs.nt, (show DVRel I g d x ∧ DRel I g s.defers a.defers from ⟨h2, hs.d⟩), hs.nv, hs.nb⟩, h⟩
  split at hq
  · rename_i f l he
    cases hq
    obtain ⟨cs, h1, h2⟩ := evalOp_rel hs.t he fun t e => hx t (by rw [hop, e]; simp [Op.operands, Call.operands])
    rw [h1] at fin
    exact fin (x := { target := .fn (.func f) cs, args := #[] }) (by simp [Deferred.ofValue]) ⟨#[], cs, rfl, trivial, h2⟩
  · rename_i f m l he
    cases hq
    obtain ⟨ms, cs, h1, h2, h3⟩ := evalOp_rel hs.t he fun t e => hx t (by rw [hop, e]; simp [Op.operands, Call.operands])
    rw [h1] at fin
    exact fin (x := { target := .fn (.func f) cs, args := ms }) (by simp [Deferred.ofValue]) ⟨ms, cs, rfl, h2, h3⟩
  · cases hq
theorem oper1_wp {cx : Cx} {e : Eng} (hE : EngSound I cx e) {s : St} {o : Oper} {k : St → Tree} {r : Option Nat} {n : Nat} {Q : Exit → Act → World → Prop} (hG : GOk cx.kn.globs A) (hd : r = none ∨ isDefer o.op = false) (hs : SRel A I cx.P X g s a w)
    (hx : ∀ t, .tmp t ∈ o.op.operands.toList → ¬ X t) (h : (oper1 cx e s o k).vc I g.env) : o.wpIn (FW r) n cx.P a w (NPost A I cx.P X g k) Q := by
  unfold oper1 at h
  rw [loudF_eq] at h
  split at h
  · rename_i v ps hq
    split at h
    · rename_i s' hset; exact quiet_wp hG hs hx hq hset h
    · exact h.elim
  · split at h
    · rename_i v s1 ps hq
      split at h
      · rename_i s' hset; exact loud_wp hs hx hq hset h
      · exact h.elim
    · split at h
      · rename_i f l hq; exact call_wp hE hG hs hx hq h
      · split at h
        · rename_i d hdf
          split at h
          · rename_i hdst
            exact defer_wp hd hs hx hdf hdst h
          · exact h.elim
        · exact h.elim
theorem setBool_rel {s : St} {t : Nat} {c : E} {n : Int} (hs : SRel A I P X g s a w) (ht : get s.tmps t = some (.bool c)) (hc : c.den I g.env = some (.i n)) :
    SRel A I P X g (setBool s t (decide (n ≠ 0))) a w := by
  refine ⟨hs.m, fun u v hu hX => ?_, hs.nt, hs.d, hs.nv, hs.nb⟩
  have hu : get (putT t (.bool (.lit (if decide (n ≠ 0) = true then 1 else 0))) s.tmps) u = some v := hu
  rw [get_putT] at hu
  by_cases htu : t = u
  · subst htu
    rw [if_pos rfl] at hu; simp only [Option.some.injEq] at hu; subst hu
    obtain ⟨x, h1, m, h2, rfl⟩ := hs.t t _ ht hX
    rw [hc] at h2; simp at h2; subst h2
    refine ⟨_, h1, _, rfl, ?_⟩
    by_cases hn : n = 0 <;> simp [hn]
  · rw [if_neg htu] at hu
    exact hs.t u v hu hX
theorem yielded_of {ops : Array Oper} {j t : Nat} {tmps : Array Value} {b : Bool} (hj : (ops[j]?).bind (·.dst) = some t) (ht : tmps[t]? = some (.bool b)) : yielded ops tmps j = some b := by
  unfold yielded
  rw [hj]
  simp [ht]
theorem wantedA_inl {ops : Array Oper} {s : St} {o : Oper} {b : Bool} (hs : SRel A I P X g s a w) (hX : ∀ t ∈ guardT ops o, ¬ X t) (h : wantedA ops s o = some (.inl b)) :
    Region.wanted o (yielded ops a.tmps) = b := by
  unfold wantedA at h
  unfold Region.wanted
  split at h
  · rename_i hg; rw [hg]; simpa using h
  · rename_i j want hg
    rw [hg]
    simp only
    split at h
    · rename_i t hj
      have hXt : ¬ X t := hX t (by simp only [guardT, hg, hj]; simp)
      split at h
      · rename_i n ht
        obtain ⟨x, h1, m, h2, rfl⟩ := hs.t t _ ht hXt
        simp [E.den] at h2; subst h2
        rw [yielded_of hj h1]
        simp at h
        rw [← h]
        by_cases hn : n = 0 <;> cases want <;> simp [hn]
      · cases h
      · rename_i ht
        obtain ⟨x, h1, h2⟩ := hs.t t _ ht hXt
        simp only [Rel] at h2
        subst h2
        simp at h; subst h
        unfold yielded
        rw [hj]
        simp [h1, Go.undef]
      · cases h
    · cases h
theorem wantedA_inr {ops : Array Oper} {s : St} {o : Oper} {t : Nat} {c : E} (hs : SRel A I P X g s a w) (hX : ∀ t ∈ guardT ops o, ¬ X t) (h : wantedA ops s o = some (.inr (t, c))) :
    ∃ j want, o.guard = some (j, want) ∧ get s.tmps t = some (.bool c) ∧ ∃ n : Int, c.den I g.env = some (.i n) ∧ Region.wanted o (yielded ops a.tmps) = (decide (n ≠ 0) == want) := by
  unfold wantedA at h
  split at h
  · simp at h
  · rename_i j want hg
    split at h
    · rename_i t' hj
      have hXt : ¬ X t' := hX t' (by simp only [guardT, hg, hj]; simp)
      split at h
      · cases h
      · rename_i e ht
        simp at h
        obtain ⟨rfl, rfl⟩ := h
        obtain ⟨x, h1, n, h2, rfl⟩ := hs.t t' _ ht hXt
        refine ⟨j, want, hg, ht, n, h2, ?_⟩
        unfold Region.wanted
        rw [hg]
        simp only
        rw [yielded_of hj h1]
        by_cases hn : n = 0 <;> cases want <;> simp [hn]
      · cases h
      · cases h
    · cases h
theorem pickA_some {s : St} {o : Oper} {t : Nat} {c : E} (h : pickA s o = some (t, c)) : get s.tmps t = some (.bool c) ∧ .tmp t ∈ o.op.operands.toList := by
  unfold pickA at h
  split at h
  · rename_i t' x y hop
    split at h
    · cases h
    · rename_i e _ ht
      simp at h
      obtain ⟨rfl, rfl⟩ := h
      exact ⟨ht, by rw [hop]; simp [Op.operands]⟩
    · cases h
  · cases h
theorem splitO0_some {s : St} {o : Op} {i : Nat} {kd : IntKind} {x : E} {n : Nat} (h : splitO0 s o = some (i, kd, x, n)) : get s.tmps i = some (.int kd x) := by
  unfold splitO0 at h
  split at h
  · split at h
    · rename_i hg
      split at h
      · split at h
        · simp at h
          obtain ⟨rfl, rfl, rfl, rfl⟩ := h
          exact hg
        · cases h
      · cases h
    · rename_i hg
      split at h
      · split at h
        · simp at h
          obtain ⟨rfl, rfl, rfl, rfl⟩ := h
          exact hg
        · cases h
      · cases h
    · cases h
  · split at h
    · rename_i hg
      split at h
      · split at h
        · simp at h
          obtain ⟨rfl, rfl, rfl, rfl⟩ := h
          exact hg
        · cases h
      · cases h
    · cases h
  · cases h
theorem splitO_some {kn : Kn} {s : St} {o : Op} {i : Nat} {kd : IntKind} {x : E} {n : Nat} (h : splitO kn s o = some (i, kd, x, n)) : get s.tmps i = some (.int kd x) := by
  unfold splitO at h
  split at h
  · cases h
  · exact splitO0_some h
theorem splitA_some {kn : Kn} {s : St} {o : Oper} {i : Nat} {kd : IntKind} {x : E} {n : Nat} (h : splitA kn s o = some (i, kd, x, n)) : get s.tmps i = some (.int kd x) := splitO_some h
theorem splitT_vc {x : E} {f : Nat → Tree} {env : List D} {z : Int} (hx : x.den I env = some (.i z)) : ∀ {n : Nat}, (splitT x f n).vc I env → ∃ j : Nat, z = j ∧ (f j).vc I env
  | 0, h => h.elim
  | n + 1, h => by
    obtain ⟨h1, h2⟩ := h
    have hd := den_mkBin (o := .eq) hx (show (E.lit (n : Int)).den I env = some (.i n) from rfl)
    by_cases hz : z = n
    · exact ⟨n, hz, h1 _ hd (by simp [BO.ev, hz])⟩
    · simp only [BO.ev, if_neg hz] at hd
      exact splitT_vc hx (h2 hd)
theorem splitN_some {s : St} {o : Oper} {b : Nat} {e q : E} (h : splitN s o = some (b, e, q)) : get s.mem b = some (.iter e q 0) := by
  unfold splitN at h
  split at h
  · split at h
    · split at h
      · rename_i hb
        simp only [Option.some.injEq, Prod.mk.injEq] at h
        obtain ⟨rfl, rfl, rfl⟩ := h
        exact hb
      · cases h
    · cases h
  · cases h
theorem branchE_vc {c : E} {t f : Tree} {env : List D} (h : (branchE c t f).vc I env) : ((∀ n, c.den I env = some (.i n) → n ≠ 0 → t.vc I env) ∧ (c.den I env = some (.i 0) → f.vc I env)) := by
  unfold branchE at h
  split at h
  · rename_i n
    split at h
    · rename_i h0
      subst h0
      exact ⟨fun m hm hm0 => absurd (by simpa [E.den] using hm.symm) hm0, fun _ => h⟩
    · rename_i h0
      exact ⟨fun _ _ _ => h, fun h1 => absurd (by simpa [E.den] using h1) h0⟩
  · exact h
theorem setIter_rel {s : St} {b : Nat} {e q : E} {k : Nat} (hs : SRel A I P X g s a w) (hb : get s.mem b = some (.iter e q 0))
    (hcond : ∀ (n : Int) (m : Nat), e.den I g.env = some (.i n) → q.den I g.env = some (.i (m : Nat)) → (k = 1 → m < (sdec n).length) ∧ (k = 2 → ¬ m < (sdec n).length)) : SRel A I P X g (setIter s b e q k) a w := by
  obtain ⟨p, n, m, h1, h2, h3, h4, h5, _⟩ := hs.m.blk b _ hb
  exact hs.mem (hs.m.write (w' := w) hb rfl h1 rfl (fun _ _ => rfl) ⟨p, n, m, h1, h2, h3, h4, h5, hcond n m h3 h4⟩)
theorem operS_wp {cx : Cx} {e : Eng} (hE : EngSound I cx e) {s : St} {o : Oper} {k : St → Tree} {r : Option Nat} {n : Nat} {Q : Exit → Act → World → Prop}
    (hG : GOk cx.kn.globs A) (hd : r = none ∨ isDefer o.op = false) (hs : SRel A I cx.P (fun _ => False) g s a w) (h : (operS cx e s o k).vc I g.env) : o.wpIn (FW r) n cx.P a w (NPost A I cx.P (fun _ => False) g k) Q := by
  unfold operS at h
  split at h
  · rename_i b x q hsp
    have hb := splitN_some hsp
    obtain ⟨p, m, j, _, _, h3, h4, _⟩ := hs.m.blk b _ hb
    have hc := den_mkBin (o := .lt) h4 (den_mkLen h3)
    obtain ⟨hv1, hv2⟩ := branchE_vc h
    have inj : ∀ (n : Int) (i : Nat), x.den I g.env = some (.i n) → q.den I g.env = some (.i (i : Nat)) → n = m ∧ i = j := fun n i hn hi => by
      rw [h3] at hn; rw [h4] at hi
      simp only [Option.some.injEq, D.i.injEq] at hn hi
      exact ⟨hn.symm, by omega⟩
    by_cases hlt : j < (sdec m).length
    · have e1 : BO.lt.ev (j : Int) (slen m) = 1 := by simp only [BO.ev, slen]; exact if_pos (by omega)
      refine oper1_wp hE hG hd (s := setIter s b x q 1) (setIter_rel hs hb fun n i hn hi => ?_) (fun _ _ h => h) (hv1 1 (by rw [hc, e1]) (by decide))
      obtain ⟨rfl, rfl⟩ := inj n i hn hi
      exact ⟨fun _ => hlt, fun h => by omega⟩
    · have e1 : BO.lt.ev (j : Int) (slen m) = 0 := by simp only [BO.ev, slen]; exact if_neg (by omega)
      refine oper1_wp hE hG hd (s := setIter s b x q 2) (setIter_rel hs hb fun n i hn hi => ?_) (fun _ _ h => h) (hv2 (by rw [hc, e1]))
      obtain ⟨rfl, rfl⟩ := inj n i hn hi
      exact ⟨fun h => by omega, fun _ => hlt⟩
  split at h
  · rename_i i kd x m hsp
    have ht := splitA_some hsp
    obtain ⟨y, h1, z, h2, rfl⟩ := hs.t i _ ht (fun h => h)
    obtain ⟨j, rfl, hv⟩ := splitT_vc h2 h
    refine oper1_wp hE hG hd (s := setInt s i kd j) ⟨hs.m, fun t v hv' hX => ?_, hs.nt, hs.d, hs.nv, hs.nb⟩ (fun _ _ h => h) hv
    have hv' : get (putT i (.int kd (.lit j)) s.tmps) t = some v := hv'
    rw [get_putT] at hv'
    by_cases hit : i = t
    · subst hit
      rw [if_pos rfl] at hv'
      simp only [Option.some.injEq] at hv'
      subst hv'
      exact ⟨_, h1, j, rfl, rfl⟩
    · rw [if_neg hit] at hv'
      exact hs.t t v hv' hX
  · exact oper1_wp hE hG hd hs (fun _ _ h => h) h
theorem oper_wp {cx : Cx} {e : Eng} (hE : EngSound I cx e) {ops : Array Oper} {s : St} {o : Oper} {k : St → Tree} {r : Option Nat} {n : Nat} {Q : Exit → Act → World → Prop}
    (hG : GOk cx.kn.globs A) (hd : r = none ∨ isDefer o.op = false) (hs : SRel A I cx.P (fun _ => False) g s a w) (h : (oper cx e ops s o k).vc I g.env) :
    if Region.wanted o (yielded ops a.tmps) then o.wpIn (FW r) n cx.P a w (NPost A I cx.P (fun _ => False) g k) Q
    else (∀ f, o.about cx.P w a.eval = some f → (FW r).fn f) ∧ NPost A I cx.P (fun _ => False) g k (a.put o.dst Go.undef) w := by
  have hX : ∀ (l : List Nat), ∀ t ∈ l, ¬ (fun _ : Nat => False) t := fun _ _ _ h => h
  have hgo : ∀ (s : St) (wt : Bool), SRel A I cx.P (fun _ => False) g s a w →
      (if wt then match pickA s o with
        | some (t, c) => Tree.branch c (oper1 cx e (setBool s t true) o k) (oper1 cx e (setBool s t false) o k)
        | none => operS cx e s o k
      else match setT s o.dst .undef with
        | some s' => k s'
        | none => .fail 24).vc I g.env →
      if wt then o.wpIn (FW r) n cx.P a w (NPost A I cx.P (fun _ => False) g k) Q
      else (∀ f, o.about cx.P w a.eval = some f → (FW r).fn f) ∧ NPost A I cx.P (fun _ => False) g k (a.put o.dst Go.undef) w := by
    intro s wt hs hv
    cases wt with
    | true =>
      simp only [if_true] at hv ⊢
      split at hv
      · rename_i t c hp
        obtain ⟨ht, _⟩ := pickA_some hp
        obtain ⟨h1, h2⟩ := hv
        obtain ⟨x, _, m, h4, _⟩ := hs.t t _ ht (fun h => h)
        have hsb := setBool_rel hs ht h4
        by_cases hm : m = 0
        · subst hm
          exact oper1_wp hE hG hd (by simpa using hsb) (fun _ _ h => h) (h2 h4)
        · rw [show decide (m ≠ 0) = true by simp [hm]] at hsb
          exact oper1_wp hE hG hd hsb (fun _ _ h => h) (h1 m h4 hm)
      · exact operS_wp hE hG hd hs hv
    | false =>
      simp only [Bool.false_eq_true, if_false] at hv ⊢
      split at hv
      · rename_i s' hset
        exact ⟨fun _ _ => trivial, g, s', .refl _, hs.setT (v := .undef) rfl hset, hv⟩
      · exact hv.elim
  unfold oper at h
  simp only at h
  split at h
  · rename_i wt hw
    rw [wantedA_inl hs (hX _) hw]
    exact hgo s wt hs h
  · rename_i t c hw
    obtain ⟨j, want, hg, ht, m, hc, hwt⟩ := wantedA_inr hs (hX _) hw
    rw [hwt]
    rw [hg] at h
    simp only at h
    obtain ⟨h1, h2⟩ := h
    have hsb := setBool_rel hs ht hc
    by_cases hm : m = 0
    · subst hm
      rw [show decide ((0 : Int) ≠ 0) = false by simp] at hsb ⊢
      exact hgo _ _ hsb (h2 hc)
    · rw [show decide (m ≠ 0) = true by simp [hm]] at hsb ⊢
      exact hgo _ _ hsb (h1 m hc hm)
  · exact h.elim
theorem runOps_wp {cx : Cx} {e : Eng} (hE : EngSound I cx e) {ops : Array Oper} {r : Option Nat} {n : Nat} {Q : Exit → Act → World → Prop} {k : St → Tree} (hG : GOk cx.kn.globs A) (hd : r = none ∨ ∀ (i : Nat) (o : Oper), ops[i]? = some o → isDefer o.op = false) : ∀ {l : List Nat} {g : G} {s : St} {a : Act} {w : World},
    SRel A I cx.P (fun _ => False) g s a w → (runOps cx e ops l s k).vc I g.env → (∀ g' a' w', g.Le g' → NPost A I cx.P (fun _ => False) g' k a' w' → Q .normal a' w') → wpOpsIn (FW r) n cx.P ops Q l a w
  | [], g, s, a, w, hs, h, hQ => hQ g a w (.refl _) ⟨g, s, .refl _, hs, h⟩
  | i :: l, g, s, a, w, hs, h, hQ => by
    rw [wpOpsIn_cons]
    unfold wpOpIn
    simp only [runOps] at h
    cases ho : ops[i]? with
    | none =>
      simp only [ho] at h ⊢
      exact runOps_wp hE hG hd hs h hQ
    | some o =>
      simp only [ho] at h ⊢
      have := oper_wp (r := r) (n := n) (Q := Q) hE hG (hd.imp id fun hd => hd i o ho) hs h
      have hnext : ∀ a' w', NPost A I cx.P (fun _ => False) g (fun s' => runOps cx e ops l s' k) a' w' → wpOpsIn (FW r) n cx.P ops Q l a' w' := by
        intro a' w' ⟨g', s', h1, h2, h3⟩
        exact runOps_wp hE hG hd h2 h3 fun g2 a2 w2 h4 h5 => hQ g2 a2 w2 (h1.trans h4) h5
      split
      · rename_i hw
        rw [if_pos hw] at this
        exact Oper.wpIn_mono hnext this
      · rename_i hw
        rw [if_neg hw] at this
        exact ⟨this.1, hnext _ _ this.2⟩
end Go.Sx
end
noncomputable section
namespace Go.Sx
open Go
variable {A : Amb} {I : Itp} {P : Program} {g : G} {X : Nat → Prop} {ts : Tmps} {a : Act} {M : Mem} {w : World}
theorem dens_get {env : List D} : ∀ {σ : List E} {ds : List D}, dens I env σ = some ds → ∀ {i : Nat} {e : E}, σ[i]? = some e → ∃ d, e.den I env = some d ∧ ds[i]? = some d
  | [], ds, h, i, e, hi => by simp at hi
  | e0 :: σ, ds, h, i, e, hi => by
    simp only [dens] at h
    split at h
    · rename_i d ds' h1 h2
      simp at h; subst h
      cases i with
      | zero => simp at hi; subst hi; exact ⟨d, h1, rfl⟩
      | succ i => obtain ⟨d', h3, h4⟩ := dens_get h2 (i := i) (by simpa using hi); exact ⟨d', h3, by simpa using h4⟩
    · cases h
theorem dens_length {env : List D} : ∀ {σ : List E} {ds : List D}, dens I env σ = some ds → ds.length = σ.length
  | [], ds, h => by simp [dens] at h; subst h; rfl
  | e :: σ, ds, h => by
    simp only [dens] at h
    split at h
    · rename_i d ds' h1 h2; simp at h; subst h; simp [dens_length h2]
    · cases h
theorem subst_den {env ds : List D} {n : Nat} {σ : List E} (hσ : dens I env σ = some ds) (hn : n ≤ env.length) : ∀ {e : E} {d : D}, (e.subst n σ).den I env = some d → e.den I (env.take n ++ ds) = some d := by
  intro e
  induction e with
  | lit x => intro d h; exact h
  | zt => intro d h; exact h
  | kt row => intro d h; exact h
  | bt b => intro d h; exact h
  | var i =>
    intro d h
    simp only [E.subst] at h
    split at h
    · rename_i hi
      simp only [E.den] at h ⊢
      rw [List.getElem?_append_left (by simp; omega), List.getElem?_take_of_lt hi]; exact h
    · rename_i hi
      cases hs : σ[i - n]? with
      | none => rw [hs] at h; simp [E.den] at h
      | some e' =>
        rw [hs] at h
        obtain ⟨d', h1, h2⟩ := dens_get hσ hs
        simp at h
        rw [h1] at h; simp at h; subst h
        simp only [E.den]
        rw [List.getElem?_append_right (by simp; omega), ← h2]
        congr 1; simp; omega
  | bin o a b iha ihb =>
    intro d h
    simp only [E.subst, E.den] at h ⊢
    split at h
    · rename_i x y h1 h2; rw [iha h1, ihb h2]; exact h
    · cases h
  | wrap k a ih =>
    intro d h
    simp only [E.subst, E.den] at h ⊢
    split at h
    · rename_i x h1; rw [ih h1]; exact h
    · cases h
  | sel t r c iht ihr =>
    intro d h
    simp only [E.subst, E.den] at h ⊢
    split at h
    · rename_i x y h1 h2; rw [iht h1, ihr h2]; exact h
    · cases h
  | upd t r c v iht ihr ihv =>
    intro d h
    simp only [E.subst, E.den] at h ⊢
    split at h
    · rename_i x y z h1 h2 h3; rw [iht h1, ihr h2, ihv h3]; exact h
    · cases h
  | cat t n u iht ihn ihu =>
    intro d h
    simp only [E.subst, E.den] at h ⊢
    split at h
    · rename_i x y z h1 h2 h3; rw [iht h1, ihn h2, ihu h3]; exact h
    · cases h
  | sh t n iht ihn =>
    intro d h
    simp only [E.subst, E.den] at h ⊢
    split at h
    · rename_i x y h1 h2; rw [iht h1, ihn h2]; exact h
    · cases h
  | teq t n u m iht ihn ihu ihm =>
    intro d h
    simp only [E.subst, E.den] at h ⊢
    split at h
    · rename_i x y z v h1 h2 h3 h4; rw [iht h1, ihn h2, ihu h3, ihm h4]; exact h
    · cases h
  | fn j a b c d iha ihb ihc ihd =>
    intro x h
    simp only [E.subst, E.den] at h ⊢
    split at h
    · rename_i x1 x2 x3 x4 h1 h2 h3 h4; rw [iha h1, ihb h2, ihc h3, ihd h4]; exact h
    · cases h
def Fix.view (u : Fix) (g : G) (ds : List D) : G := { env := g.env.take u.nv ++ ds, φ := fun b => (u.img b).bind g.φ, nb := u.kb }
structure Fix.Fits (I : Itp) (u : Fix) (g : G) (ds : List D) : Prop where
  σ : dens I g.env u.σ = some ds
  nv : u.nv ≤ g.env.length
  kb : u.nb ≤ u.kb
theorem Fix.img_lt {u : Fix} (h : u.nb ≤ u.kb) {b c : Nat} (hb : u.img b = some c) : b < u.kb := by
  unfold Fix.img at hb
  split at hb
  · omega
  · split at hb
    · assumption
    · cases hb
theorem Fix.view_wf {u : Fix} {ds : List D} (h : u.nb ≤ u.kb) : (u.view g ds).wf := fun b hb => by
  cases hi : u.img b with
  | none => simp [Fix.view, hi]
  | some c => have := Fix.img_lt h hi; simp only [Fix.view] at hb; omega
theorem Fix.view_φ {u : Fix} {ds : List D} {b c : Nat} (h : u.img b = some c) : (u.view g ds).φ b = g.φ c := by simp [Fix.view, h]
section
variable {u : Fix} {ds : List D}
theorem Fix.e_den (hf : u.Fits I g ds) {p f : E} {d : D} (h : (u.e p == f) = true) (hd : f.den I g.env = some d) : p.den I (u.view g ds).env = some d := by
  have : u.e p = f := by simpa using h
  rw [← this] at hd
  exact subst_den hf.σ hf.nv hd
mutual
theorem Fix.le_rel (hf : u.Fits I g ds) : ∀ {p v : AV} {x : Value}, u.le p v = true → Rel I g v x → Rel I (u.view g ds) p x := by
  intro p v x h hv
  match p with
  | .any => simp [Rel]
  | .undef => cases v <;> first | (simp [Fix.le] at h; done) | simpa [Rel] using hv
  | .bool e =>
    cases v with
    | bool f =>
      simp only [Fix.le] at h
      obtain ⟨n, h1, h2⟩ := hv
      exact ⟨n, Fix.e_den hf h h1, h2⟩
    | _ => simp [Fix.le] at h
  | .int k e =>
    cases v with
    | int k' f =>
      simp only [Fix.le, Bool.and_eq_true, beq_iff_eq] at h
      obtain ⟨rfl, h⟩ := h
      obtain ⟨n, h1, h2⟩ := hv
      exact ⟨n, Fix.e_den hf (by simpa using h) h1, h2⟩
    | _ => simp [Fix.le] at h
  | .nilptr => cases v <;> first | (simp [Fix.le] at h; done) | simpa [Rel] using hv
  | .ptr b r s k =>
    cases v with
    | ptr c q s' k' =>
      simp only [Fix.le, Bool.and_eq_true, beq_iff_eq] at h
      obtain ⟨⟨⟨hb, hr⟩, rfl⟩, rfl⟩ := h
      obtain ⟨n, p, h1, h2, h3, h4⟩ := hv
      exact ⟨n, p, Fix.e_den hf (by simpa using hr) h1, h2, by rw [Fix.view_φ hb]; exact h3, h4⟩
    | _ => simp [Fix.le] at h
  | .nilslice => cases v <;> first | (simp [Fix.le] at h; done) | simpa [Rel] using hv
  | .slice b lo n s nl =>
    have emp : ∀ {ad : Option Addr}, x = .slice ad 0 0 → nl = true → (u.e n == .lit 0) = true → (u.e lo == .lit 0) = true → Rel I (u.view g ds) (.slice b lo n s nl) x := fun {ad} hx hnl hn hlo => by
      have h1 := Fix.e_den (p := n) (f := .lit 0) hf hn rfl
      have h2 := Fix.e_den (p := lo) (f := .lit 0) hf hlo rfl
      exact ⟨0, 0, h2, h1, Int.le_refl _, Int.le_refl _, .inr ⟨hnl, rfl, ad, hx⟩⟩
    cases v with
    | slice c lo' n' s' nl' =>
      simp only [Fix.le, Bool.and_eq_true, beq_iff_eq] at h
      obtain ⟨⟨⟨⟨hb, hlo⟩, hn⟩, rfl⟩, hnl⟩ := h
      obtain ⟨l, m, h1, h2, h3, h4, h5⟩ := hv
      refine ⟨l, m, Fix.e_den hf (by simpa using hlo) h1, Fix.e_den hf (by simpa using hn) h2, h3, h4, ?_⟩
      rcases h5 with ⟨p, cap, h5, h6⟩ | ⟨h5, h6⟩
      · exact .inl ⟨p, cap, by rw [Fix.view_φ hb]; exact h5, h6⟩
      · refine .inr ⟨?_, h6⟩
        rw [h5] at hnl; simpa using hnl
    | nilslice =>
      simp only [Fix.le, Bool.and_eq_true] at h
      simp only [Rel] at hv
      exact emp hv h.1.1 h.1.2 h.2
    | cap0 =>
      simp only [Fix.le, Bool.and_eq_true] at h
      obtain ⟨ad, hv⟩ := hv
      exact emp hv h.1.1 h.1.2 h.2
    | capN =>
      simp only [Fix.le, Bool.and_eq_true] at h
      obtain ⟨ad, hv⟩ := hv
      exact emp hv h.1.1 h.1.2 h.2
    | _ => simp [Fix.le] at h
  | .capN => cases v <;> first | (simp [Fix.le] at h; done) | simpa [Rel] using hv
  | .strT t n =>
    cases v with
    | strT t' n' =>
      simp only [Fix.le, Bool.and_eq_true] at h
      obtain ⟨f, k, s, h1, h2, h3⟩ := hv
      exact ⟨f, k, s, Fix.e_den hf h.1 h1, Fix.e_den hf h.2 h2, h3⟩
    | str l =>
      simp only [Fix.le, Bool.and_eq_true] at h
      obtain ⟨s, h1, h2⟩ := hv
      obtain ⟨f, h3, h4⟩ := strTab_den (I := I) (env := g.env) l
      exact ⟨f, _, s, Fix.e_den hf h.1 h3, Fix.e_den hf h.2 rfl, h1, by rw [h2], fun i b hb => h4 i b (by rw [← h2]; exact hb)⟩
    | _ => simp [Fix.le] at h
  | .func f l =>
    cases v with
    | func f' m =>
      simp only [Fix.le, Bool.and_eq_true, beq_iff_eq] at h
      obtain ⟨rfl, h⟩ := h
      obtain ⟨cs, h1, h2⟩ := hv
      exact ⟨cs, h1, Fix.les_rel hf h h2⟩
    | _ => simp [Fix.le] at h
  | .yld b =>
    cases v with
    | yld c =>
      simp only [Fix.le, beq_iff_eq] at h
      obtain ⟨p, h1, h2⟩ := hv
      exact ⟨p, by rw [Fix.view_φ h]; exact h1, h2⟩
    | _ => simp [Fix.le] at h
  | .mref b =>
    cases v with
    | mref c =>
      simp only [Fix.le, beq_iff_eq] at h
      obtain ⟨p, h1, h2⟩ := hv
      exact ⟨p, by rw [Fix.view_φ h]; exact h1, h2⟩
    | _ => simp [Fix.le] at h
  | .nilmap => cases v <;> first | (simp [Fix.le] at h; done) | simpa [Rel] using hv
  | .nilif => cases v <;> first | (simp [Fix.le] at h; done) | simpa [Rel] using hv
  | .sat e =>
    simp only [Fix.le] at h
    split at h
    · rename_i f hf'
      obtain ⟨n, h1, h2⟩ := code_rel hf' hv
      exact ⟨n, Fix.e_den hf h h1, h2⟩
    · cases h
  | .ifo e =>
    cases v with
    | ifo f =>
      simp only [Fix.le] at h
      obtain ⟨n, h1, h2⟩ := hv
      exact ⟨n, Fix.e_den hf h h1, h2⟩
    | nilif =>
      simp only [Fix.le] at h
      simp only [Rel] at hv
      exact ⟨0, Fix.e_den hf h rfl, .inl ⟨rfl, hv⟩⟩
    | _ => simp [Fix.le] at h
  | .nilfunc => cases v <;> first | (simp [Fix.le] at h; done) | simpa [Rel] using hv
  | .agg l =>
    cases v with
    | agg m =>
      simp only [Fix.le] at h
      obtain ⟨cs, h1, h2⟩ := hv
      exact ⟨cs, h1, Fix.les_rel hf h h2⟩
    | _ => simp [Fix.le] at h
  | .tup l =>
    cases v with
    | tup m =>
      simp only [Fix.le] at h
      obtain ⟨cs, h1, h2⟩ := hv
      exact ⟨cs, h1, Fix.les_rel hf h h2⟩
    | _ => simp [Fix.le] at h
  | .big l ks t n m =>
    cases v with
    | big l' ks' t' n' m' =>
      simp only [Fix.le, Bool.and_eq_true, beq_iff_eq] at h
      obtain ⟨⟨⟨⟨h1, rfl⟩, h3⟩, rfl⟩, h5⟩ := h
      obtain ⟨f, xs, ys, zs, h6, h7, h8, h9, h10⟩ := hv
      exact ⟨f, xs, ys, zs, Fix.e_den hf (by simpa using h3) h6, h7, Fix.les_rel hf h1 h8, Fix.les_rel hf h5 h9, h10⟩
    | _ => simp [Fix.le] at h
  | .cap0 => cases v <;> first | (simp [Fix.le] at h; done) | simpa [Rel] using hv
  | .empty =>
    cases v with
    | empty => simpa [Rel] using hv
    | cap0 => obtain ⟨ad, hv⟩ := hv; exact ⟨ad, 0, hv⟩
    | _ => simp [Fix.le] at h
  | .asl b k n s =>
    cases v with
    | asl c k' n' s' =>
      simp only [Fix.le, Bool.and_eq_true, beq_iff_eq] at h
      obtain ⟨⟨⟨h1, rfl⟩, rfl⟩, rfl⟩ := h
      obtain ⟨p, cap, h2, h3⟩ := hv
      exact ⟨p, cap, by rw [Fix.view_φ h1]; exact h2, h3⟩
    | _ => simp [Fix.le] at h
  | .bfunc f l m =>
    cases v with
    | bfunc f' l' m' =>
      simp only [Fix.le, Bool.and_eq_true, beq_iff_eq] at h
      obtain ⟨⟨rfl, h1⟩, h2⟩ := h
      obtain ⟨ms, cs, h3, h4, h5⟩ := hv
      exact ⟨ms, cs, h3, Fix.les_rel hf h1 h4, Fix.les_rel hf h2 h5⟩
    | _ => simp [Fix.le] at h
  | .gptr b k =>
    cases v with
    | gptr b' k' =>
      simp only [Fix.le, Bool.and_eq_true, beq_iff_eq] at h
      obtain ⟨rfl, rfl⟩ := h
      simpa [Rel] using hv
    | _ => simp [Fix.le] at h
  | .str l =>
    cases v with
    | str m =>
      simp only [Fix.le, beq_iff_eq] at h
      subst h
      simpa [Rel] using hv
    | _ => simp [Fix.le] at h
theorem Fix.les_rel (hf : u.Fits I g ds) : ∀ {l m : List AV} {xs : List Value}, u.les l m = true → Rels I g m xs → Rels I (u.view g ds) l xs := by
  intro l m xs h hm
  match l, m, xs with
  | [], [], [] => trivial
  | a :: l, b :: m, x :: xs =>
    simp only [Fix.les, Bool.and_eq_true] at h
    exact ⟨Fix.le_rel hf h.1 hm.1, Fix.les_rel hf h.2 hm.2⟩
  | [], _ :: _, _ => simp [Fix.les] at h
  | _ :: _, [], _ => simp [Fix.les] at h
  | [], [], _ :: _ => simp [Rels] at hm
  | _ :: _, _ :: _, [] => simp [Rels] at hm
end
theorem Fix.leT_rel (hf : u.Fits I g ds) {X : Nat → Prop} : ∀ {p ts : Tmps} {xs : Array Value}, u.leT p ts = true → TRel I g X ts xs → TRel I (u.view g ds) X p xs
  | [], ts, xs, _, _ => fun t v h => by simp [get_nil] at h
  | (t0, v0) :: p, ts, xs, h, ht => by
    simp only [Fix.leT, Bool.and_eq_true] at h
    obtain ⟨h1, h2⟩ := h
    have ih := Fix.leT_rel hf h2 ht
    intro t v hv hX
    simp only [get_cons] at hv
    split at hv
    · rename_i he
      subst he
      simp at hv; subst hv
      split at h1
      · rename_i w0 hw
        obtain ⟨x, h3, h4⟩ := ht t0 w0 hw hX
        exact ⟨x, h3, Fix.le_rel hf h1 h4⟩
      · cases h1
    · exact ih t v hv hX
theorem Fix.lesP_get : ∀ {l m : List AV}, u.lesP l m = true → ∀ {i : Nat} {v : AV}, l[i]? = some v → ∃ v', m[i]? = some v' ∧ u.le v v' = true
  | [], _, _, i, v, hv => by simp at hv
  | _ :: _, [], hm, _, _, _ => by simp [Fix.lesP] at hm
  | a :: l, b :: m, hm, i, v, hv => by
    simp only [Fix.lesP, Bool.and_eq_true] at hm
    cases i with
    | zero => simp at hv; subst hv; exact ⟨b, rfl, hm.1⟩
    | succ i => simpa using Fix.lesP_get hm.2 (i := i) (by simpa using hv)
theorem Fix.les_get : ∀ {l m : List AV}, u.les l m = true → l.length = m.length ∧ ∀ {i : Nat} {v : AV}, l[i]? = some v → ∃ v', m[i]? = some v' ∧ u.le v v' = true
  | [], [], _ => ⟨rfl, fun hv => by simp at hv⟩
  | [], _ :: _, hm => by simp [Fix.les] at hm
  | _ :: _, [], hm => by simp [Fix.les] at hm
  | a :: l, b :: m, hm => by
    simp only [Fix.les, Bool.and_eq_true] at hm
    obtain ⟨h1, h2⟩ := Fix.les_get hm.2
    refine ⟨by simp [h1], fun {i v} hv => ?_⟩
    cases i with
    | zero => simp at hv; subst hv; exact ⟨b, rfl, hm.1⟩
    | succ i => simpa using h2 (i := i) (by simpa using hv)
theorem Fix.leB_rel (hf : u.Fits I g ds) {b c : Nat} (hb : u.img b = some c) {H : Nat → Option Obj} : ∀ {x y : Blk}, u.leB x y = true → BRel I P g c H y → BRel I P (u.view g ds) b H x := by
  intro x y h hy
  cases x with
  | cells l w =>
    cases y with
    | cells m w' =>
      simp only [Fix.leB, Bool.and_eq_true] at h
      obtain ⟨hw, h⟩ := h
      obtain ⟨p, cs, T, fr, h1, h2, h3, h4⟩ := hy
      refine ⟨p, cs, T, fr, by rw [Fix.view_φ hb]; exact h1, h2, fun i v hv => ?_, fun hw2 => h4 (by rw [hw2] at hw; simpa using hw)⟩
      obtain ⟨v', h5, h6⟩ := Fix.lesP_get h hv
      obtain ⟨x, h7, h8⟩ := h3 i v' h5
      exact ⟨x, h7, Fix.le_rel hf h6 h8⟩
    | _ => simp [Fix.leB] at h
  | rows ks t n w nl =>
    cases y with
    | rows ks' t' n' w' nl' =>
      simp only [Fix.leB, Bool.and_eq_true, beq_iff_eq] at h
      obtain ⟨⟨⟨⟨rfl, ht⟩, hn⟩, hw⟩, hnl⟩ := h
      obtain ⟨f, m, h1, h2, h3, h4⟩ := hy
      refine ⟨f, m, Fix.e_den hf (by simpa using ht) h1, Fix.e_den hf (by simpa using hn) h2, h3, ?_⟩
      rcases h4 with ⟨p, cs, T, fr, h4, h5, h6, h7⟩ | ⟨h4, h5, h6⟩
      · exact .inl ⟨p, cs, T, fr, by rw [Fix.view_φ hb]; exact h4, h5, h6, fun hw2 => h7 (by rw [hw2] at hw; simpa using hw)⟩
      · exact .inr ⟨by rw [h4] at hnl; simpa using hnl, h5, by rw [Fix.view_φ hb]; exact h6⟩
    | _ => simp [Fix.leB] at h
  | big l ks t n m w =>
    cases y with
    | big l' ks' t' n' m' w' =>
      simp only [Fix.leB, Bool.and_eq_true, beq_iff_eq] at h
      obtain ⟨⟨⟨⟨⟨hl, rfl⟩, ht⟩, rfl⟩, hm⟩, hw⟩ := h
      obtain ⟨p, cs, T, fr, f, h1, h2, h3, h4, h5, h6, h7⟩ := hy
      obtain ⟨hlen, hget⟩ := Fix.les_get hl
      refine ⟨p, cs, T, fr, f, by rw [Fix.view_φ hb]; exact h1, h2, Fix.e_den hf (by simpa using ht) h3, fun i v hv => ?_, by rw [hlen]; exact h5, fun i v hv => ?_, fun hw2 => h7 (by rw [hw2] at hw; simpa using hw)⟩
      · obtain ⟨v', h8, h9⟩ := hget hv
        obtain ⟨x, h10, h11⟩ := h4 i v' h8
        exact ⟨x, h10, Fix.le_rel hf h9 h11⟩
      · obtain ⟨v', h8, h9⟩ := Fix.lesP_get hm hv
        obtain ⟨x, h10, h11⟩ := h6 i v' h8
        exact ⟨x, by rw [hlen]; exact h10, Fix.le_rel hf h9 h11⟩
    | _ => simp [Fix.leB] at h
  | loop st p f ix nt ts d =>
    cases y with
    | loop st' p' f' ix' nt' ts' d' =>
      simp only [Fix.leB, Bool.and_eq_true, beq_iff_eq] at h
      obtain ⟨⟨⟨⟨⟨⟨rfl, rfl⟩, rfl⟩, rfl⟩, rfl⟩, hts⟩, hd⟩ := h
      obtain ⟨q, q', r, rf, h1, h2, h3, h4, h5, h6, h7, h8, h9, h10, h11, h12⟩ := hy
      exact ⟨q, q', r, rf, by rw [Fix.view_φ hb]; exact h1, by rw [Fix.view_φ hd]; exact h2, h3, h4, h5, h6, h7, h8, h9, h10, h11, Fix.leT_rel hf hts h12⟩
    | _ => simp [Fix.leB] at h
  | dfr x =>
    cases y with
    | dfr y =>
      simp only [Fix.leB, beq_iff_eq] at h
      subst h
      obtain ⟨p, h1, h2⟩ := hy
      exact ⟨p, by rw [Fix.view_φ hb]; exact h1, h2⟩
    | _ => simp [Fix.leB] at h
  | mp l m =>
    cases y with
    | mp l' m' =>
      simp only [Fix.leB, Bool.and_eq_true] at h
      obtain ⟨p, es, c, h1, h2, h3, h4⟩ := hy
      exact ⟨p, es, c, by rw [Fix.view_φ hb]; exact h1, h2, Fix.les_rel hf h.1 h3, Fix.les_rel hf h.2 h4⟩
    | _ => simp [Fix.leB] at h
  | smp w one ks t n =>
    cases y with
    | smp w' one' ks' t' n' =>
      simp only [Fix.leB, Bool.and_eq_true, beq_iff_eq] at h
      obtain ⟨⟨⟨⟨rfl, rfl⟩, rfl⟩, ht⟩, hn⟩ := h
      obtain ⟨p, es, c, f, h1, h2, h3, h4, h5⟩ := hy
      exact ⟨p, es, c, f, by rw [Fix.view_φ hb]; exact h1, h2, Fix.e_den hf (by simpa using ht) h3, Fix.e_den hf (by simpa using hn) h4, h5⟩
    | mp l m =>
      match l, m with
      | [], [] =>
        simp only [Fix.leB, Bool.and_eq_true, beq_iff_eq] at h
        obtain ⟨ht, hn⟩ := h
        obtain ⟨p, es, c, h1, h2, h3, h4⟩ := hy
        have h5 : es.size = 0 := by
          have := h3.length
          simpa using this.symm
        refine ⟨p, es, c, fun _ _ => 0, by rw [Fix.view_φ hb]; exact h1, h2, Fix.e_den hf (p := t) (f := .zt) (by simpa using ht) rfl, Fix.e_den hf (p := n) (f := .lit 0) (d := .i (es.size : Nat)) (by simpa using hn) (by rw [h5]; rfl), fun i e he => ?_⟩
        have := (Array.getElem?_eq_some_iff.1 he).1
        omega
      | [], _ :: _ => simp [Fix.leB] at h
      | _ :: _, _ => simp [Fix.leB] at h
    | _ => simp [Fix.leB] at h
  | iter e q k =>
    cases y with
    | iter e' q' k' =>
      simp only [Fix.leB, Bool.and_eq_true, Bool.or_eq_true, beq_iff_eq] at h
      obtain ⟨⟨he, hq⟩, hk⟩ := h
      obtain ⟨p, n, m, h1, h2, h3, h4, h5, h6, h7⟩ := hy
      refine ⟨p, n, m, by rw [Fix.view_φ hb]; exact h1, h2, Fix.e_den hf (by simpa using he) h3, Fix.e_den hf (by simpa using hq) h4, h5, fun hk1 => h6 ?_, fun hk2 => h7 ?_⟩
      · rcases hk with hk | hk <;> omega
      · rcases hk with hk | hk <;> omega
    | _ => simp [Fix.leB] at h
  | bld t e d =>
    cases y with
    | bld t' e' d' =>
      simp only [Fix.leB, Bool.and_eq_true, beq_iff_eq] at h
      obtain ⟨⟨rfl, he⟩, hd⟩ := h
      obtain ⟨p, n, x, y, h1, h2, h3, h4, h5, h6⟩ := hy
      exact ⟨p, n, x, y, by rw [Fix.view_φ hb]; exact h1, h2, h3, Fix.e_den hf (by simpa using he) h4, h5, h6.imp id fun ⟨q, a, z⟩ => ⟨q, by rw [Fix.view_φ hd]; exact a, z⟩⟩
    | _ => simp [Fix.leB] at h
  | byt t e =>
    cases y with
    | byt t' e' =>
      simp only [Fix.leB, Bool.and_eq_true, beq_iff_eq] at h
      obtain ⟨rfl, he⟩ := h
      obtain ⟨n, h1, h2⟩ := hy
      exact ⟨n, Fix.e_den hf (by simpa using he) h1, by rw [Fix.view_φ hb]; exact h2⟩
    | _ => simp [Fix.leB] at h
  | fam ck t op =>
    cases y with
    | fam ck' t' op' =>
      match op, op', h, hy with
      | none, none, h, ⟨p, es, cc, f, k, h1, h2, h3, h4, h5⟩ =>
        simp only [Fix.leB, Bool.and_eq_true, beq_iff_eq] at h
        obtain ⟨rfl, ht⟩ := h
        have : k = none := FamOp.fn h4 trivial
        subst this
        exact ⟨p, es, cc, f, none, by rw [Fix.view_φ hb]; exact h1, h2, Fix.e_den hf (by simpa using ht) h3, trivial, h5⟩
      | some e, some e', h, ⟨p, es, cc, f, some k, h1, h2, h3, h4, h5⟩ =>
        simp only [Fix.leB, Bool.and_eq_true, beq_iff_eq] at h
        obtain ⟨⟨rfl, ht⟩, he⟩ := h
        exact ⟨p, es, cc, f, some k, by rw [Fix.view_φ hb]; exact h1, h2, Fix.e_den hf (by simpa using ht) h3, Fix.e_den hf (by simpa using he) h4, h5⟩
      | some _, some _, _, ⟨_, _, _, _, none, _, _, _, h4, _⟩ => exact h4.elim
      | none, some _, h, _ => simp [Fix.leB] at h
      | some _, none, h, _ => simp [Fix.leB] at h
    | mp l m =>
      match l, m, op with
      | [], [], none =>
        simp only [Fix.leB, beq_iff_eq] at h
        obtain ⟨p, es, cc, h1, h2, h3, h4⟩ := hy
        have h5 : es.toList = [] := by
          have := h3.length
          simpa using this.symm
        refine ⟨p, es, cc, fun _ _ => 0, none, by rw [Fix.view_φ hb]; exact h1, h2, Fix.e_den hf (p := t) (f := .zt) (by simpa using h) rfl, trivial, ?_⟩
        rw [h5]
        exact ⟨fun e he => by simp at he, fun κ _ => rfl, fun κ κ' o h6 => by obtain ⟨_, _, _, _, h7, _⟩ := h6; simp [famGet] at h7⟩
      | [], [], some _ => simp [Fix.leB] at h
      | [], _ :: _, _ => simp [Fix.leB] at h
      | _ :: _, _, _ => simp [Fix.leB] at h
    | _ => simp [Fix.leB] at h
theorem Fix.fref (hf : u.Fits I g ds) {b c o : Nat} (hb : u.img b = some c) {H : Nat → Option Obj} {x y : Blk} (h : u.leB x y = true) (hy : BRel I P g c H y) (hr : FRef H I (u.view g ds) b x o) : FRef H I g c y o := by
  cases x with
  | fam ck t op =>
    cases y with
    | fam ck' t' op' =>
      refine FRef.turn hy (fun p hp => by rw [Fix.view_φ hb] at hp; exact hp) (fun _ _ => rfl) (fun {k} hk => ?_) hr
      match op, op', k, h, hk with
      | none, none, none, _, _ => trivial
      | some e, some e', some k, h, hk =>
        simp only [Fix.leB, Bool.and_eq_true, beq_iff_eq] at h
        exact Fix.e_den hf (by simpa using h.2) hk
      | none, some _, _, h, _ => simp [Fix.leB] at h
      | some _, none, _, h, _ => simp [Fix.leB] at h
      | none, none, some _, _, hk => exact hk.elim
      | some _, some _, none, _, hk => exact hk.elim
    | mp l m =>
      match l, m, op with
      | [], [], none =>
        obtain ⟨p, es, cc, h1, h2, h3, h4⟩ := hy
        obtain ⟨p', es', c', k, κ, k1, k2, k3, k4, off, n, cap, k5, _⟩ := hr
        rw [Fix.view_φ hb, h1] at k1; cases k1
        rw [h2] at k2; cases k2
        have h5 : es.toList = [] := by
          have := h3.length
          simpa using this.symm
        rw [h5] at k5
        simp [famGet] at k5
      | [], [], some _ => simp [Fix.leB] at h
      | [], _ :: _, _ => simp [Fix.leB] at h
      | _ :: _, _, _ => simp [Fix.leB] at h
    | _ => simp [Fix.leB] at h
  | _ => exact hr.elim
theorem Fix.leB_wr {x y : Blk} (h : u.leB x y = true) (hw : x.wr = true) : y.wr = true := by
  cases x <;> cases y <;> first | (simp [Fix.leB] at h; done) | rfl | (simp only [Fix.leB, Bool.and_eq_true, Blk.wr] at h hw ⊢; simp_all)
theorem Fix.leM_get : ∀ {p M : Mem}, u.leM p M = true → ∀ {b : Nat} {x : Blk}, get p b = some x →
    (∃ c y, u.img b = some c ∧ get M c = some y ∧ u.leB x y = true) ∨
    (u.img b = none ∧ b < u.kb ∧ ∃ ks t n w, x = .rows ks t n w true ∧ u.e n = .lit 0 ∧ u.e t = .zt)
  | [], M, _, b, x, h => by simp [get_nil] at h
  | (b0, x0) :: p, M, hm, b, x, h => by
    simp only [Fix.leM, Bool.and_eq_true] at hm
    simp only [get_cons] at h
    split at h
    · rename_i he
      subst he
      simp at h; subst h
      have h1 := hm.1
      split at h1
      · rename_i c hc
        split at h1
        · rename_i y hy; exact .inl ⟨c, y, hc, hy, h1⟩
        · cases h1
      · rename_i hc
        split at h1
        · rename_i ks t n w nl
          simp only [Bool.and_eq_true, beq_iff_eq, decide_eq_true_eq] at h1
          obtain ⟨⟨⟨h2, h3⟩, h4⟩, h5⟩ := h1
          subst h2
          exact .inr ⟨hc, h5, ks, t, n, w, rfl, h3, h4⟩
        · cases h1
    · exact Fix.leM_get hm.2 h
theorem Fix.imgs_mem : ∀ {p : Mem} {b c : Nat} {x : Blk}, get p b = some x → u.img b = some c → c ∈ u.imgs p
  | [], b, c, x, h, _ => by simp [get_nil] at h
  | (b0, x0) :: p, b, c, x, h, hc => by
    simp only [get_cons] at h
    simp only [Fix.imgs]
    split at h
    · rename_i he; subst he; rw [hc]; simp
    · have := Fix.imgs_mem h hc
      split
      · simp [this]
      · exact this
theorem Fix.imgs_inj : ∀ {p : Mem}, nodup (u.imgs p) = true → ∀ {b c d : Nat} {x y : Blk}, get p b = some x → get p c = some y → u.img b = some d → u.img c = some d → b = c
  | [], _, b, c, d, x, y, h, _, _, _ => by simp [get_nil] at h
  | (b0, x0) :: p, hn, b, c, d, x, y, hb, hc, hbd, hcd => by
    simp only [Fix.imgs] at hn
    simp only [get_cons] at hb hc
    by_cases h1 : b0 = b
    · by_cases h2 : b0 = c
      · omega
      · rw [if_neg h2] at hc
        subst h1
        rw [hbd] at hn
        simp only [nodup, Bool.and_eq_true] at hn
        have := Fix.imgs_mem hc hcd
        simp [this] at hn
    · rw [if_neg h1] at hb
      by_cases h2 : b0 = c
      · subst h2
        rw [hcd] at hn
        simp only [nodup, Bool.and_eq_true] at hn
        have := Fix.imgs_mem hb hbd
        simp [this] at hn
      · rw [if_neg h2] at hc
        refine Fix.imgs_inj ?_ hb hc hbd hcd
        split at hn
        · simp only [nodup, Bool.and_eq_true] at hn; exact hn.2
        · exact hn
theorem Fix.mrel (hf : u.Fits I g ds) {p : Mem} (hm : MRel A I P g M w) (hle : u.leM p M = true) (hok : u.ok p = true) : MRel A I P (u.view g ds) p w := by
  simp only [Fix.ok, Bool.and_eq_true] at hok
  refine ⟨Fix.view_wf hf.kb, fun b x hx => ?_, fun b x hx => ?_, fun b c x y q r hx hy hwx hq hr e => ?_, fun b q hq => ?_, fun b x q hx hw hq => ?_, hm.size, hm.keep, hm.same, fun b x o hx hr => ?_⟩
  · rcases Fix.leM_get hle hx with ⟨c, y, h1, h2, h3⟩ | ⟨h1, h2, ks, t, n, w', rfl, h3, h4⟩
    · exact Fix.leB_rel hf h1 h3 (hm.blk c y h2)
    · have ht := Fix.e_den (p := t) (f := .zt) hf (by simp [h4]) rfl
      have hn := Fix.e_den (p := n) (f := .lit 0) hf (by simp [h3]) rfl
      exact ⟨_, 0, ht, hn, Int.le_refl _, .inr ⟨rfl, rfl, by simp [Fix.view, h1]⟩⟩
  · rcases Fix.leM_get hle hx with ⟨c, y, h1, _⟩ | ⟨_, h2, _⟩
    · exact Fix.img_lt hf.kb h1
    · exact h2
  · rcases Fix.leM_get hle hx with ⟨b', x', h1, h2, hxb⟩ | ⟨h1, _⟩
    · rcases Fix.leM_get hle hy with ⟨c', y', h3, h4, _⟩ | ⟨h3, _⟩
      · rw [Fix.view_φ h1] at hq
        rw [Fix.view_φ h3] at hr
        have := hm.inj b' c' x' y' q r h2 h4 (Fix.leB_wr hxb hwx) hq hr e
        subst this
        exact Fix.imgs_inj hok.2 hx hy h1 h3
      · simp [Fix.view, h3] at hr
    · simp [Fix.view, h1] at hq
  · cases hi : u.img b with
    | none => simp [Fix.view, hi] at hq
    | some c => rw [Fix.view_φ hi] at hq; exact hm.bnd c q hq
  · rcases Fix.leM_get hle hx with ⟨c, y, h1, h2, h3⟩ | ⟨h1, _⟩
    · rw [Fix.view_φ h1] at hq
      exact hm.own c y q h2 (Fix.leB_wr h3 hw) hq
    · simp [Fix.view, h1] at hq
  · have back : ∀ b x, get p b = some x → FRef (fun i => w.heap[i]?) I (u.view g ds) b x o → ∃ c y, u.img b = some c ∧ get M c = some y ∧ FRef (fun i => w.heap[i]?) I g c y o := fun b x hx hr => by
      rcases Fix.leM_get hle hx with ⟨c, y, h1, h2, h3⟩ | ⟨h1, h2, ks, t, n, w', rfl, h3, h4⟩
      · exact ⟨c, y, h1, h2, Fix.fref hf h1 h3 (hm.blk c y h2) hr⟩
      · exact hr.elim
    obtain ⟨c, y, h1, h2, h3⟩ := back b x hx hr
    obtain ⟨h4, h5, h6, h7⟩ := hm.fam c y o h2 h3
    refine ⟨h4, h5, fun d z q hz hq => ?_, fun d z hz hrz => ?_⟩
    · rcases Fix.leM_get hle hz with ⟨e, y', h8, h9, _⟩ | ⟨h8, _⟩
      · rw [Fix.view_φ h8] at hq; exact h6 e y' q h9 hq
      · simp [Fix.view, h8] at hq
    · obtain ⟨e, y', h8, h9, h10⟩ := back d z hz hrz
      have := h7 e y' h9 h10
      subst this
      exact Fix.imgs_inj hok.2 hz hx h8 h1
theorem Fix.leD_rel (hf : u.Fits I g ds) : ∀ {l m : List DV} {xs : List Deferred}, u.leD l m = true → DRel I g m xs → DRel I (u.view g ds) l xs
  | [], [], [], _, _ => trivial
  | .blk b :: l, .blk c :: m, x :: xs, h, hm => by
    simp only [Fix.leD, Bool.and_eq_true, beq_iff_eq] at h
    obtain ⟨⟨p, h1, h2⟩, h3⟩ := hm
    exact ⟨⟨p, by rw [Fix.view_φ h.1]; exact h1, h2⟩, Fix.leD_rel hf h.2 h3⟩
  | .fn f l1 l2 :: l, .fn f' m1 m2 :: m, x :: xs, h, hm => by
    simp only [Fix.leD, Bool.and_eq_true, beq_iff_eq] at h
    obtain ⟨⟨⟨rfl, h4⟩, h5⟩, h6⟩ := h
    obtain ⟨⟨ms, cs, h1, h2, h2'⟩, h3⟩ := hm
    exact ⟨⟨ms, cs, h1, Fix.les_rel hf h4 h2, Fix.les_rel hf h5 h2'⟩, Fix.leD_rel hf h6 h3⟩
  | .blk _ :: _, .fn .. :: _, _, h, _ => by simp [Fix.leD] at h
  | .fn .. :: _, .blk _ :: _, _, h, _ => by simp [Fix.leD] at h
  | [], _ :: _, _, h, _ => by simp [Fix.leD] at h
  | _ :: _, [], _, h, _ => by simp [Fix.leD] at h
  | [], [], _ :: _, _, h => by simp [DRel] at h
  | _ :: _, _ :: _, [], _, h => by simp [DRel] at h
theorem Fix.srel (hf : u.Fits I g ds) {h s : St} (hs : SRel A I P X g s a w) (hle : u.leS h s = true) (hnv : h.nv = u.nv + ds.length) (hnb : h.nb = u.kb) : SRel A I P X (u.view g ds) h a w := by
  simp only [Fix.leS, Bool.and_eq_true, beq_iff_eq] at hle
  obtain ⟨⟨⟨⟨⟨_, h1⟩, h2⟩, h3⟩, h4⟩, h5⟩ := hle
  refine ⟨Fix.mrel hf hs.m h4 h5, Fix.leT_rel hf h3 hs.t, by rw [hs.nt, h1], Fix.leD_rel hf h2 hs.d, ?_, by rw [hnb]; rfl⟩
  rw [hnv]
  have := hf.nv
  simp [Fix.view]; omega
end
end Go.Sx
noncomputable section
namespace Go.Sx
open Go
variable {A : Amb} {I : Itp} {P : Program} {g : G} {X : Nat → Prop} {ts : Tmps} {a : Act} {M : Mem} {w : World}
theorem dens_subst {env ds : List D} {n : Nat} {σ : List E} (hσ : dens I env σ = some ds) (hn : n ≤ env.length) : ∀ {l : List E} {xs : List D}, dens I env (l.map (E.subst n σ)) = some xs → dens I (env.take n ++ ds) l = some xs
  | [], xs, h => h
  | e :: l, xs, h => by
    simp only [List.map_cons, dens] at h ⊢
    split at h
    · rename_i d ds' h1 h2
      rw [subst_den hσ hn h1, dens_subst hσ hn h2]; exact h
    · cases h
theorem PE.subst_den {env ds : List D} {n : Nat} {σ : List E} (hσ : dens I env σ = some ds) (hn : n ≤ env.length) : ∀ {p : PE}, (p.subst n σ).den I env → p.den I (env.take n ++ ds)
  | .tt _, ⟨m, h1, h2⟩ => ⟨m, Sx.subst_den hσ hn h1, h2⟩
  | .ff _, h => Sx.subst_den hσ hn h
  | .rng _ _, ⟨m, h1, h2⟩ => ⟨m, Sx.subst_den hσ hn h1, h2⟩
  | .same _ _, ⟨d, h1, h2⟩ => ⟨d, Sx.subst_den hσ hn h1, Sx.subst_den hσ hn h2⟩
  | .pr _ _, ⟨xs, h1, h2⟩ => ⟨xs, dens_subst hσ hn h1, h2⟩
  | .sort true _, ⟨f, h⟩ => ⟨f, Sx.subst_den hσ hn h⟩
  | .sort false _, ⟨m, h⟩ => ⟨m, Sx.subst_den hσ hn h⟩
  | .col _ _ _ _, ⟨f, h1, h2⟩ => ⟨f, Sx.subst_den hσ hn h1, h2⟩
  | .agr _ _ _ _, ⟨f, g, k, h1, h2, h3, h4⟩ => ⟨f, g, k, Sx.subst_den hσ hn h1, Sx.subst_den hσ hn h2, Sx.subst_den hσ hn h3, h4⟩
  | .byt _ _, ⟨f, k, h1, h2, h3⟩ => ⟨f, k, Sx.subst_den hσ hn h1, Sx.subst_den hσ hn h2, h3⟩
theorem sortPs_sorts {env : List D} : ∀ {l : List Bool} {σ : List E}, σ.length = l.length → (∀ p ∈ sortPs l σ, p.den I env) → ∃ ds, dens I env σ = some ds ∧ Sorts l ds
  | [], [], _, _ => ⟨[], rfl, trivial⟩
  | true :: l, e :: σ, hl, h => by
    obtain ⟨f, hf⟩ := h (.sort true e) (by simp [sortPs])
    obtain ⟨ds, h1, h2⟩ := sortPs_sorts (l := l) (σ := σ) (by simpa using hl) (fun p hp => h p (by simp [sortPs, hp]))
    exact ⟨.t f :: ds, by simp [dens, hf, h1], h2⟩
  | false :: l, e :: σ, hl, h => by
    obtain ⟨n, hn⟩ := h (.sort false e) (by simp [sortPs])
    obtain ⟨ds, h1, h2⟩ := sortPs_sorts (l := l) (σ := σ) (by simpa using hl) (fun p hp => h p (by simp [sortPs, hp]))
    exact ⟨.i n :: ds, by simp [dens, hn, h1], h2⟩
  | [], _ :: _, hl, _ => by simp at hl
  | true :: _, [], hl, _ => by simp at hl
  | false :: _, [], hl, _ => by simp at hl
theorem LoopWp.wp {F : Fence} {n : Nat} {c : Code} {Q : Exit → Act → World → Prop} (h : LoopWp F n P c Q a w) : (Code.loop c).wpIn F n P Q a w := by
  intro b k cs hro hb hr
  obtain ⟨e, a', w', hq, harr⟩ := h b k cs hro hb hr
  exact ⟨e, a', w', hq, .of_steps (.one (fenced_calm hb hr rfl) stepR_loop) harr⟩
theorem LoopWp.round {F : Fence} {n : Nat} {c : Code} {Q : Exit → Act → World → Prop} (h : c.wpIn F n P (Exit.then (LoopWp F n P c Q) Q) a w) : LoopWp F n P c Q a w := by
  intro b k cs hro hb hr
  obtain ⟨e, a₁, w₁, hq, harr⟩ := h b (.inLoop c :: k) cs hro hb hr
  cases e with
  | normal =>
    obtain ⟨e₂, a₂, w₂, hq₂, harr₂⟩ := hq b k cs hro hb hr
    exact ⟨e₂, a₂, w₂, hq₂, .of_steps (StepsIn.trans harr (.one (fenced_calm hb hr rfl) stepR_inLoop)) harr₂⟩
  | exit id => exact ⟨_, a₁, w₁, hq, .pass (x := .inLoop c) rfl (fun _ _ => .inl (by simp)) harr⟩
  | goto l => exact ⟨_, a₁, w₁, hq, .pass (x := .inLoop c) rfl (fun _ _ => .inl (by simp)) harr⟩
  | ret => exact ⟨_, a₁, w₁, hq, .pass (x := .inLoop c) rfl (fun _ _ => .inl (by simp)) harr⟩
  | panic ch => exact ⟨_, a₁, w₁, hq, .pass (x := .inLoop c) rfl (fun _ _ => .inl (by simp)) harr⟩
  | outgrown => exact ⟨_, a₁, w₁, hq, .pass (x := .inLoop c) rfl (fun _ _ => .inl (by simp)) harr⟩
theorem LoopWp.ghost {F : Fence} {n : Nat} {c : Code} {Q : Exit → Act → World → Prop} (J : Nat → Act → World → Prop)
    (round : ∀ m a w, J m a w → c.wpIn F n P (Exit.then (fun a' w' => ∃ m', m' < m ∧ J m' a' w') Q) a w) : ∀ m a w, J m a w → LoopWp F n P c Q a w := by
  intro m
  induction m using Nat.strongRecOn with
  | _ m ih =>
    intro a w hJ
    refine LoopWp.round (wpIn_mono (round m a w hJ) fun e a' w' h => ?_)
    cases e with
    | normal => obtain ⟨m', h1, h2⟩ := h; exact ih m' h1 a' w' h2
    | _ => exact h
structure HeadAt (A : Amb) (I : Itp) (P : Program) (g : G) (an : Ann) (h : St) (m : Nat) (a : Act) (w : World) : Prop where
  ex : ∃ (ds : List D) (gh : G), Sorts an.sorts ds ∧ gh.env = g.env ++ ds ∧ g.Le gh ∧ SRel A I P (fun _ => False) gh h a w ∧ (∀ p ∈ an.inv, p.den I gh.env) ∧
    (∀ z : Int, an.meas.den I gh.env = some (.i z) → z.toNat = m)
theorem headAt_of {an : Ann} {s s1 : St} {g1 : G} (hg : g.Le g1) (hnv : g.env.length = s.nv) (hnb : g.nb = s.nb) {u : Fix} {a1 : Act} {w1 : World}
    (hu1 : u.nv = s.nv) (hu2 : u.nb = s.nb) (hu3 : u.kb = s.nb + an.nbl) (hs1 : SRel A I P (fun _ => False) g1 s1 a1 w1) (hle : u.leS (an.head s) s1 = true) (hlen : u.σ.length = an.sorts.length)
    (hps : ∀ p ∈ sortPs an.sorts u.σ ++ an.inv.map (PE.subst s.nv u.σ), p.den I g1.env) :
    ∃ m, HeadAt A I P g an (an.head s) m a1 w1 ∧ (∀ z : Int, (an.meas.subst s.nv u.σ).den I g1.env = some (.i z) → m = z.toNat) := by
  obtain ⟨ds, hds, hso⟩ := sortPs_sorts hlen (fun p hp => hps p (by simp [hp]))
  obtain ⟨⟨xs, hxs⟩, hgnb, hgφ⟩ := hg
  have hfit : u.Fits I g1 ds := ⟨hds, by rw [hu1, hxs]; simp; omega, by omega⟩
  have htake : g1.env.take u.nv = g.env := by rw [hu1, hxs, ← hnv, List.take_left']; rfl
  have hsr := Fix.srel hfit hs1 hle (by simp [Ann.head, hu1, hso.length]) (by simp [Ann.head, hu3])
  have henv : (u.view g1 ds).env = g.env ++ ds := by simp [Fix.view, htake]
  have hle' : g.Le (u.view g1 ds) := ⟨⟨ds, henv⟩, by simp only [Fix.view]; omega, fun b hb => by
    have : u.img b = some b := by unfold Fix.img; rw [if_pos (by omega)]
    rw [Fix.view_φ this, hgφ b hb]⟩
  have hinv : ∀ p ∈ an.inv, p.den I (u.view g1 ds).env := fun p hp => by
    have := PE.subst_den (n := s.nv) hds (by rw [hxs]; simp; omega) (hps (p.subst s.nv u.σ) (by simp; exact .inr ⟨p, hp, rfl⟩))
    rw [← hu1] at this
    simpa [Fix.view] using this
  refine ⟨match an.meas.den I (u.view g1 ds).env with | some (.i z) => z.toNat | _ => 0, ⟨ds, u.view g1 ds, hso, henv, hle', hsr, hinv, fun z hz => by rw [hz]⟩, fun z hz => ?_⟩
  have := Sx.subst_den (n := s.nv) hds (by rw [hxs]; simp; omega) hz
  rw [← hu1] at this
  have h2 : an.meas.den I (u.view g1 ds).env = some (.i z) := by simpa [Fix.view] using this
  rw [h2]
theorem loopHead_wp {cx : Cx} {e : Eng} (hE : EngSound I cx e) (hG : GOk cx.kn.globs A) {an : Ann} {fn : FuncId} {rnd r : Option Nat} {bid o : Nat} {c : Code} {s : St} {k : Ex → St → Tree}
    (h : (loopHead cx e an fn rnd bid o c s k).vc I g.env) (hs : SRel A I cx.P (fun _ => False) g s a w) (hr : RndRel g rnd r) (hc : COK cx.P fn o c) (n : Nat) :
    LoopWp (FW r) n cx.P c (Post A I cx.P (fun _ => False) g k) a w := by
  unfold loopHead at h
  simp only at h
  split at h
  · exact h.elim
  rename_i hcond
  simp only [Bool.or_eq_true, Bool.not_eq_true', decide_eq_false_iff_not, not_or, Bool.not_eq_false, Decidable.not_not] at hcond
  obtain ⟨hle, hlen⟩ := hcond
  obtain ⟨hps, hbody⟩ := mkAsserts_vc h
  obtain ⟨m0, hJ0, _⟩ := headAt_of (.refl g) hs.nv hs.nb rfl rfl rfl hs hle hlen hps
  refine LoopWp.ghost (fun m a w => HeadAt A I cx.P g an (an.head s) m a w) (fun m a1 w1 hJ => ?_) m0 a w hJ0
  obtain ⟨ds, gh, hso, henv, hgle, hsr, hinv, hmeas⟩ := hJ.ex
  have hb1 := havocs_vc hbody hso
  rw [← henv] at hb1
  have hb15 := assumes_vc hb1 hinv
  obtain ⟨hsort, hb2⟩ := mkAsserts_vc hb15
  obtain ⟨z0, hz0⟩ := hsort (.sort false an.meas) (by simp)
  refine wpIn_mono (hE.exec hG hb2 hsr (hr.le hgle hs.m.wf) hc n) fun ex a2 w2 hpost => ?_
  obtain ⟨x, g2, s2, rfl, hg2, hs2, hv2⟩ := hpost
  cases x with
  | normal =>
    simp only at hv2
    split at hv2
    · exact hv2.elim
    rename_i hcond2
    simp only [Bool.or_eq_true, Bool.not_eq_true', decide_eq_false_iff_not, not_or, Bool.not_eq_false, Decidable.not_not] at hcond2
    obtain ⟨hle2, hlen2⟩ := hcond2
    obtain ⟨hps2, hv3⟩ := mkAsserts_vc hv2
    obtain ⟨hps3, _⟩ := mkAsserts_vc hv3
    obtain ⟨m', hJ', hm'⟩ := headAt_of (hgle.trans hg2) hs.nv hs.nb rfl rfl rfl hs2 hle2 hlen2 hps2
    refine ⟨m', ?_, hJ'⟩
    have hp1 := hps3 _ List.mem_cons_self
    have hp2 := hps3 _ (List.mem_cons_of_mem _ List.mem_cons_self)
    obtain ⟨z1, hz1, hz1'⟩ := hp1
    obtain ⟨z2, hz2, hz2'⟩ := hp2
    have key : ∀ {a b : E} {o : BO} {z : Int}, (mkBin o a b).den I g2.env = some (.i z) → ∃ x y, a.den I g2.env = some (.i x) ∧ b.den I g2.env = some (.i y) ∧ z = o.ev x y := by
      intro a b o z hz
      unfold mkBin at hz
      split at hz
      · simp [E.den] at hz; exact ⟨_, _, rfl, rfl, hz.symm⟩
      · simp only [E.den] at hz
        split at hz
        · rename_i x y h1 h2; simp at hz; exact ⟨x, y, h1, h2, hz.symm⟩
        · cases hz
    obtain ⟨x1, y1, h1, h2, rfl⟩ := key hz1
    obtain ⟨x2, y2, h3, h4, rfl⟩ := key hz2
    simp [E.den] at h1
    subst h1
    rw [h2] at h3; simp at h3; subst h3
    have hm1 := hm' y1 h2
    have hle0 : 0 ≤ y1 := by
      by_cases h : 0 ≤ y1
      · exact h
      · simp [BO.ev, h] at hz1'
    have hlt : y1 < y2 := by
      by_cases h : y1 < y2
      · exact h
      · simp [BO.ev, h] at hz2'
    rw [E.den_le hg2 hz0] at h4
    simp at h4
    subst h4
    have := hmeas z0 hz0
    omega
  | ret => exact ⟨.ret, g2, s2, rfl, hgle.trans hg2, hs2, hv2⟩
  | exit id => exact ⟨.exit id, g2, s2, rfl, hgle.trans hg2, hs2, hv2⟩
  | goto l => exact ⟨.goto l, g2, s2, rfl, hgle.trans hg2, hs2, hv2⟩
end Go.Sx
end
