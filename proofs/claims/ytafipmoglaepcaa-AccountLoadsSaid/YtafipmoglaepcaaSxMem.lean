/-
  A new block; a block written: the relation behind them. Conditions: none.
-/
import Derived.Test.YtafipmoglaepcaaSxOps
import Derived.Laws.CopyRow
namespace Go.Sx
open Go

variable {A : Amb} {I : Itp} {P : Program} {g : G} {X : Nat → Prop} {ts : Tmps} {a : Act} {M : Mem} {w : World}

theorem MRel.heap_eq {w' : World} (h : MRel A I P g M w) (e : w'.heap = w.heap) (ho : w'.os = w.os ∧ w'.output = w.output := by exact ⟨rfl, rfl⟩) : MRel A I P g M w' where
  wf := h.wf
  blk b x hx := by have := h.blk b x hx; rw [e]; exact this
  lt := h.lt
  inj := h.inj
  bnd := by rw [e]; exact h.bnd
  own := h.own
  size := by rw [e]; exact h.size
  keep := by rw [e]; exact h.keep
  same := ⟨ho.1.trans h.same.1, ho.2.trans h.same.2⟩

theorem MRel.other {w' : World} {i : Nat} (h : MRel A I P g M w) (hi : A.X i ∨ A.w0.heap.size ≤ i) (hn : ∀ b x p, get M b = some x → g.φ b = some p → p.blk ≠ i)
    (hsz : w'.heap.size = w.heap.size) (ho : ∀ j, j ≠ i → w'.heap[j]? = w.heap[j]?) (hs : w'.os = w.os ∧ w'.output = w.output := by exact ⟨rfl, rfl⟩) : MRel A I P g M w' where
  wf := h.wf
  blk b x hx := (h.blk b x hx).heap fun p hp => ho _ (hn b x p hx hp)
  lt := h.lt
  inj := h.inj
  bnd b p hp := by rw [hsz]; exact h.bnd b p hp
  own := h.own
  size := by rw [hsz]; exact h.size
  keep j hj hx := by
    have hji : j ≠ i := by
      intro e
      subst e
      rcases hi with hi | hi
      · exact hx hi
      · omega
    rw [ho j hji]
    exact h.keep j hj hx
  same := ⟨by rw [hs.1]; exact h.same.1, by rw [hs.2]; exact h.same.2⟩

theorem MRel.sub {M' : Mem} (h : MRel A I P g M w) (hs : ∀ b x, get M' b = some x → get M b = some x) : MRel A I P g M' w where
  wf := h.wf
  blk b x hx := h.blk b x (hs b x hx)
  lt b x hx := h.lt b x (hs b x hx)
  inj b c x y p q hx hy := h.inj b c x y p q (hs b x hx) (hs c y hy)
  bnd := h.bnd
  own b x p hx := h.own b x p (hs b x hx)
  size := h.size
  keep := h.keep
  same := h.same

/-- One block more is spoken of. -/
def G.lay (g : G) (p : Option PB) : G := { g with φ := fun b => if b = g.nb then p else g.φ b, nb := g.nb + 1 }

theorem G.lay_le (g : G) (p : Option PB) : g.Le (g.lay p) :=
  ⟨⟨[], by simp [G.lay]⟩, by simp [G.lay], fun b hb => by simp only [G.lay]; rw [if_neg (by omega)]⟩
theorem G.lay_wf {g : G} (h : g.wf) (p : Option PB) : (g.lay p).wf := fun b hb => by
  simp only [G.lay] at hb ⊢
  rw [if_neg (by omega)]; exact h b (by omega)
@[simp] theorem G.lay_new (g : G) (p : Option PB) : (g.lay p).φ g.nb = p := by simp [G.lay]

theorem heap_alloc_old {o : Obj} {i : Nat} (h : i < w.heap.size) : (w.alloc o).heap[i]? = w.heap[i]? := by
  show (w.heap.push o)[i]? = _
  rw [Array.getElem?_push]; rw [if_neg (by omega)]

theorem MRel.alloc {M' : Mem} {o : Obj} {x : Blk} {p : PB} (h : MRel A I P g M w) (hs : ∀ b y, get M' b = some y → get M b = some y) (hp : p.blk = w.heap.size)
    (hx : BRel I P (g.lay (some p)) g.nb (fun i => (w.alloc o).heap[i]?) x) : MRel A I P (g.lay (some p)) ((g.nb, x) :: M') (w.alloc o) := by
  have hle := g.lay_le (some p)
  have hold : ∀ b q, b ≠ g.nb → (g.lay (some p)).φ b = some q → g.φ b = some q := fun b q hb hq => by simpa [G.lay, hb] using hq
  have hcase : ∀ b y, get ((g.nb, x) :: M') b = some y → (b = g.nb ∧ y = x) ∨ (b ≠ g.nb ∧ get M b = some y) := fun b y hy => by
    simp only [get] at hy
    by_cases hb : g.nb = b
    · rw [if_pos hb] at hy; simp at hy; exact .inl ⟨hb.symm, hy.symm⟩
    · rw [if_neg hb] at hy; exact .inr ⟨fun e => hb e.symm, hs b y hy⟩
  refine ⟨G.lay_wf h.wf _, fun b y hy => ?_, fun b y hy => ?_, fun b c y z q r hy hz hq hr e => ?_, fun b q hq => ?_, fun b y q hy hw hq => ?_, ?_, fun i hi hX => ?_, h.same⟩
  · rcases hcase b y hy with ⟨rfl, rfl⟩ | ⟨hb, hy'⟩
    · exact hx
    · exact ((h.blk b y hy').le hle h.wf (h.lt b y hy')).heap fun q hq => by
        have := h.bnd b q (hold b q hb hq)
        exact heap_alloc_old this
  · rcases hcase b y hy with ⟨rfl, rfl⟩ | ⟨hb, hy'⟩
    · simp [G.lay]
    · have := h.lt b y hy'; simp [G.lay]; omega
  · rcases hcase b y hy with ⟨rfl, rfl⟩ | ⟨hb, hy'⟩ <;> rcases hcase c z hz with ⟨rfl, rfl⟩ | ⟨hc, hz'⟩
    · rfl
    · have h1 := h.bnd c r (hold c r hc hr)
      simp at hq; subst hq
      omega
    · have h1 := h.bnd b q (hold b q hb hq)
      simp at hr; subst hr
      omega
    · exact h.inj b c y z q r hy' hz' (hold b q hb hq) (hold c r hc hr) e
  · by_cases hb : b = g.nb
    · subst hb; simp at hq; subst hq; simp [hp]
    · have := h.bnd b q (hold b q hb hq); simp; omega
  · rcases hcase b y hy with ⟨rfl, rfl⟩ | ⟨hb, hy'⟩
    · right; simp at hq; subst hq; rw [hp]; exact h.size
    · exact h.own b y q hy' hw (hold b q hb hq)
  · have := h.size; simp; omega
  · rw [heap_alloc_old (by have := h.size; omega)]; exact h.keep i hi hX

/-- A block is written: nothing else turns. -/
theorem MRel.write {w' : World} {b : Nat} {x y : Blk} {p : PB} (h : MRel A I P g M w) (hb : get M b = some x) (hw : x.wr = true) (hp : g.φ b = some p)
    (hsz : w'.heap.size = w.heap.size) (hoth : ∀ i, i ≠ p.blk → w'.heap[i]? = w.heap[i]?) (hy : BRel I P g b (fun i => w'.heap[i]?) y) (ho : w'.os = w.os ∧ w'.output = w.output := by exact ⟨rfl, rfl⟩) : MRel A I P g (put b y M) w' := by
  have hcase : ∀ c z, get (put b y M) c = some z → (c = b ∧ z = y) ∨ (c ≠ b ∧ get M c = some z) := fun c z hz => by
    rw [get_put] at hz
    by_cases hc : b = c
    · rw [if_pos hc] at hz; simp at hz; exact .inl ⟨hc.symm, hz.symm⟩
    · rw [if_neg hc] at hz; exact .inr ⟨fun e => hc e.symm, hz⟩
  have hkey : ∀ c z, get (put b y M) c = some z → ∃ z', get M c = some z' ∧ (z.wr = true → z'.wr = true) := fun c z hz => by
    rcases hcase c z hz with ⟨rfl, rfl⟩ | ⟨_, hz'⟩
    · exact ⟨x, hb, fun _ => hw⟩
    · exact ⟨z, hz', id⟩
  refine ⟨h.wf, fun c z hz => ?_, fun c z hz => ?_, fun c d z u q r hz hu hq hr e => ?_, fun c q hq => ?_, fun c z q hz hwz hq => ?_, ?_, fun i hi hX => ?_, ⟨ho.1.trans h.same.1, ho.2.trans h.same.2⟩⟩
  · rcases hcase c z hz with ⟨rfl, rfl⟩ | ⟨hc, hz'⟩
    · exact hy
    · exact (h.blk c z hz').heap fun q hq => hoth q.blk fun e => hc (h.inj c b z x q p hz' hb hq hp e)
  · obtain ⟨z', hz', _⟩ := hkey c z hz; exact h.lt c z' hz'
  · obtain ⟨z', hz', _⟩ := hkey c z hz
    obtain ⟨u', hu', _⟩ := hkey d u hu
    exact h.inj c d z' u' q r hz' hu' hq hr e
  · rw [hsz]; exact h.bnd c q hq
  · obtain ⟨z', hz', hwr⟩ := hkey c z hz; exact h.own c z' q hz' (hwr hwz) hq
  · rw [hsz]; exact h.size
  · by_cases hi' : i = p.blk
    · exfalso
      subst hi'
      rcases h.own b x p hb hw hp with h1 | h1
      · exact hX h1
      · omega
    · rw [hoth i hi']; exact h.keep i hi hX

/-! ### Stores -/

theorem one_rel {v : AV} {x : Value} (h : Rel I g v x) (h1 : v.one = true) : x.oneCell' = true := by
  cases v <;> simp [AV.one] at h1 <;> simp only [Rel] at h
  case bool e => obtain ⟨n, _, rfl⟩ := h; rfl
  case int k e => obtain ⟨n, _, rfl⟩ := h; rfl
  case nilptr => subst h; rfl
  case ptr => obtain ⟨n, p, _, _, _, rfl⟩ := h; rfl
  case nilslice => subst h; rfl
  case slice => obtain ⟨l, n, _, _, _, _, ⟨p, cap, _, rfl, _⟩ | ⟨_, _, rfl⟩⟩ := h <;> rfl
  case func => obtain ⟨cs, rfl, _⟩ := h; rfl
  case yld => obtain ⟨p, _, rfl⟩ := h; rfl
  case nilfunc => subst h; rfl
theorem ones_rel : ∀ {l : List AV} {xs : List Value}, Rels I g l xs → l.all AV.one = true → ∀ x ∈ xs, x.oneCell' = true
  | [], [], _, _, x, hx => by simp at hx
  | v :: l, y :: xs, h, h1, x, hx => by
    simp at h1 hx
    rcases hx with rfl | hx
    · exact one_rel h.1 h1.1
    · exact ones_rel h.2 (by simpa using h1.2) x hx
  | [], _ :: _, h, _, _, _ => by simp [Rels] at h
  | _ :: _, [], h, _, _, _ => by simp [Rels] at h

/-- Values laid into a list. -/
theorem getElem_splice (cs vs : List Value) (o : Nat) (h : o + vs.length ≤ cs.length) (j : Nat) :
    (cs.take o ++ vs ++ cs.drop (o + vs.length))[j]? = if o ≤ j ∧ j < o + vs.length then vs[j - o]? else cs[j]? := by
  by_cases h1 : j < o
  · rw [if_neg (by omega), List.append_assoc, List.getElem?_append_left (by simp; omega), List.getElem?_take_of_lt h1]
  · by_cases h2 : j < o + vs.length
    · rw [if_pos (by omega), List.append_assoc, List.getElem?_append_right (by simp; omega)]
      simp only [List.length_take]
      rw [show min o cs.length = o by omega, List.getElem?_append_left (by omega)]
    · rw [if_neg (by omega), List.getElem?_append_right (by simp; omega)]
      simp only [List.length_append, List.length_take]
      rw [show min o cs.length = o by omega, List.getElem?_drop]
      congr 1; omega

theorem getElem_setL {α : Type} : ∀ (vs : List α) (l : List α) (o : Nat), o + vs.length ≤ l.length → ∀ j, (setL l o vs)[j]? = if o ≤ j ∧ j < o + vs.length then vs[j - o]? else l[j]?
  | [], l, o, _, j => by simp [setL]; omega
  | v :: vs, l, o, h, j => by
    simp only [setL]
    rw [getElem_setL vs (l.set o v) (o + 1) (by simp at h ⊢; omega) j]
    simp only [List.length_cons] at h ⊢
    by_cases h1 : o + 1 ≤ j ∧ j < o + 1 + vs.length
    · rw [if_pos h1, if_pos (by omega), show j - o = (j - (o + 1)) + 1 by omega, List.getElem?_cons_succ]
    · rw [if_neg h1]
      by_cases h2 : j = o
      · subst h2; rw [if_pos (by omega)]; simp; rw [List.getElem?_eq_getElem (by simpa using (by omega : j < l.length))]; simp
      · rw [if_neg (by omega), List.getElem?_set_ne (by omega)]

theorem updRow_rel {ks : List CK} {r : E} {x : Int} (hr : r.den I g.env = some (.i x)) : ∀ {vs : List AV} {xs : List Value} {k : Nat} {t t' : E} {f : Int → Nat → Int},
    updRow ks t r k vs = some t' → Rels I g vs xs → t.den I g.env = some (.t f) →
    ∃ f', t'.den I g.env = some (.t f') ∧ k + vs.length ≤ max k ks.length ∧ (∀ j y, xs[j]? = some y → ∃ c, ks[k + j]? = some c ∧ y = c.val (f' x (k + j))) ∧
      (∀ (i : Int) (c : Nat), (i ≠ x ∨ c < k ∨ k + vs.length ≤ c) → f' i c = f i c)
  | [], xs, k, t, t', f, h, hv, ht => by
    simp [updRow] at h; subst h
    cases xs with
    | nil => exact ⟨f, ht, by simp; omega, by simp, fun _ _ _ => rfl⟩
    | cons _ _ => simp [Rels] at hv
  | v :: vs, [], k, t, t', f, h, hv, ht => by simp [Rels] at hv
  | v :: vs, y :: xs, k, t, t', f, h, hv, ht => by
    simp only [updRow] at h
    split at h
    · rename_i c c' e h1 h2 h3
      split at h
      · rename_i hc
        subst hc
        have hval : ∃ n : Int, e.den I g.env = some (.i n) ∧ y = c.val n := by
          obtain ⟨hv1, _⟩ := hv
          cases v <;> simp [kindOf] at h2 <;> simp [scal] at h3
          case bool q => subst h2; subst h3; obtain ⟨n, h4, h5⟩ := hv1; exact ⟨n, h4, h5⟩
          case int q q' => subst h2; subst h3; obtain ⟨n, h4, h5⟩ := hv1; exact ⟨n, h4, h5⟩
        obtain ⟨n, hn, rfl⟩ := hval
        obtain ⟨f', h4, h5, h6, h7⟩ := updRow_rel hr h hv.2 (den_upd ht hr hn)
        have hk : k < ks.length := (List.getElem?_eq_some_iff.1 h1).1
        refine ⟨f', h4, by simp; omega, fun j z hz => ?_, fun i cc hi => ?_⟩
        · cases j with
          | zero =>
            simp at hz; subst hz
            refine ⟨c, h1, ?_⟩
            rw [h7 x (k + 0) (.inr (.inl (by omega)))]
            simp [tupd]
          | succ j =>
            simp at hz
            obtain ⟨c2, h8, h9⟩ := h6 j z hz
            exact ⟨c2, by rw [← h8]; congr 1; omega, by rw [h9]; congr 2; omega⟩
        · rw [h7 i cc (by simp at hi; omega)]
          simp only [tupd]
          rw [if_neg (by simp at hi; omega)]
      · cases h
    · cases h

theorem storeAt_rel {b s k : Nat} {r : E} {x : Int} {p : PB} {M' : Mem} {ps : List PE} {vs : List AV} {xs : List Value} (hm : MRel A I P g M w) (h : storeAt M b r s k vs = some (M', ps))
    (hp : ∀ q ∈ ps, q.den I g.env) (hr : r.den I g.env = some (.i x)) (hx : 0 ≤ x) (hφ : g.φ b = some p) (hv : Rels I g vs xs) :
    ∃ w', (storeCells ⟨p.blk, p.base + x.toNat * s + k, none⟩ xs).run P w = .ok () w' ∧ MRel A I P g M' w' := by
  unfold storeAt at h
  split at h
  · cases h
  · rename_i hone
    have hone' : vs.all AV.one = true := by simpa using hone
    have hones := ones_rel hv hone'
    have hlen := hv.length
    split at h
    · rename_i l hb
      split at h
      · rename_i x0 hlit
        have e := isLit_eq hlit
        subst e
        have e : x = x0 := by simp [E.den] at hr; exact hr.symm
        subst e
        split at h
        · cases h
        · simp only at h
          split at h
          · rename_i hle
            simp at h
            obtain ⟨rfl, rfl⟩ := h
            obtain ⟨p', c, T, fr, hp', hh, hcs, hfr⟩ := hm.blk _ _ hb
            rw [hφ] at hp'; cases hp'
            have hfr0 := hfr rfl
            subst hfr0
            have hsz : vs = [] ∨ p.base + (x.toNat * s + k) + vs.length ≤ c.size := by
              cases hvs : vs with
              | nil => exact .inl rfl
              | cons v0 vs0 =>
                right
                have hi : x.toNat * s + k + (vs.length - 1) < l.length := by rw [hvs] at hle ⊢; simp at hle ⊢; omega
                obtain ⟨y, hy, _⟩ := hcs _ _ (List.getElem?_eq_getElem hi)
                have := (Array.getElem?_eq_some_iff.1 hy).1
                rw [← hvs]
                have : 1 ≤ vs.length := by rw [hvs]; simp
                omega
            rcases hsz with h0 | hsz
            · subst h0
              have : xs = [] := by cases xs <;> simp at hlen ⊢
              subst this
              refine ⟨w, rfl, hm.write hb rfl hφ rfl (fun _ _ => rfl) ⟨p, c, T, (0, 0), hφ, hh, by simpa [Sx.setL] using hcs, fun _ => rfl⟩⟩
            · have hst := run_storeCells_at P p.blk (p.base + x.toNat * s + k) T xs 0 c w hh (by omega) hones
              refine ⟨_, hst, hm.write hb rfl hφ (by simp) (fun i hi => setRow_other _ _ _ _ hi) ⟨p, _, T, (0, 0), hφ, setRow_heap _ _ _ _ _ _ hh, fun i v hiv => ?_, fun _ => rfl⟩⟩
              rw [getElem_setL vs l _ (by omega)] at hiv
              simp only [Nat.add_zero, List.getElem?_toArray]
              rw [getElem_splice _ _ _ (by simp; omega)]
              split at hiv
              · rename_i hin
                rw [if_pos (by omega)]
                obtain ⟨y, hy, hy'⟩ := hv.get hiv
                exact ⟨y, by rw [← hy]; congr 1; omega, hy'⟩
              · rename_i hout
                rw [if_neg (by omega)]
                obtain ⟨y, hy, hy'⟩ := hcs i v hiv
                exact ⟨y, by simpa using hy, hy'⟩
          · cases h
      · cases h
    · rename_i ks t len nl hb
      split at h
      · rename_i hs
        subst hs
        cases hu : updRow ks t r k vs with
        | none => simp [hu] at h
        | some t' =>
          simp [hu] at h
          obtain ⟨rfl, rfl⟩ := h
          obtain ⟨f, n, hf, hlenE, hn0, hrow⟩ := hm.blk _ _ hb
          obtain ⟨hx0, hxn⟩ := inRow_den hr hlenE hp
          rcases hrow with ⟨p', c, T, fr, hp', hh, hcs, hwr⟩ | ⟨_, hn, _⟩
          case inr => omega
          rw [hφ] at hp'; cases hp'
          obtain ⟨hfr, hsize, htot⟩ := hwr rfl
          subst hfr
          obtain ⟨f', h4, h5, h6, h7⟩ := updRow_rel hr hu hv hf
          have hvk : vs = [] ∨ k + vs.length ≤ ks.length := by
            cases hvs : vs with
            | nil => exact .inl rfl
            | cons _ _ => right; rw [hvs] at h5; simp at h5 ⊢; omega
          rcases hvk with h0 | hvk
          · subst h0
            have : xs = [] := by cases xs <;> simp at hlen ⊢
            subst this
            refine ⟨w, rfl, hm.write hb rfl hφ rfl (fun _ _ => rfl) ⟨f', n, h4, hlenE, hn0, .inl ⟨p, c, T, (0, 0), hφ, hh, fun r' j ck hr' hj => ?_, fun _ => ⟨rfl, hsize, htot⟩⟩⟩⟩
            rw [h7 r' j (by simp; omega)]
            exact hcs r' j ck hr' hj
          · have hrow1 : (x.toNat + 1) * ks.length ≤ p.tot * ks.length := Nat.mul_le_mul_right _ (by omega)
            rw [Nat.add_mul, Nat.one_mul] at hrow1
            have hst := run_storeCells_at P p.blk (p.base + x.toNat * ks.length + k) T xs 0 c w hh (by omega) hones
            refine ⟨_, hst, hm.write hb rfl hφ (by simp) (fun i hi => setRow_other _ _ _ _ hi)
              ⟨f', n, h4, hlenE, hn0, .inl ⟨p, _, T, (0, 0), hφ, setRow_heap _ _ _ _ _ _ hh, fun r' j ck hr' hj => ?_, fun _ => ⟨rfl, ?_, htot⟩⟩⟩⟩
            · have hjlt : j < ks.length := (List.getElem?_eq_some_iff.1 hj).1
              simp only [Nat.add_zero, List.getElem?_toArray]
              rw [getElem_splice _ _ _ (by simp; omega)]
              by_cases hrx : r' = x.toNat
              · subst hrx
                by_cases hjk : k ≤ j ∧ j < k + vs.length
                · rw [if_pos (by omega)]
                  have hlt : j - k < xs.length := by omega
                  obtain ⟨c2, h8, h9⟩ := h6 (j - k) _ (List.getElem?_eq_getElem hlt)
                  rw [show k + (j - k) = j by omega] at h8 h9
                  rw [h8] at hj
                  simp at hj
                  subst hj
                  rw [Int.toNat_of_nonneg hx, ← h9, ← List.getElem?_eq_getElem hlt]
                  congr 1; omega
                · rw [if_neg (by omega)]
                  rw [h7 _ j (by omega)]
                  simpa using hcs x.toNat j ck hr' hj
              · have hne : ¬ (p.base + x.toNat * ks.length + k ≤ p.base + r' * ks.length + j ∧ p.base + r' * ks.length + j < p.base + x.toNat * ks.length + k + xs.length) := by
                  rintro ⟨ha, hb'⟩
                  rcases Nat.lt_or_gt_of_ne hrx with hlt | hgt
                  · have := Nat.mul_le_mul_right ks.length (show r' + 1 ≤ x.toNat from hlt)
                    rw [Nat.add_mul, Nat.one_mul] at this
                    omega
                  · have := Nat.mul_le_mul_right ks.length (show x.toNat + 1 ≤ r' from hgt)
                    rw [Nat.add_mul, Nat.one_mul] at this
                    omega
                rw [if_neg hne, h7 _ j (.inl (by omega))]
                simpa using hcs r' j ck hr' hj
            · simp; omega
      · cases h
    · cases h
end Go.Sx
