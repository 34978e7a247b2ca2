/-
  A new block; a block written: the relation behind them. Conditions: none.
-/
import Derived.Test.YtbcclmpmljpbcaaGreatDoorSxStr
import Derived.Laws.CopyRow
noncomputable section
namespace Go.Sx
open Go

variable {A : Amb} {I : Itp} {P : Program} {g : G} {X : Nat → Prop} {ts : Tmps} {a : Act} {M : Mem} {w : World}

theorem MRel.heap_eq {w' : World} (h : MRel A I P g M w) (e : w'.heap = w.heap) (ho : w'.os = w.os ∧ w'.output = w.output := by exact ⟨rfl, rfl⟩) : MRel A I P g M w' where
  wf := h.wf
  blk b x hx := by have := h.blk b x hx; rw [e]; exact this
  lt := h.lt
  inj := h.inj
  bnd := by rw [e]; exact h.bnd
  own := h.own
  size := by rw [e]; exact h.size
  keep := by rw [e]; exact h.keep
  same := ⟨ho.1.trans h.same.1, ho.2.trans h.same.2⟩

theorem MRel.sub {M' : Mem} (h : MRel A I P g M w) (hs : ∀ b x, get M' b = some x → get M b = some x) : MRel A I P g M' w where
  wf := h.wf
  blk b x hx := h.blk b x (hs b x hx)
  lt b x hx := h.lt b x (hs b x hx)
  inj b c x y p q hx hy := h.inj b c x y p q (hs b x hx) (hs c y hy)
  bnd := h.bnd
  own b x p hx := h.own b x p (hs b x hx)
  size := h.size
  keep := h.keep
  same := h.same

/-- One block more is spoken of. -/
def G.lay (g : G) (p : Option PB) : G := { g with φ := fun b => if b = g.nb then p else g.φ b, nb := g.nb + 1 }

theorem G.lay_le (g : G) (p : Option PB) : g.Le (g.lay p) :=
  ⟨⟨[], by simp [G.lay]⟩, by simp [G.lay], fun b hb => by simp only [G.lay]; rw [if_neg (by omega)]⟩
theorem G.lay_wf {g : G} (h : g.wf) (p : Option PB) : (g.lay p).wf := fun b hb => by
  simp only [G.lay] at hb ⊢
  rw [if_neg (by omega)]; exact h b (by omega)
@[simp] theorem G.lay_new (g : G) (p : Option PB) : (g.lay p).φ g.nb = p := by simp [G.lay]

theorem heap_alloc_old {o : Obj} {i : Nat} (h : i < w.heap.size) : (w.alloc o).heap[i]? = w.heap[i]? := by
  show (w.heap.push o)[i]? = _
  rw [Array.getElem?_push]; rw [if_neg (by omega)]

theorem MRel.alloc {M' : Mem} {o : Obj} {x : Blk} {p : PB} (h : MRel A I P g M w) (hs : ∀ b y, get M' b = some y → get M b = some y) (hp : p.blk = w.heap.size)
    (hx : BRel I P (g.lay (some p)) g.nb (fun i => (w.alloc o).heap[i]?) x) : MRel A I P (g.lay (some p)) ((g.nb, x) :: M') (w.alloc o) := by
  have hle := g.lay_le (some p)
  have hold : ∀ b q, b ≠ g.nb → (g.lay (some p)).φ b = some q → g.φ b = some q := fun b q hb hq => by simpa [G.lay, hb] using hq
  have hcase : ∀ b y, get ((g.nb, x) :: M') b = some y → (b = g.nb ∧ y = x) ∨ (b ≠ g.nb ∧ get M b = some y) := fun b y hy => by
    simp only [get_cons] at hy
    by_cases hb : g.nb = b
    · rw [if_pos hb] at hy; simp at hy; exact .inl ⟨hb.symm, hy.symm⟩
    · rw [if_neg hb] at hy; exact .inr ⟨fun e => hb e.symm, hs b y hy⟩
  refine ⟨G.lay_wf h.wf _, fun b y hy => ?_, fun b y hy => ?_, fun b c y z q r hy hz hwy hq hr e => ?_, fun b q hq => ?_, fun b y q hy hw hq => ?_, ?_, fun i hi hX => ?_, h.same⟩
  · rcases hcase b y hy with ⟨rfl, rfl⟩ | ⟨hb, hy'⟩
    · exact hx
    · exact ((h.blk b y hy').le hle h.wf (h.lt b y hy')).heap fun q hq => by
        have := h.bnd b q (hold b q hb hq)
        exact heap_alloc_old this
  · rcases hcase b y hy with ⟨rfl, rfl⟩ | ⟨hb, hy'⟩
    · simp [G.lay]
    · have := h.lt b y hy'; simp [G.lay]; omega
  · rcases hcase b y hy with ⟨rfl, rfl⟩ | ⟨hb, hy'⟩ <;> rcases hcase c z hz with ⟨rfl, rfl⟩ | ⟨hc, hz'⟩
    · rfl
    · have h1 := h.bnd c r (hold c r hc hr)
      simp at hq; subst hq
      omega
    · have h1 := h.bnd b q (hold b q hb hq)
      simp at hr; subst hr
      omega
    · exact h.inj b c y z q r hy' hz' hwy (hold b q hb hq) (hold c r hc hr) e
  · by_cases hb : b = g.nb
    · subst hb; simp at hq; subst hq; simp [hp]
    · have := h.bnd b q (hold b q hb hq); simp; omega
  · rcases hcase b y hy with ⟨rfl, rfl⟩ | ⟨hb, hy'⟩
    · right; simp at hq; subst hq; rw [hp]; exact h.size
    · exact h.own b y q hy' hw (hold b q hb hq)
  · have := h.size; simp; omega
  · rw [heap_alloc_old (by have := h.size; omega)]; exact h.keep i hi hX

/-- A block is written: nothing else turns. -/
theorem MRel.write {w' : World} {b : Nat} {x y : Blk} {p : PB} (h : MRel A I P g M w) (hb : get M b = some x) (hw : x.wr = true) (hp : g.φ b = some p)
    (hsz : w'.heap.size = w.heap.size) (hoth : ∀ i, i ≠ p.blk → w'.heap[i]? = w.heap[i]?) (hy : BRel I P g b (fun i => w'.heap[i]?) y) (ho : w'.os = w.os ∧ w'.output = w.output := by exact ⟨rfl, rfl⟩) : MRel A I P g (put b y M) w' := by
  have hcase : ∀ c z, get (put b y M) c = some z → (c = b ∧ z = y) ∨ (c ≠ b ∧ get M c = some z) := fun c z hz => by
    rw [get_put] at hz
    by_cases hc : b = c
    · rw [if_pos hc] at hz; simp at hz; exact .inl ⟨hc.symm, hz.symm⟩
    · rw [if_neg hc] at hz; exact .inr ⟨fun e => hc e.symm, hz⟩
  have hkey : ∀ c z, get (put b y M) c = some z → ∃ z', get M c = some z' ∧ (z.wr = true → z'.wr = true) := fun c z hz => by
    rcases hcase c z hz with ⟨rfl, rfl⟩ | ⟨_, hz'⟩
    · exact ⟨x, hb, fun _ => hw⟩
    · exact ⟨z, hz', id⟩
  refine ⟨h.wf, fun c z hz => ?_, fun c z hz => ?_, fun c d z u q r hz hu hwz' hq hr e => ?_, fun c q hq => ?_, fun c z q hz hwz hq => ?_, ?_, fun i hi hX => ?_, ⟨ho.1.trans h.same.1, ho.2.trans h.same.2⟩⟩
  · rcases hcase c z hz with ⟨rfl, rfl⟩ | ⟨hc, hz'⟩
    · exact hy
    · exact (h.blk c z hz').heap fun q hq => hoth q.blk fun e => hc (h.inj b c x z p q hb hz' hw hp hq e.symm).symm
  · obtain ⟨z', hz', _⟩ := hkey c z hz; exact h.lt c z' hz'
  · obtain ⟨z', hz', hwz⟩ := hkey c z hz
    obtain ⟨u', hu', _⟩ := hkey d u hu
    exact h.inj c d z' u' q r hz' hu' (hwz hwz') hq hr e
  · rw [hsz]; exact h.bnd c q hq
  · obtain ⟨z', hz', hwr⟩ := hkey c z hz; exact h.own c z' q hz' (hwr hwz) hq
  · rw [hsz]; exact h.size
  · by_cases hi' : i = p.blk
    · exfalso
      subst hi'
      rcases h.own b x p hb hw hp with h1 | h1
      · exact hX h1
      · omega
    · rw [hoth i hi']; exact h.keep i hi hX

/-! ### Stores -/

theorem one_rel {v : AV} {x : Value} (h : Rel I g v x) (h1 : v.one = true) : x.oneCell' = true := by
  cases v <;> simp [AV.one] at h1 <;> simp only [Rel] at h
  case bool e => obtain ⟨n, _, rfl⟩ := h; rfl
  case int k e => obtain ⟨n, _, rfl⟩ := h; rfl
  case nilptr => subst h; rfl
  case ptr => obtain ⟨n, p, _, _, _, rfl⟩ := h; rfl
  case nilslice => subst h; rfl
  case slice => obtain ⟨l, n, _, _, _, _, ⟨p, cap, _, rfl, _⟩ | ⟨_, _, _, rfl⟩⟩ := h <;> rfl
  case cap0 => obtain ⟨a, rfl⟩ := h; rfl
  case empty => obtain ⟨a, c, rfl⟩ := h; rfl
  case asl => obtain ⟨p, c, _, _, rfl⟩ := h; rfl
  case bfunc => obtain ⟨ms, cs, rfl, _⟩ := h; rfl
  case gptr => subst h; rfl
  case str => obtain ⟨b, rfl, _⟩ := h; rfl
  case strT => obtain ⟨f, k, s, _, _, rfl, _⟩ := h; rfl
  case capN => obtain ⟨a, rfl⟩ := h; rfl
  case mref => obtain ⟨p, _, rfl⟩ := h; rfl
  case nilmap => subst h; rfl
  case nilif => subst h; rfl
  case sat => obtain ⟨n, _, rfl⟩ := h; rfl
  case ifo => obtain ⟨n, _, ⟨_, rfl⟩ | ⟨_, t, p, rfl⟩⟩ := h <;> rfl
  case func => obtain ⟨cs, rfl, _⟩ := h; rfl
  case yld => obtain ⟨p, _, rfl⟩ := h; rfl
  case nilfunc => subst h; rfl
theorem ones_rel : ∀ {l : List AV} {xs : List Value}, Rels I g l xs → l.all AV.one = true → ∀ x ∈ xs, x.oneCell' = true
  | [], [], _, _, x, hx => by simp at hx
  | v :: l, y :: xs, h, h1, x, hx => by
    simp at h1 hx
    rcases hx with rfl | hx
    · exact one_rel h.1 h1.1
    · exact ones_rel h.2 (by simpa using h1.2) x hx
  | [], _ :: _, h, _, _, _ => by simp [Rels] at h
  | _ :: _, [], h, _, _, _ => by simp [Rels] at h

/-- Values laid into a list. -/
theorem getElem_splice (cs vs : List Value) (o : Nat) (h : o + vs.length ≤ cs.length) (j : Nat) :
    (cs.take o ++ vs ++ cs.drop (o + vs.length))[j]? = if o ≤ j ∧ j < o + vs.length then vs[j - o]? else cs[j]? := by
  by_cases h1 : j < o
  · rw [if_neg (by omega), List.append_assoc, List.getElem?_append_left (by simp; omega), List.getElem?_take_of_lt h1]
  · by_cases h2 : j < o + vs.length
    · rw [if_pos (by omega), List.append_assoc, List.getElem?_append_right (by simp; omega)]
      simp only [List.length_take]
      rw [show min o cs.length = o by omega, List.getElem?_append_left (by omega)]
    · rw [if_neg (by omega), List.getElem?_append_right (by simp; omega)]
      simp only [List.length_append, List.length_take]
      rw [show min o cs.length = o by omega, List.getElem?_drop]
      congr 1; omega

theorem getElem_setL {α : Type} : ∀ (vs : List α) (l : List α) (o : Nat), o + vs.length ≤ l.length → ∀ j, (setL l o vs)[j]? = if o ≤ j ∧ j < o + vs.length then vs[j - o]? else l[j]?
  | [], l, o, _, j => by simp [setL]; omega
  | v :: vs, l, o, h, j => by
    simp only [setL]
    rw [getElem_setL vs (l.set o v) (o + 1) (by simp at h ⊢; omega) j]
    simp only [List.length_cons] at h ⊢
    by_cases h1 : o + 1 ≤ j ∧ j < o + 1 + vs.length
    · rw [if_pos h1, if_pos (by omega), show j - o = (j - (o + 1)) + 1 by omega, List.getElem?_cons_succ]
    · rw [if_neg h1]
      by_cases h2 : j = o
      · subst h2; rw [if_pos (by omega)]; simp; rw [List.getElem?_eq_getElem (by simpa using (by omega : j < l.length))]; simp
      · rw [if_neg (by omega), List.getElem?_set_ne (by omega)]

theorem tupd_twice (f : Int → Nat → Int) (x : Int) (k : Nat) (v y : Int) : tupd (tupd f x k v) x k y = tupd f x k y := by
  funext r c
  unfold tupd
  by_cases h : r = x ∧ c = k
  · rw [if_pos h, if_pos h]
  · rw [if_neg h, if_neg h, if_neg h]
theorem tupd_swap (f : Int → Nat → Int) {x z : Int} {k c : Nat} (v y : Int) (h : ¬ (z = x ∧ c = k)) : tupd (tupd f x k y) z c v = tupd (tupd f z c v) x k y := by
  funext r d
  unfold tupd
  by_cases h1 : r = z ∧ d = c
  · rw [if_pos h1, if_neg (fun e => h ⟨by rw [← h1.1, e.1], by rw [← h1.2, e.2]⟩), if_pos h1]
  · rw [if_neg h1]
    by_cases h2 : r = x ∧ d = k
    · rw [if_pos h2, if_pos h2]
    · rw [if_neg h2, if_neg h2, if_neg h1]
theorem tupd_self (f : Int → Nat → Int) (x : Int) (k : Nat) : tupd f x k (f x k) = f := by
  funext r c
  unfold tupd
  by_cases h : r = x ∧ c = k
  · rw [if_pos h, h.1, h.2]
  · rw [if_neg h]
theorem BT.put_get : ∀ (l : List Int) (c : Nat) (x : Int) (d : Nat), (BT.put l c x).getD d 0 = if d = c then x else l.getD d 0
  | [], 0, x, 0 => rfl
  | [], 0, x, d + 1 => by simp [BT.put]
  | [], c + 1, x, 0 => by simp [BT.put]
  | [], c + 1, x, d + 1 => by simpa [BT.put] using BT.put_get [] c x d
  | _ :: l, 0, x, 0 => rfl
  | _ :: l, 0, x, d + 1 => by simp [BT.put]
  | _ :: l, c + 1, x, 0 => by simp [BT.put]
  | _ :: l, c + 1, x, d + 1 => by simpa [BT.put] using BT.put_get l c x d
theorem BT.get_zero (b : BT) (d : Nat) : b.get 0 d = b.row.getD d 0 := by
  cases b <;> simp [BT.get, BT.row]
theorem BT.get_left (b : BT) {i : Nat} (h : Nat.beq (i % 2) 0 = true) (d : Nat) : b.get (i + 1) d = b.left.get (i / 2) d := by
  cases b <;> simp [BT.get, BT.left, h]
theorem BT.get_right (b : BT) {i : Nat} (h : Nat.beq (i % 2) 0 = false) (d : Nat) : b.get (i + 1) d = b.right.get (i / 2) d := by
  cases b <;> simp [BT.get, BT.right, h]
theorem BT.set_get : ∀ (f : Nat) (b : BT) (i c : Nat) (x : Int) {b' : BT}, BT.set f b i c x = some b' → ∀ j d, b'.get j d = if j = i ∧ d = c then x else b.get j d
  | 0, b, i, c, x, b', h => by simp [BT.set] at h
  | f + 1, b, 0, c, x, b', h => by
    simp only [BT.set, Option.some.injEq] at h
    subst h
    intro j d
    cases j with
    | zero =>
      rw [BT.get_zero, BT.get_zero]
      show (BT.put b.row c x).getD d 0 = _
      rw [BT.put_get]; simp
    | succ j =>
      rw [if_neg (by omega)]
      cases h : Nat.beq (j % 2) 0 with
      | true => rw [BT.get_left _ h, BT.get_left _ h]; rfl
      | false => rw [BT.get_right _ h, BT.get_right _ h]; rfl
  | f + 1, b, i + 1, c, x, b', h => by
    simp only [BT.set] at h
    intro j d
    split at h
    · rename_i hb
      split at h
      · rename_i l hl
        simp only [Option.some.injEq] at h
        subst h
        have ih := BT.set_get f _ _ _ _ hl
        cases j with
        | zero => rw [BT.get_zero, BT.get_zero, if_neg (by omega)]; rfl
        | succ j =>
          cases h : Nat.beq (j % 2) 0 with
          | true =>
            rw [BT.get_left _ h, BT.get_left _ h]
            show l.get _ _ = _
            rw [ih]
            have h1 := Nat.eq_of_beq_eq_true h
            have h2 := Nat.eq_of_beq_eq_true hb
            by_cases hj : j = i
            · subst hj; simp
            · rw [if_neg (by omega), if_neg (by omega)]
          | false =>
            rw [BT.get_right _ h, BT.get_right _ h]
            rw [if_neg (by
              rintro ⟨hj, _⟩
              rw [Nat.add_right_cancel hj, hb] at h
              cases h)]
            rfl
      · cases h
    · rename_i hb
      split at h
      · rename_i r hl
        simp only [Option.some.injEq] at h
        subst h
        have ih := BT.set_get f _ _ _ _ hl
        cases j with
        | zero => rw [BT.get_zero, BT.get_zero, if_neg (by omega)]; rfl
        | succ j =>
          cases h : Nat.beq (j % 2) 0 with
          | false =>
            rw [BT.get_right _ h, BT.get_right _ h]
            show r.get _ _ = _
            rw [ih]
            have h1 := Nat.ne_of_beq_eq_false h
            have h2 := Nat.ne_of_beq_eq_false hb
            by_cases hj : j = i
            · subst hj; simp
            · rw [if_neg (by omega), if_neg (by omega)]
          | true =>
            rw [BT.get_left _ h, BT.get_left _ h]
            rw [if_neg (by
              rintro ⟨hj, _⟩
              rw [Nat.add_right_cancel hj, hb] at h
              cases h)]
            rfl
      · cases h
theorem BT.set_tab {b b' : BT} {f i c : Nat} {x : Int} (h : BT.set f b i c x = some b') : b'.tab = tupd b.tab (Int.ofNat i) c x := by
  funext r d
  unfold BT.tab tupd
  cases r with
  | ofNat n =>
    simp only [BT.set_get _ _ _ _ _ h, Int.ofNat.injEq]
  | negSucc n => rw [if_neg (fun h => by cases h.1)]
theorem toBt_den {env : List D} : ∀ {t : E} {b : BT} {f : Int → Nat → Int}, t.toBt = some b → t.den I env = some (.t f) → b.tab = f := by
  intro t
  induction t with
  | zt =>
    intro b f h ht
    simp only [E.toBt, Option.some.injEq] at h
    subst h
    simp only [E.den, Option.some.injEq, D.t.injEq] at ht
    subst ht
    funext r c
    cases r <;> rfl
  | upd t r c v iht _ _ =>
    intro b f h ht
    obtain ⟨f0, x, y, h1, h2, h3, rfl⟩ := den_upd_inv ht
    unfold E.toBt at h
    split at h
    · rename_i he; cases he
    · rename_i t' n c' m he
      cases he
      split at h
      · rename_i b0 hb
        rw [BT.set_tab h, iht hb h1]
        simp [E.den] at h2 h3
        subst h2 h3
        rfl
      · cases h
    · cases h
  | _ => intro b f h; simp [E.toBt] at h
theorem thick_den {env : List D} {t r : E} {f : Int → Nat → Int} (ht : t.den I env = some (.t f)) : (thick t r).den I env = some (.t f) := by
  unfold thick
  split
  · split
    · rename_i b hb
      rw [← toBt_den hb ht]; rfl
    · exact ht
  · exact ht
theorem updFind_spec {env : List D} {x y : Int} {k : Nat} {v : E} (hv : v.den I env = some (.i y)) : ∀ {t t' : E} {f : Int → Nat → Int}, updFind t x k v = some t' → t.den I env = some (.t f) → t'.den I env = some (.t (tupd f x k y)) := by
  intro t
  induction t with
  | upd t0 r0 c w iht _ _ =>
    intro t' f h ht
    cases r0 with
    | lit z =>
      simp only [updFind] at h
      obtain ⟨f0, x0, y0, h1, h2, h3, rfl⟩ := den_upd_inv ht
      have hx0 : x0 = z := by simp [E.den] at h2; exact h2.symm
      subst hx0
      split at h
      · rename_i hc
        obtain ⟨rfl, rfl⟩ := hc
        simp at h; subst h
        rw [den_upd h1 h2 hv, tupd_twice]
      · rename_i hc
        cases hr : updFind t0 x k v with
        | none => simp [hr] at h
        | some t1 =>
          simp [hr] at h; subst h
          rw [den_upd (iht hr h1) h2 h3, tupd_swap _ _ _ hc]
    | _ => simp [updFind] at h
  | bt b =>
    intro t' f h ht
    have e : b.tab = f := by simpa [E.den] using ht
    subst e
    simp only [updFind] at h
    split at h
    · rename_i n m
      cases hb : BT.set 64 b n k m with
      | none => rw [hb] at h; cases h
      | some b' =>
        rw [hb] at h
        obtain rfl : m = y := by simpa [E.den] using hv
        obtain rfl : E.bt b' = t' := Option.some.inj h
        show some (D.t b'.tab) = _
        rw [BT.set_tab hb]
    · cases h
  | _ => intro t' f h; simp [updFind] at h
theorem den_mkUpd {env : List D} {t r v : E} {k : Nat} {f : Int → Nat → Int} {x y : Int} (ht : t.den I env = some (.t f)) (hr : r.den I env = some (.i x)) (hv : v.den I env = some (.i y)) :
    (mkUpd t r k v).den I env = some (.t (tupd f x k y)) := by
  have h0 : ∀ {z : Int}, x = z → ((updFind t z k v).getD (.upd t (.lit z) k v)).den I env = some (.t (tupd f x k y)) := by
    rintro _ rfl
    cases h : updFind t x k v with
    | none => exact den_upd ht (show (E.lit x).den I env = some (.i x) from rfl) hv
    | some t' => exact updFind_spec hv h ht
  unfold mkUpd
  split
  · rename_i z
    have hz : x = z := by simp [E.den] at hr; exact hr.symm
    have hs := den_mkSel (c := k) ht hr
    split
    · rename_i a0 ha
      rw [ha] at hs
      split
      · rename_i b
        split
        · rename_i hab
          simp [E.den] at hs hv
          rw [ht]
          congr 2
          rw [← hv, ← hab, hs]
          exact (tupd_self f x k).symm
        · exact h0 hz
      · exact h0 hz
    · exact h0 hz
  · exact den_upd ht hr hv

theorem updRow_rel {ks : List CK} {r : E} {x : Int} (hr : r.den I g.env = some (.i x)) : ∀ {vs : List AV} {xs : List Value} {k : Nat} {t t' : E} {f : Int → Nat → Int},
    updRow ks t r k vs = some t' → Rels I g vs xs → t.den I g.env = some (.t f) →
    ∃ f', t'.den I g.env = some (.t f') ∧ k + vs.length ≤ max k ks.length ∧ (∀ j y, xs[j]? = some y → ∃ c, ks[k + j]? = some c ∧ y = c.val (f' x (k + j))) ∧
      (∀ (i : Int) (c : Nat), (i ≠ x ∨ c < k ∨ k + vs.length ≤ c) → f' i c = f i c)
  | [], xs, k, t, t', f, h, hv, ht => by
    simp [updRow] at h; subst h
    cases xs with
    | nil => exact ⟨f, ht, by simp; omega, by simp, fun _ _ _ => rfl⟩
    | cons _ _ => simp [Rels] at hv
  | v :: vs, [], k, t, t', f, h, hv, ht => by simp [Rels] at hv
  | v :: vs, y :: xs, k, t, t', f, h, hv, ht => by
    simp only [updRow] at h
    split at h
    · rename_i c c' e h1 h2 h3
      split at h
      · rename_i hc
        subst hc
        have hval : ∃ n : Int, e.den I g.env = some (.i n) ∧ y = c.val n := by
          obtain ⟨hv1, _⟩ := hv
          cases v <;> simp [kindOf] at h2 <;> simp [scal] at h3
          case bool q => subst h2; subst h3; obtain ⟨n, h4, h5⟩ := hv1; exact ⟨n, h4, h5⟩
          case sat q => subst h2; exact code_rel h3 hv1
          case str q => subst h2; exact code_rel h3 hv1
          case strT q q' => subst h2; exact code_rel h3 hv1
          case int q q' => subst h2; subst h3; obtain ⟨n, h4, h5⟩ := hv1; exact ⟨n, h4, h5⟩
        obtain ⟨n, hn, rfl⟩ := hval
        obtain ⟨f', h4, h5, h6, h7⟩ := updRow_rel hr h hv.2 (den_mkUpd ht hr hn)
        have hk : k < ks.length := (List.getElem?_eq_some_iff.1 h1).1
        refine ⟨f', h4, by simp; omega, fun j z hz => ?_, fun i cc hi => ?_⟩
        · cases j with
          | zero =>
            simp at hz; subst hz
            refine ⟨c, h1, ?_⟩
            rw [h7 x (k + 0) (.inr (.inl (by omega)))]
            simp [tupd]
          | succ j =>
            simp at hz
            obtain ⟨c2, h8, h9⟩ := h6 j z hz
            exact ⟨c2, by rw [← h8]; congr 1; omega, by rw [h9]; congr 2; omega⟩
        · rw [h7 i cc (by simp at hi; omega)]
          simp only [tupd]
          rw [if_neg (by simp at hi; omega)]
      · cases h
    · cases h

/-- Values laid into a row of cells that may be written. -/
theorem run_storeCells_fr {fr : Nat × Nat} (g o : Nat) (t : TypeId) : ∀ (vs : List Value) (i : Nat) (cur : Array Value) (w : World), w.heap[g]? = some (.cells cur t fr) → Free fr cur.size → o + i + vs.length ≤ cur.size → (∀ v ∈ vs, v.oneCell' = true) →
    (storeCells ⟨g, o, none⟩ vs i).run P w = .ok () (w.setRow g (cur.toList.take (o + i) ++ vs ++ cur.toList.drop (o + i + vs.length)).toArray)
  | [], i, cur, w, hg, _, _, _ => by
    simp only [storeCells, List.append_nil, List.length_nil, Nat.add_zero, List.take_append_drop, Array.toArray_toList]
    rw [setRow_self w g cur t fr hg]
    rfl
  | v :: rest, i, cur, w, hg, hf, hl, h1 => by
    have hi : o + i < cur.size := by simp at hl; omega
    have hadd : (⟨g, o, none⟩ : Addr).add i = ⟨g, o + i, none⟩ := by unfold Addr.add; split <;> simp_all
    have hcell : w.cell? ⟨g, o + i, none⟩ = some cur[o + i] := by simp [World.cell?, hg, hi]
    have hfro : w.frozen? ⟨g, o + i, none⟩ = false := by
      rcases hf with rfl | hf
      · simp [World.frozen?, hg]
      · simp [World.frozen?, hg]; intro h; omega
    have hst : (store ((⟨g, o, none⟩ : Addr).add i) v).run P w = .ok () (w.setRow g (cur.setIfInBounds (o + i) v)) := by
      rw [hadd, run_store P w _ v _ (h1 v (by simp)), hcell]
      simp [hfro, setCell_eq_setRow w g (o + i) cur t fr v hg]
    have ih := run_storeCells_fr g o t rest (i + 1) (cur.setIfInBounds (o + i) v) (w.setRow g (cur.setIfInBounds (o + i) v)) (setRow_heap w g cur _ t _ hg) (by simpa using hf) (by simp at hl ⊢; omega) (fun x hx => h1 x (by simp [hx]))
    simp only [storeCells, Sem.run_bind, hst, Result.andThen_ok, ih, setRow_setRow]
    congr 3
    have e := list_seg_step cur.toList (o + i) v rest (by simp at hl ⊢; omega)
    simpa [Array.toList_setIfInBounds, Nat.add_assoc] using e

/-- Values laid into a block. -/
theorem store_any {q o : Nat} {c : Array Value} {T : TypeId} {xs : List Value} (hh : w.heap[q]? = some (.cells c T (0, 0))) (hsz : xs = [] ∨ o + xs.length ≤ c.size) (hones : ∀ x ∈ xs, x.oneCell' = true) :
    ∃ (w' : World) (c' : Array Value), (storeCells ⟨q, o, none⟩ xs).run P w = .ok () w' ∧ w'.heap.size = w.heap.size ∧ (∀ i, i ≠ q → w'.heap[i]? = w.heap[i]?) ∧ w'.heap[q]? = some (.cells c' T (0, 0)) ∧
      (∀ j, c'[j]? = if o ≤ j ∧ j < o + xs.length then xs[j - o]? else c[j]?) ∧ w'.os = w.os ∧ w'.output = w.output := by
  rcases hsz with rfl | hsz
  · exact ⟨w, c, rfl, rfl, fun _ _ => rfl, hh, fun j => by rw [if_neg (by simp)], rfl, rfl⟩
  · have hst := run_storeCells_at P q o T xs 0 c w hh (by omega) hones
    refine ⟨_, _, hst, by simp, fun i hi => setRow_other _ _ _ _ hi, setRow_heap _ _ _ _ _ _ hh, fun j => ?_, rfl, rfl⟩
    simp only [Nat.add_zero, List.getElem?_toArray]
    rw [getElem_splice _ _ _ (by simp; omega)]
    simp

theorem big_store {b : Nat} {p : PB} {pre post pre' post' : List AV} {ks : List CK} {t t' : E} {m : Nat} {vs : List AV} {xs : List Value} {o : Nat} (hm : MRel A I P g M w) (hb : get M b = some (.big pre ks t m post true)) (hφ : g.φ b = some p)
    (hv : Rels I g vs xs) (hones : ∀ x ∈ xs, x.oneCell' = true) (hin : vs = [] ∨ ∃ (_ : List AV), True ∧ o + vs.length ≤ pre.length + m * ks.length + post.length ∧
      (∀ j, j < vs.length → (o + j < pre.length ∨ (∃ r c k, r < m ∧ ks[c]? = some k ∧ o + j = pre.length + (r * ks.length + c)) ∨ (∃ i v, post[i]? = some v ∧ o + j = pre.length + m * ks.length + i))))
    (hnew : ∀ (c c' : Array Value) (f : Int → Nat → Int), t.den I g.env = some (.t f) → (∀ i v, pre[i]? = some v → ∃ x, c[p.base + i]? = some x ∧ Rel I g v x) →
      (∀ (r j : Nat) (k : CK), r < m → ks[j]? = some k → c[p.base + (pre.length + (r * ks.length + j))]? = some (k.val (f r j))) →
      (∀ i v, post[i]? = some v → ∃ x, c[p.base + (pre.length + m * ks.length + i)]? = some x ∧ Rel I g v x) →
      (∀ j, c'[p.base + j]? = if o ≤ j ∧ j < o + xs.length then xs[j - o]? else c[p.base + j]?) →
      ∃ f', t'.den I g.env = some (.t f') ∧ pre'.length = pre.length ∧ (∀ i v, pre'[i]? = some v → ∃ x, c'[p.base + i]? = some x ∧ Rel I g v x) ∧
      (∀ (r j : Nat) (k : CK), r < m → ks[j]? = some k → c'[p.base + (pre.length + (r * ks.length + j))]? = some (k.val (f' r j))) ∧
      (∀ i v, post'[i]? = some v → ∃ x, c'[p.base + (pre.length + m * ks.length + i)]? = some x ∧ Rel I g v x)) :
    ∃ w', (storeCells ⟨p.blk, p.base + o, none⟩ xs).run P w = .ok () w' ∧ MRel A I P g (put b (.big pre' ks t' m post' true) M) w' := by
  obtain ⟨p', c, T, fr, f, hp', hh, hf, hpre, hrow, hpost, hfr⟩ := hm.blk _ _ hb
  rw [hφ] at hp'; cases hp'
  have hfr0 := hfr rfl
  subst hfr0
  have hlen := hv.length
  have hsz : xs = [] ∨ p.base + o + xs.length ≤ c.size := by
    rcases hin with h0 | ⟨_, _, _, h2⟩
    · left; subst h0; cases xs <;> simp at hlen ⊢
    · by_cases h0 : vs.length = 0
      · left; cases xs <;> simp at hlen ⊢; omega
      · right
        have hex : ∃ y, c[p.base + (o + (vs.length - 1))]? = some y := by
          rcases h2 (vs.length - 1) (by omega) with h3 | ⟨r, cc, k, h3, h4, h5⟩ | ⟨i, v, h3, h4⟩
          · obtain ⟨y, hy, _⟩ := hpre _ _ (List.getElem?_eq_getElem h3); exact ⟨y, hy⟩
          · rw [h5]; exact ⟨_, hrow r cc k h3 h4⟩
          · rw [h4]; obtain ⟨y, hy, _⟩ := hpost i v h3; exact ⟨y, hy⟩
        obtain ⟨y, hy⟩ := hex
        have := (Array.getElem?_eq_some_iff.1 hy).1
        omega
  obtain ⟨w', c', h1, h2, h3, h4, h5, h6⟩ := store_any (P := P) hh hsz hones
  obtain ⟨f', k1, k2, k3, k4, k5⟩ := hnew c c' f hf hpre hrow hpost fun j => by
    rw [h5]
    by_cases hj : o ≤ j ∧ j < o + xs.length
    · rw [if_pos hj, if_pos (by omega)]; congr 1; omega
    · rw [if_neg hj, if_neg (by omega)]
  exact ⟨w', h1, hm.write hb rfl hφ h2 h3 ⟨p, c', T, (0, 0), f', hφ, h4, k1, k3, by rw [k2]; exact k4, by rw [k2]; exact k5, fun _ => rfl⟩ h6⟩

theorem storeAt_rel {b s k : Nat} {r : E} {x : Int} {p : PB} {M' : Mem} {ps : List PE} {vs : List AV} {xs : List Value} (hm : MRel A I P g M w) (h : storeAt M b r s k vs = some (M', ps))
    (hp : ∀ q ∈ ps, q.den I g.env) (hr : r.den I g.env = some (.i x)) (hx : 0 ≤ x) (hφ : g.φ b = some p) (hv : Rels I g vs xs) :
    ∃ w', (storeCells ⟨p.blk, p.base + x.toNat * s + k, none⟩ xs).run P w = .ok () w' ∧ MRel A I P g M' w' := by
  unfold storeAt at h
  split at h
  · cases h
  · rename_i hone
    have hone' : vs.all AV.one = true := by simpa using hone
    have hones := ones_rel hv hone'
    have hlen := hv.length
    split at h
    · rename_i l hb
      split at h
      · rename_i x0 hlit
        have e := isLit_eq hlit
        subst e
        have e : x = x0 := by simp [E.den] at hr; exact hr.symm
        subst e
        split at h
        · cases h
        · simp only at h
          split at h
          · rename_i hle
            simp at h
            obtain ⟨rfl, rfl⟩ := h
            obtain ⟨p', c, T, fr, hp', hh, hcs, hfr⟩ := hm.blk _ _ hb
            rw [hφ] at hp'; cases hp'
            obtain ⟨hfr0, htot⟩ := hfr rfl
            subst hfr0
            have hsz : vs = [] ∨ p.base + (x.toNat * s + k) + vs.length ≤ c.size := by
              cases hvs : vs with
              | nil => exact .inl rfl
              | cons v0 vs0 =>
                right
                have hi : x.toNat * s + k + (vs.length - 1) < l.length := by rw [hvs] at hle ⊢; simp at hle ⊢; omega
                obtain ⟨y, hy, _⟩ := hcs _ _ (List.getElem?_eq_getElem hi)
                have := (Array.getElem?_eq_some_iff.1 hy).1
                rw [← hvs]
                have : 1 ≤ vs.length := by rw [hvs]; simp
                omega
            rcases hsz with h0 | hsz
            · subst h0
              have : xs = [] := by cases xs <;> simp at hlen ⊢
              subst this
              refine ⟨w, rfl, hm.write hb rfl hφ rfl (fun _ _ => rfl) ⟨p, c, T, (0, 0), hφ, hh, by simpa [Sx.setL] using hcs, fun _ => ⟨rfl, htot⟩⟩⟩
            · have hst := run_storeCells_at P p.blk (p.base + x.toNat * s + k) T xs 0 c w hh (by omega) hones
              refine ⟨_, hst, hm.write hb rfl hφ (by simp) (fun i hi => setRow_other _ _ _ _ hi) ⟨p, _, T, (0, 0), hφ, setRow_heap _ _ _ _ _ _ hh, fun i v hiv => ?_, fun _ => ⟨rfl, by simp; omega⟩⟩⟩
              rw [getElem_setL vs l _ (by omega)] at hiv
              simp only [Nat.add_zero, List.getElem?_toArray]
              rw [getElem_splice _ _ _ (by simp; omega)]
              split at hiv
              · rename_i hin
                rw [if_pos (by omega)]
                obtain ⟨y, hy, hy'⟩ := hv.get hiv
                exact ⟨y, by rw [← hy]; congr 1; omega, hy'⟩
              · rename_i hout
                rw [if_neg (by omega)]
                obtain ⟨y, hy, hy'⟩ := hcs i v hiv
                exact ⟨y, by simpa using hy, hy'⟩
          · cases h
      · cases h
    · rename_i ks t len nl hb
      split at h
      · rename_i hs
        subst hs
        cases hu : updRow ks t r k vs with
        | none => simp [hu] at h
        | some t' =>
          simp [hu] at h
          obtain ⟨rfl, rfl⟩ := h
          obtain ⟨f, n, hf, hlenE, hn0, hrow⟩ := hm.blk _ _ hb
          obtain ⟨hx0, hxn⟩ := inRow_den hr hlenE hp
          rcases hrow with ⟨p', c, T, fr, hp', hh, hcs, hwr⟩ | ⟨_, hn, _⟩
          case inr => omega
          rw [hφ] at hp'; cases hp'
          obtain ⟨hfr, hsize, htot⟩ := hwr rfl
          obtain ⟨f', h4, h5, h6, h7⟩ := updRow_rel hr hu hv hf
          have hvk : vs = [] ∨ k + vs.length ≤ ks.length := by
            cases hvs : vs with
            | nil => exact .inl rfl
            | cons _ _ => right; rw [hvs] at h5; simp at h5 ⊢; omega
          rcases hvk with h0 | hvk
          · subst h0
            have : xs = [] := by cases xs <;> simp at hlen ⊢
            subst this
            refine ⟨w, rfl, hm.write hb rfl hφ rfl (fun _ _ => rfl) ⟨f', n, h4, hlenE, hn0, .inl ⟨p, c, T, fr, hφ, hh, fun r' j ck hr' hj => ?_, fun _ => ⟨hfr, hsize, htot⟩⟩⟩⟩
            rw [h7 r' j (by simp; omega)]
            exact hcs r' j ck hr' hj
          · have hrow1 : (x.toNat + 1) * ks.length ≤ p.tot := Nat.le_trans (Nat.mul_le_mul_right _ (by omega)) htot
            rw [Nat.add_mul, Nat.one_mul] at hrow1
            have hst := run_storeCells_fr (P := P) p.blk (p.base + x.toNat * ks.length + k) T xs 0 c w hh hfr (by omega) hones
            refine ⟨_, hst, hm.write hb rfl hφ (by simp) (fun i hi => setRow_other _ _ _ _ hi)
              ⟨f', n, h4, hlenE, hn0, .inl ⟨p, _, T, fr, hφ, setRow_heap _ _ _ _ _ _ hh, fun r' j ck hr' hj => ?_, fun _ => ⟨by
                rcases hfr with h | h
                · exact .inl h
                · right; simp; omega, ?_, htot⟩⟩⟩⟩
            · have hjlt : j < ks.length := (List.getElem?_eq_some_iff.1 hj).1
              simp only [Nat.add_zero, List.getElem?_toArray]
              rw [getElem_splice _ _ _ (by simp; omega)]
              by_cases hrx : r' = x.toNat
              · subst hrx
                by_cases hjk : k ≤ j ∧ j < k + vs.length
                · rw [if_pos (by omega)]
                  have hlt : j - k < xs.length := by omega
                  obtain ⟨c2, h8, h9⟩ := h6 (j - k) _ (List.getElem?_eq_getElem hlt)
                  rw [show k + (j - k) = j by omega] at h8 h9
                  rw [h8] at hj
                  simp at hj
                  subst hj
                  rw [Int.toNat_of_nonneg hx, ← h9, ← List.getElem?_eq_getElem hlt]
                  congr 1; omega
                · rw [if_neg (by omega)]
                  rw [h7 _ j (by omega)]
                  simpa using hcs x.toNat j ck hr' hj
              · have hne : ¬ (p.base + x.toNat * ks.length + k ≤ p.base + r' * ks.length + j ∧ p.base + r' * ks.length + j < p.base + x.toNat * ks.length + k + xs.length) := by
                  rintro ⟨ha, hb'⟩
                  rcases Nat.lt_or_gt_of_ne hrx with hlt | hgt
                  · have := Nat.mul_le_mul_right ks.length (show r' + 1 ≤ x.toNat from hlt)
                    rw [Nat.add_mul, Nat.one_mul] at this
                    omega
                  · have := Nat.mul_le_mul_right ks.length (show x.toNat + 1 ≤ r' from hgt)
                    rw [Nat.add_mul, Nat.one_mul] at this
                    omega
                rw [if_neg hne, h7 _ j (.inl (by omega))]
                simpa using hcs r' j ck hr' hj
            · simp; omega
      · cases h
    · rename_i pre ks t m post hb
      split at h
      · rename_i i hloc
        have hsp := bigLoc_spec hloc hr hx
        simp only at hsp
        split at h
        · rename_i hle
          simp at h
          obtain ⟨rfl, rfl⟩ := h
          rw [show p.base + x.toNat * s + k = p.base + i by omega]
          refine big_store (o := i) hm hb hφ hv hones (.inr ⟨[], trivial, by omega, fun j hj => .inl (by omega)⟩) fun c c' f hf hpre hrow hpost hc' => ⟨f, hf, setL_length _ _ _, fun j v hj => ?_, fun r j kk hr' hj => ?_, fun j v hj => ?_⟩
          · rw [getElem_setL vs pre _ hle] at hj
            rw [hc']
            split at hj
            · rename_i hin
              rw [if_pos (by omega)]
              exact hv.get hj
            · rename_i hout
              rw [if_neg (by omega)]
              exact hpre j v hj
          · rw [hc', if_neg (by omega)]; exact hrow r j kk hr' hj
          · rw [hc', if_neg (by omega)]; exact hpost j v hj
        · cases h
      · rename_i i hloc
        have hsp := bigLoc_spec hloc hr hx
        simp only at hsp
        split at h
        · rename_i hle
          simp at h
          obtain ⟨rfl, rfl⟩ := h
          rw [show p.base + x.toNat * s + k = p.base + (pre.length + m * ks.length + i) by omega]
          refine big_store (o := pre.length + m * ks.length + i) hm hb hφ hv hones (.inr ⟨[], trivial, by omega, fun j hj => .inr (.inr ⟨i + j, _, List.getElem?_eq_getElem (show i + j < post.length by omega), by omega⟩)⟩)
            fun c c' f hf hpre hrow hpost hc' => ⟨f, hf, rfl, fun j v hj => ?_, fun r j kk hr' hj => ?_, fun j v hj => ?_⟩
          · have := (List.getElem?_eq_some_iff.1 hj).1
            rw [hc', if_neg (by omega)]; exact hpre j v hj
          · have hjl : j < ks.length := (List.getElem?_eq_some_iff.1 hj).1
            have := Nat.mul_le_mul_right ks.length (show r + 1 ≤ m from hr')
            rw [Nat.add_mul, Nat.one_mul] at this
            rw [hc', if_neg (by omega)]; exact hrow r j kk hr' hj
          · rw [getElem_setL vs post _ hle] at hj
            rw [hc']
            split at hj
            · rename_i hin
              rw [if_pos (by omega)]
              obtain ⟨y, h1, h2⟩ := hv.get hj
              exact ⟨y, by rw [← h1]; congr 1; omega, h2⟩
            · rename_i hout
              rw [if_neg (by omega)]
              exact hpost j v hj
        · cases h
      · rename_i q cc hloc
        obtain ⟨z, hz, hz0, hsp⟩ := bigLoc_spec hloc hr hx
        cases hu : updRow ks t q cc vs with
        | none => simp [hu] at h
        | some t' =>
          simp [hu] at h
          obtain ⟨rfl, rfl⟩ := h
          obtain ⟨_, hzn⟩ := inRow_den hz (show (E.lit m).den I g.env = some (.i m) from rfl) hp
          rw [show p.base + x.toNat * s + k = p.base + (pre.length + (z.toNat * ks.length + cc)) by omega]
          obtain ⟨_, _, _, _, f0, _, _, hf0, _⟩ := hm.blk _ _ hb
          obtain ⟨f', h4, h5, h6, h7⟩ := updRow_rel hz hu hv hf0
          have hrow1 := Nat.mul_le_mul_right ks.length (show z.toNat + 1 ≤ m by omega)
          rw [Nat.add_mul, Nat.one_mul] at hrow1
          have hvk : vs = [] ∨ cc + vs.length ≤ ks.length := by
            cases hvs : vs with
            | nil => exact .inl rfl
            | cons _ _ => right; rw [hvs] at h5; simp at h5 ⊢; omega
          refine big_store (o := pre.length + (z.toNat * ks.length + cc)) hm hb hφ hv hones (by
            rcases hvk with h0 | h0
            · exact .inl h0
            · refine .inr ⟨[], trivial, by omega, fun j hj => .inr (.inl ⟨z.toNat, cc + j, ks[cc + j]'(by omega), by omega, List.getElem?_eq_getElem _, by omega⟩)⟩)
            fun c c' f hf hpre hrow hpost hc' => ⟨f', h4, rfl, fun j v hj => ?_, fun r j kk hr' hj => ?_, fun j v hj => ?_⟩
          · have := (List.getElem?_eq_some_iff.1 hj).1
            rw [hc', if_neg (by omega)]; exact hpre j v hj
          · have e : f = f0 := by rw [hf0] at hf; simp at hf; exact hf.symm
            subst e
            have hjl : j < ks.length := (List.getElem?_eq_some_iff.1 hj).1
            rw [hc']
            by_cases hrx : r = z.toNat
            · subst hrx
              by_cases hjk : cc ≤ j ∧ j < cc + vs.length
              · rw [if_pos (by omega)]
                have hlt : j - cc < xs.length := by omega
                obtain ⟨c2, h8, h9⟩ := h6 (j - cc) _ (List.getElem?_eq_getElem hlt)
                rw [show cc + (j - cc) = j by omega] at h8 h9
                rw [h8] at hj
                simp at hj
                subst hj
                rw [Int.toNat_of_nonneg hz0, ← h9, ← List.getElem?_eq_getElem hlt]
                congr 1; omega
              · rw [if_neg (by omega), h7 _ j (by omega)]
                exact hrow _ j kk hr' hj
            · have hne : ¬ (pre.length + (z.toNat * ks.length + cc) ≤ pre.length + (r * ks.length + j) ∧ pre.length + (r * ks.length + j) < pre.length + (z.toNat * ks.length + cc) + xs.length) := by
                rintro ⟨ha, hb'⟩
                rcases hvk with h0 | hvk
                · subst h0; simp at hlen; omega
                rcases Nat.lt_or_gt_of_ne hrx with hlt | hgt
                · have := Nat.mul_le_mul_right ks.length (show r + 1 ≤ z.toNat from hlt)
                  rw [Nat.add_mul, Nat.one_mul] at this
                  omega
                · have := Nat.mul_le_mul_right ks.length (show z.toNat + 1 ≤ r from hgt)
                  rw [Nat.add_mul, Nat.one_mul] at this
                  omega
              rw [if_neg hne, h7 _ j (.inl (by omega))]
              exact hrow r j kk hr' hj
          · have hb2 : cc + vs.length ≤ ks.length ∨ xs.length = 0 := by
              rcases hvk with h0 | h0
              · right; subst h0; simp at hlen; omega
              · exact .inl h0
            rw [hc', if_neg (by omega)]; exact hpost j v hj
      · cases h
    · cases h
end Go.Sx
