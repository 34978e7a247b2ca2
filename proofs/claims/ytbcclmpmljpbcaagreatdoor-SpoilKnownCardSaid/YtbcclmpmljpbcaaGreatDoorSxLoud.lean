/-
  Operations that make or write memory: allocations, stores, literals, make, append. Conditions: none.
-/
import Derived.Test.YtbcclmpmljpbcaaGreatDoorSxMem
import Derived.Laws.AppendOwn
noncomputable section
namespace Go.Sx
open Go

variable {A : Amb} {I : Itp} {P : Program} {g : G} {X : Nat → Prop} {ts : Tmps} {a : Act} {M : Mem} {w : World}

/-! ### The relation, a block laid without a place; a block under another name -/

theorem MRel.lay_none {M' : Mem} {x : Blk} (h : MRel A I P g M w) (hs : ∀ b y, get M' b = some y → get M b = some y)
    (hx : BRel I P (g.lay none) g.nb (fun i => w.heap[i]?) x) : MRel A I P (g.lay none) ((g.nb, x) :: M') w := by
  have hle := g.lay_le none
  have hold : ∀ b q, (g.lay none).φ b = some q → g.φ b = some q ∧ b ≠ g.nb := fun b q hq => by
    by_cases hb : b = g.nb
    · subst hb; simp at hq
    · exact ⟨by simpa [G.lay, hb] using hq, hb⟩
  have hcase : ∀ b y, get ((g.nb, x) :: M') b = some y → (b = g.nb ∧ y = x) ∨ (b ≠ g.nb ∧ get M b = some y) := fun b y hy => by
    simp only [get_cons] at hy
    by_cases hb : g.nb = b
    · rw [if_pos hb] at hy; simp at hy; exact .inl ⟨hb.symm, hy.symm⟩
    · rw [if_neg hb] at hy; exact .inr ⟨fun e => hb e.symm, hs b y hy⟩
  refine ⟨G.lay_wf h.wf _, fun b y hy => ?_, fun b y hy => ?_, fun b c y z q r hy hz hwy hq hr e => ?_, fun b q hq => h.bnd b q (hold b q hq).1, fun b y q hy hw hq => ?_, h.size, h.keep, h.same⟩
  · rcases hcase b y hy with ⟨rfl, rfl⟩ | ⟨hb, hy'⟩
    · exact hx
    · exact (h.blk b y hy').le hle h.wf (h.lt b y hy')
  · rcases hcase b y hy with ⟨rfl, rfl⟩ | ⟨hb, hy'⟩
    · simp [G.lay]
    · have := h.lt b y hy'; simp [G.lay]; omega
  · obtain ⟨hq', hb⟩ := hold b q hq
    obtain ⟨hr', hc⟩ := hold c r hr
    rcases hcase b y hy with ⟨rfl, rfl⟩ | ⟨_, hy'⟩
    · exact absurd rfl hb
    · rcases hcase c z hz with ⟨rfl, rfl⟩ | ⟨_, hz'⟩
      · exact absurd rfl hc
      · exact h.inj b c y z q r hy' hz' hwy hq' hr' e
  · obtain ⟨hq', hb⟩ := hold b q hq
    rcases hcase b y hy with ⟨rfl, rfl⟩ | ⟨_, hy'⟩
    · exact absurd rfl hb
    · exact h.own b y q hy' hw hq'

theorem MRel.rename {b : Nat} {x y : Blk} {p : PB} (h : MRel A I P g M w) (hb : get M b = some x) (hp : g.φ b = some p) (hw : x.wr = true)
    (hy : BRel I P (g.lay (some p)) g.nb (fun i => w.heap[i]?) y) : MRel A I P (g.lay (some p)) ((g.nb, y) :: del b M) w := by
  have hle := g.lay_le (some p)
  have hold : ∀ c q, c ≠ g.nb → (g.lay (some p)).φ c = some q → g.φ c = some q := fun c q hc hq => by simpa [G.lay, hc] using hq
  have hcase : ∀ c z, get ((g.nb, y) :: del b M) c = some z → (c = g.nb ∧ z = y) ∨ (c ≠ g.nb ∧ c ≠ b ∧ get M c = some z) := fun c z hz => by
    simp only [get_cons] at hz
    by_cases hc : g.nb = c
    · rw [if_pos hc] at hz; simp at hz; exact .inl ⟨hc.symm, hz.symm⟩
    · rw [if_neg hc, get_del] at hz
      split at hz
      · cases hz
      · rename_i hbc
        exact .inr ⟨fun e => hc e.symm, fun e => hbc e.symm, hz⟩
  refine ⟨G.lay_wf h.wf _, fun c z hz => ?_, fun c z hz => ?_, fun c d z u q r hz hu hwz' hq hr e => ?_, fun c q hq => ?_, fun c z q hz hwz hq => ?_, h.size, h.keep, h.same⟩
  · rcases hcase c z hz with ⟨rfl, rfl⟩ | ⟨_, _, hz'⟩
    · exact hy
    · exact (h.blk c z hz').le hle h.wf (h.lt c z hz')
  · rcases hcase c z hz with ⟨rfl, rfl⟩ | ⟨_, _, hz'⟩
    · simp [G.lay]
    · have := h.lt c z hz'; simp [G.lay]; omega
  · rcases hcase c z hz with ⟨rfl, rfl⟩ | ⟨hc, hcb, hz'⟩ <;> rcases hcase d u hu with ⟨rfl, rfl⟩ | ⟨hd, hdb, hu'⟩
    · rfl
    · simp at hq; subst hq
      exact absurd (h.inj b d x u p r hb hu' hw hp (hold d r hd hr) e) (fun e => hdb e.symm)
    · simp at hr; subst hr
      exact absurd (h.inj b c x z p q hb hz' hw hp (hold c q hc hq) e.symm).symm hcb
    · exact h.inj c d z u q r hz' hu' hwz' (hold c q hc hq) (hold d r hd hr) e
  · by_cases hc : c = g.nb
    · subst hc; simp at hq; subst hq; exact h.bnd b p hp
    · exact h.bnd c q (hold c q hc hq)
  · rcases hcase c z hz with ⟨rfl, rfl⟩ | ⟨hc, _, hz'⟩
    · simp at hq; subst hq; exact h.own b x p hb hw hp
    · exact h.own c z q hz' hwz (hold c q hc hq)

/-! ### A state, a block more -/

theorem SRel.lay {s : St} (h : SRel A I P X g s a w) {p : Option PB} {M' : Mem} {w' : World} (hm : MRel A I P (g.lay p) M' w') :
    SRel A I P X (g.lay p) { s with mem := M', nb := s.nb + 1 } a w' :=
  ⟨hm, h.t.le (g.lay_le p) h.m.wf, h.nt, h.d.le (g.lay_le p) h.m.wf, h.nv, by simp [G.lay, h.nb]⟩

theorem SRel.mem {s : St} (h : SRel A I P X g s a w) {M' : Mem} {w' : World} (hm : MRel A I P g M' w') : SRel A I P X g { s with mem := M' } a w' :=
  ⟨hm, h.t, h.nt, h.d, h.nv, h.nb⟩

/-- What an operation that makes or writes memory comes to. -/
structure LoudRun (A : Amb) (I : Itp) (P : Program) (X : Nat → Prop) (g : G) (a : Act) (w : World) (o : Oper) (v : AV) (s1 : St) : Prop where
  run : ∃ (x : Value) (w' : World) (g' : G), ((execOp a.eval o).run P w = .ok (.value x) w' ∨ ((execOp a.eval o).run P w = .ok .skip w' ∧ x = Go.undef)) ∧
    g.Le g' ∧ g'.env = g.env ∧ Rel I g' v x ∧ SRel A I P X g' s1 a w'

theorem cells_brel {p : PB} {l : List AV} {cs : Array Value} {T : TypeId} {H : Nat → Option Obj} {b : Nat} {fr : Nat × Nat} (hp : g.φ b = some p) (h0 : p.base = 0) (hH : H p.blk = some (.cells cs T fr))
    (hl : Rels I g l cs.toList) (hfr : fr = (0, 0)) (htot : p.tot ≤ cs.size) : BRel I P g b H (.cells l true) :=
  ⟨p, cs, T, fr, hp, hH, fun i v hv => by
    obtain ⟨x, h1, h2⟩ := hl.get hv
    exact ⟨x, by rw [h0, Nat.zero_add]; simpa using h1, h2⟩, fun _ => ⟨hfr, by omega⟩⟩

theorem heap_alloc_new (w : World) (o : Obj) : (w.alloc o).heap[w.heap.size]? = some o := by
  show (w.heap.push o)[w.heap.size]? = some o
  simp

theorem alloc_loud {s : St} {o : Oper} {t : TypeId} (hs : SRel A I P X g s a w) (hop : o.op = .alloc t) {z : AV} (hz : zeroAV P t = some z) :
    LoudRun A I P X g a w o (.ptr s.nb (.lit 0) 0 0) (newBlk s (.cells z.cells true)) := by
  obtain ⟨ti, zx, _, _, hzr, hzrel⟩ := zeroAV_rel hz
  let p : PB := { blk := w.heap.size, base := 0, tot := 0 }
  refine ⟨.pointer (some ⟨w.heap.size, 0, none⟩), w.alloc (.cells zx.cells t), g.lay (some p), .inl ?_, g.lay_le _, rfl, ?_, ?_⟩
  · simp only [execOp, hop, Instr.alloc, Sem.run_bind, hzr, Result.andThen, newVar, newRow, run_newObj_alloc, Sem.run_pure]
  · exact ⟨0, p, rfl, Int.le_refl _, by rw [← hs.nb]; exact G.lay_new g (some p), by simp [p]⟩
  · have hm := hs.m.alloc (M' := s.mem) (o := .cells zx.cells t) (x := .cells z.cells true) (p := p) (fun _ _ h => h) rfl
      (cells_brel (G.lay_new g (some p)) rfl (heap_alloc_new _ _) (hzrel I _).2 rfl (Nat.zero_le _))
    rw [hs.nb] at hm
    exact hs.lay hm

theorem box_loud {s : St} {o : Oper} {t : TypeId} {x : Operand} (hs : SRel A I P X g s a w) (hop : o.op = .box t x) {v : AV} (hv : Rel I g v (a.eval x)) (hne : v ≠ .any) (hnb : v.isBig = false) :
    LoudRun A I P X g a w o (.ptr s.nb (.lit 0) 0 0) (newBlk s (.cells v.cells true)) := by
  let p : PB := { blk := w.heap.size, base := 0, tot := 0 }
  refine ⟨.pointer (some ⟨w.heap.size, 0, none⟩), w.alloc (.cells (a.eval x).cells t), g.lay (some p), .inl ?_, g.lay_le _, rfl, ?_, ?_⟩
  · simp only [execOp, hop, Instr.box, Sem.run_bind, Result.andThen, newVar, newRow, run_newObj_alloc, Sem.run_pure]
  · exact ⟨0, p, rfl, Int.le_refl _, by rw [← hs.nb]; exact G.lay_new g (some p), by simp [p]⟩
  · have hm := hs.m.alloc (M' := s.mem) (o := .cells (a.eval x).cells t) (x := .cells v.cells true) (p := p) (fun _ _ h => h) rfl
      (cells_brel (G.lay_new g (some p)) rfl (heap_alloc_new _ _) ((cells_rel hv hne hnb).le (g.lay_le _) hs.m.wf) rfl (Nat.zero_le _))
    rw [hs.nb] at hm
    exact hs.lay hm

/-- A block with a table in it. -/
theorem big_brel {p : PB} {l m : List AV} {ks : List CK} {t : E} {n : Nat} {cs : Array Value} {xs ys zs : List Value} {f : Int → Nat → Int} {T : TypeId} {H : Nat → Option Obj} {b : Nat} (hp : g.φ b = some p) (h0 : p.base = 0)
    (hH : H p.blk = some (.cells cs T (0, 0))) (hcs : cs.toList = xs ++ ys ++ zs) (ht : t.den I g.env = some (.t f)) (hl : Rels I g l xs) (hm : Rels I g m zs) (hyl : ys.length = n * ks.length)
    (hys : ∀ (r j : Nat) (k : CK), r < n → ks[j]? = some k → ys[r * ks.length + j]? = some (k.val (f r j))) : BRel I P g b H (.big l ks t n m true) := by
  have hll := hl.length
  refine ⟨p, cs, T, (0, 0), f, hp, hH, ht, fun i v hv => ?_, fun r j k hr hj => ?_, fun i v hv => ?_, fun _ => rfl⟩
  · obtain ⟨x, h1, h2⟩ := hl.get hv
    have hi := (List.getElem?_eq_some_iff.1 h1).1
    refine ⟨x, ?_, h2⟩
    rw [h0, Nat.zero_add, ← Array.getElem?_toList, hcs, List.append_assoc, List.getElem?_append_left hi, h1]
  · have hjl : j < ks.length := (List.getElem?_eq_some_iff.1 hj).1
    have hlt := Nat.mul_le_mul_right ks.length (show r + 1 ≤ n from hr)
    rw [Nat.add_mul, Nat.one_mul] at hlt
    rw [h0, Nat.zero_add, ← Array.getElem?_toList, hcs, List.append_assoc, List.getElem?_append_right (by omega), List.getElem?_append_left (by omega), ← hys r j k hr hj]
    congr 1; omega
  · obtain ⟨x, h1, h2⟩ := hm.get hv
    refine ⟨x, ?_, h2⟩
    rw [h0, Nat.zero_add, ← Array.getElem?_toList, hcs, List.getElem?_append_right (by simp; omega), ← h1]
    congr 1; simp; omega

theorem allocBig_loud {s : St} {o : Oper} {bg : Big} (hs : SRel A I P X g s a w) (hop : o.op = .alloc bg.t) {l m : List AV} (hz : zeroBig P bg = some (l, m)) :
    LoudRun A I P X g a w o (.ptr s.nb (.lit 0) 0 0) (newBlk s (.big l bg.ks .zt bg.n m true)) := by
  obtain ⟨ti, cs, xs, ys, zs, _, _, hcs, hzr, hzrel, hyl, hys⟩ := zeroBig_spec hz
  let p : PB := { blk := w.heap.size, base := 0, tot := 0 }
  refine ⟨.pointer (some ⟨w.heap.size, 0, none⟩), w.alloc (.cells cs bg.t), g.lay (some p), .inl ?_, g.lay_le _, rfl, ?_, ?_⟩
  · simp only [execOp, hop, Instr.alloc, Sem.run_bind, hzr, Result.andThen, newVar, newRow, run_newObj_alloc, Sem.run_pure, Value.cells]
  · exact ⟨0, p, rfl, Int.le_refl _, by rw [← hs.nb]; exact G.lay_new g (some p), by simp [p]⟩
  · have hm := hs.m.alloc (M' := s.mem) (o := .cells cs bg.t) (x := .big l bg.ks .zt bg.n m true) (p := p) (fun _ _ h => h) rfl
      (big_brel (f := fun _ _ => 0) (G.lay_new g (some p)) rfl (heap_alloc_new _ _) hcs rfl (hzrel I _).1 (hzrel I _).2 hyl hys)
    rw [hs.nb] at hm
    exact hs.lay hm

theorem boxBig_loud {s : St} {o : Oper} {t : TypeId} {x : Operand} (hs : SRel A I P X g s a w) (hop : o.op = .box t x) {l m : List AV} {ks : List CK} {e : E} {n : Nat} (hv : Rel I g (.big l ks e n m) (a.eval x)) :
    LoudRun A I P X g a w o (.ptr s.nb (.lit 0) 0 0) (newBlk s (.big l ks e n m true)) := by
  obtain ⟨f, xs, ys, zs, h1, h2, h3, h4, h5, h6⟩ := hv
  let p : PB := { blk := w.heap.size, base := 0, tot := 0 }
  refine ⟨.pointer (some ⟨w.heap.size, 0, none⟩), w.alloc (.cells (a.eval x).cells t), g.lay (some p), .inl ?_, g.lay_le _, rfl, ?_, ?_⟩
  · simp only [execOp, hop, Instr.box, Sem.run_bind, Result.andThen, newVar, newRow, run_newObj_alloc, Sem.run_pure]
  · exact ⟨0, p, rfl, Int.le_refl _, by rw [← hs.nb]; exact G.lay_new g (some p), by simp [p]⟩
  · have hm := hs.m.alloc (M' := s.mem) (o := .cells (a.eval x).cells t) (x := .big l ks e n m true) (p := p) (fun _ _ h => h) rfl
      (big_brel (G.lay_new g (some p)) rfl (heap_alloc_new _ _) (by rw [h2]; rfl) (E.den_le (g.lay_le _) h1) (h3.le (g.lay_le _) hs.m.wf) (h4.le (g.lay_le _) hs.m.wf) h5 h6)
    rw [hs.nb] at hm
    exact hs.lay hm

theorem store_loud {s : St} {o : Oper} {t : TypeId} {y x : Operand} (hs : SRel A I P X g s a w) (hop : o.op = .store t y x) {b z k n : Nat} {r : E} {v : AV} {M' : Mem} {ps : List PE}
    (hy : Rel I g (.ptr b r z k) (a.eval y)) (hv : Rel I g v (a.eval x)) (hne : v ≠ .any) (hnb : v.isBig = false) (hn : tySize P t = some n) (hl : v.cells.length = n)
    (h : storeAt s.mem b r z k v.cells = some (M', ps)) (hp : ∀ q ∈ ps, q.den I g.env) :
    LoudRun A I P X g a w o .undef { s with mem := M' } := by
  obtain ⟨m, p, h2, h3, h4, h5⟩ := hy
  have hc := cells_rel hv hne hnb
  obtain ⟨w', h6, h7⟩ := storeAt_rel hs.m h hp h2 h3 h4 hc
  refine ⟨Go.undef, w', g, .inr ⟨?_, rfl⟩, .refl _, rfl, rfl, hs.mem h7⟩
  have hsz : (a.eval x).cells.size = n := by rw [← hl]; simpa using hc.length.symm
  simp only [execOp, hop, h5, Instr.storeAt, Instr.sureAddr, Sem.run_bind, Sem.run_pure, Result.andThen, storeVar, run_tySize hn, hsz, ne_eq, not_true_eq_false, if_false, h6]

/-! ### Rows -/

theorem kindsOf_length : ∀ {l : List AV} {ks : List CK}, kindsOf l = some ks → ks.length = l.length
  | [], ks, h => by simp [kindsOf] at h; subst h; rfl
  | v :: l, ks, h => by
    simp only [kindsOf] at h
    split at h
    · rename_i k ks' h1 h2; simp at h; subst h; simp [kindsOf_length h2]
    · cases h

theorem rowsOf_rel {ks : List CK} : ∀ (n : Nat) {vs : List AV} {xs : List Value} {t : E}, rowsOf ks n vs = some t → Rels I g vs xs → vs.length = n * ks.length →
    ∃ f, t.den I g.env = some (.t f) ∧ ∀ (r j : Nat) (k : CK), r < n → ks[j]? = some k → xs[r * ks.length + j]? = some (k.val (f r j))
  | 0, vs, xs, t, h, hv, hl => by
    simp only [rowsOf] at h
    split at h
    · simp at h; subst h; exact ⟨_, rfl, fun r j k hr => by omega⟩
    · cases h
  | m + 1, vs, xs, t, h, hv, hl => by
    simp only [rowsOf] at h
    split at h
    · rename_i t0 h0
      have hl0 : (vs.take (m * ks.length)).length = m * ks.length := by simp [hl, Nat.add_mul]
      obtain ⟨f, h1, h2⟩ := rowsOf_rel m h0 (hv.take _) hl0
      obtain ⟨f', h3, h4, h5, h6⟩ := updRow_rel (x := (m : Int)) rfl h (hv.drop _) h1
      refine ⟨f', h3, fun r j k hr hj => ?_⟩
      have hjlt : j < ks.length := (List.getElem?_eq_some_iff.1 hj).1
      by_cases hrm : r = m
      · subst hrm
        have hxl : xs.length = (r + 1) * ks.length := by rw [← hv.length]; exact hl
        have hlt : j < (xs.drop (r * ks.length)).length := by simp [hxl, Nat.add_mul]; omega
        obtain ⟨c, h7, h8⟩ := h5 j _ (List.getElem?_eq_getElem hlt)
        rw [Nat.zero_add] at h7 h8
        rw [h7] at hj; simp at hj; subst hj
        rw [← h8, ← List.getElem?_eq_getElem hlt, List.getElem?_drop]
      · have hlt : r < m := by omega
        have := h2 r j k hlt hj
        rw [List.getElem?_take] at this
        have hrow := Nat.mul_le_mul_right ks.length (show r + 1 ≤ m from hlt)
        rw [Nat.add_mul, Nat.one_mul] at hrow
        rw [if_pos (by omega)] at this
        rw [this, h6 r j (.inl (by omega))]
    · cases h

theorem repl_length (zs : List AV) : ∀ n, (repl n zs).length = n * zs.length
  | 0 => by simp [repl]
  | n + 1 => by simp [repl, repl_length zs n, Nat.add_mul]; omega
theorem repl_get (zs : List AV) : ∀ n i, i < n * zs.length → (repl n zs)[i]? = zs[i % zs.length]?
  | 0, i, h => by omega
  | n + 1, i, h => by
    simp only [repl]
    by_cases hi : i < zs.length
    · rw [List.getElem?_append_left hi, Nat.mod_eq_of_lt hi]
    · rw [List.getElem?_append_right (by omega), repl_get zs n _ (by rw [Nat.add_mul, Nat.one_mul] at h; omega)]
      congr 1
      rw [Nat.mod_eq_sub_mod (a := i) (by omega)]

theorem zeros_rel {z : AV} {x : Value} {sz n : Nat} (h : Rels I g z.cells x.cells.toList) (hsz : z.cells.length = sz) :
    Rels I g (repl n z.cells) ((Array.range (n * sz)).map (fun i => x.cells[i % x.cells.size]!)).toList := by
  have hxs : x.cells.size = sz := by rw [← hsz]; simpa using h.length.symm
  refine Rels.mk (by simp [repl_length, hsz]) fun i v y h1 h2 => ?_
  have hi : i < n * sz := by
    have := (List.getElem?_eq_some_iff.1 h1).1
    rw [repl_length, hsz] at this; exact this
  rw [repl_get _ _ _ (by rw [hsz]; exact hi)] at h1
  obtain ⟨y', h3, h4⟩ := h.get h1
  have h2' : ((List.range (n * sz)).map fun i => x.cells[i % x.cells.size]!)[i]? = some y := by
    have : ((Array.range (n * sz)).map (fun i => x.cells[i % x.cells.size]!)).toList = (List.range (n * sz)).map fun i => x.cells[i % x.cells.size]! := by simp
    rw [← this]; exact h2
  obtain ⟨_, rfl⟩ := get_range_map h2'
  have h5 : x.cells[i % x.cells.size]? = some y' := by rw [hxs, ← hsz]; simpa using h3
  rw [getElem!_def, h5]
  exact h4

theorem rows_brel {p : PB} {ks : List CK} {t len : E} {f : Int → Nat → Int} {n : Nat} {cs : Array Value} {T : TypeId} {H : Nat → Option Obj} {b : Nat} {nl : Bool} (hp : g.φ b = some p) (h0 : p.base = 0)
    (hH : H p.blk = some (.cells cs T (0, 0))) (ht : t.den I g.env = some (.t f)) (hlen : len.den I g.env = some (.i n))
    (hrows : ∀ (r j : Nat) (k : CK), r < n → ks[j]? = some k → cs[r * ks.length + j]? = some (k.val (f r j))) (htot : p.tot ≤ cs.size) (hn : n * ks.length ≤ p.tot) :
    BRel I P g b H (.rows ks t len true nl) :=
  ⟨f, n, ht, hlen, by omega, .inl ⟨p, cs, T, (0, 0), hp, hH, fun r j k hr hj => by rw [h0, Nat.zero_add]; exact hrows r j k (by simpa using hr) hj, fun _ => ⟨.inl rfl, by omega, by simpa using hn⟩⟩⟩

theorem sliceBlk_brel {p : PB} {zs : List AV} {n : Nat} {vs : List AV} {cs : Array Value} {T : TypeId} {H : Nat → Option Obj} {b : Nat} (hp : g.φ b = some p) (h0 : p.base = 0) (htot : p.tot = n * zs.length)
    (hH : H p.blk = some (.cells cs T (0, 0))) (hv : Rels I g vs cs.toList) (hl : vs.length = n * zs.length) : BRel I P g b H (sliceBlk zs n vs) := by
  have hc : BRel I P g b H (.cells vs true) := cells_brel hp h0 hH hv rfl (by have := hv.length; simp at this; omega)
  unfold sliceBlk
  split
  · rename_i ks hk
    split
    · exact hc
    · have hkl := kindsOf_length hk
      split
      · rename_i t ht
        obtain ⟨f, h1, h2⟩ := rowsOf_rel n ht hv (by rw [hkl]; exact hl)
        refine rows_brel hp h0 hH h1 rfl (fun r j k hr hj => ?_) ?_ (by rw [htot, hkl]; exact Nat.le_refl _)
        · have := h2 r j k hr hj; simpa using this
        · rw [htot, ← hl, hv.length]; simp
      · exact hc
  · exact hc

theorem buildSlice_new {ts : Tmps} {o : Oper} {t el : TypeId} {n sz : Nat} {parts : Array (Nat × Operand)} (htr : TRel I g X ts a.tmps) (hop : o.op = .buildSlice t n parts)
    (hx : ∀ t', .tmp t' ∈ o.op.operands.toList → ¬ X t') (hu : P.underlying t = some (.slice el)) {z : AV} (hz : zeroAV P el = some z) (hsz : tySize P el = some sz) {ps : List (Nat × AV)}
    (hps : evalParts ts parts.toList = some ps) (hzl : z.cells.length = sz) (hb : n * sz ≤ 1000) {vs : List AV} (hf : fillAV (fun i => some (i * sz, sz)) (repl n z.cells) ps = some vs) :
    ∃ ds : Array Value, (execOp a.eval o).run P w = .ok (.value (.slice (some ⟨w.heap.size, 0, none⟩) n n)) (w.alloc (.cells ds el)) ∧ Rels I g vs ds.toList ∧ vs.length = n * z.cells.length := by
  obtain ⟨ti, zx, _, _, hzr, hzrel⟩ := zeroAV_rel hz
  obtain ⟨h1, h2, h3⟩ := evalParts_rel (a := a) htr hps fun t' ht' => hx t' (by rw [hop]; simpa [Op.operands] using ht')
  have hzs := zeros_rel (n := n) (hzrel I g).2 hzl
  have hl : vs.length = n * z.cells.length := by
    have : ∀ (ps : List (Nat × AV)) (l m : List AV), fillAV (fun i => some (i * sz, sz)) l ps = some m → m.length = l.length := by
      intro ps
      induction ps with
      | nil => intro l m h; simp [fillAV] at h; subst h; rfl
      | cons q ps ih =>
        intro l m h
        obtain ⟨i, v⟩ := q
        simp only [fillAV] at h
        split at h
        · cases h
        · rw [ih _ _ h, setL_length]
    rw [this ps _ _ hf, repl_length]
  obtain ⟨ds, h4, h5⟩ := fill_rel (qs := parts.toList.map fun x => (x.1, a.eval x.2)) (by simpa [Function.comp_def] using h1) (by simpa [Function.comp_def] using h2) h3 hzs hf
  refine ⟨ds, ?_, h5, hl⟩
  · have h4' : Instr.fill (fun i => some (i * sz, sz)) ((Array.range (n * sz)).map (fun i => zx.cells[i % zx.cells.size]!)) (parts.map fun x => (x.1, a.eval x.2)).toList = some ds := by
      rw [← h4]; simp
    simp only [execOp, hop, Instr.buildSlice, Sem.run_bind, run_underlying hu, Result.andThen, run_tySize hsz]
    rw [if_neg (by omega)]
    by_cases h0 : n * sz = 0
    · rw [if_pos h0]
      have h4'' : Instr.fill (fun i => some (i * sz, sz)) ((Array.range (n * sz)).map (fun i => (#[] : Array Value)[i % (#[] : Array Value).size]!)) (parts.map fun x => (x.1, a.eval x.2)).toList = some ds := by
        rw [← h4', h0]; simp [show Array.range 0 = #[] from rfl]
      simp only [Sem.run_bind, Sem.run_pure, Result.andThen]
      rw [h4'']
      simp only [Sem.run_bind, Result.andThen, newRow, run_newObj_alloc, Sem.run_pure]
    · rw [if_neg h0]
      simp only [Sem.run_bind, hzr, Sem.run_pure, Result.andThen]
      rw [h4']
      simp only [Sem.run_bind, Result.andThen, newRow, run_newObj_alloc, Sem.run_pure]
theorem buildSlice_loud {s : St} {o : Oper} {t el : TypeId} {n sz : Nat} {parts : Array (Nat × Operand)} (hs : SRel A I P X g s a w) (hop : o.op = .buildSlice t n parts)
    (hx : ∀ t', .tmp t' ∈ o.op.operands.toList → ¬ X t') (hu : P.underlying t = some (.slice el)) {z : AV} (hz : zeroAV P el = some z) (hsz : tySize P el = some sz) {ps : List (Nat × AV)}
    (hps : evalParts s.tmps parts.toList = some ps) (hzl : z.cells.length = sz) (hb : n * sz ≤ 1000) {vs : List AV} (hf : fillAV (fun i => some (i * sz, sz)) (repl n z.cells) ps = some vs) :
    LoudRun A I P X g a w o (.slice s.nb (.lit 0) (.lit n) sz false) (newBlk s (sliceBlk z.cells n vs)) := by
  obtain ⟨ds, hrun, h5, hl⟩ := buildSlice_new (w := w) hs.t hop hx hu hz hsz hps hzl hb hf
  let p : PB := { blk := w.heap.size, base := 0, tot := n * sz }
  refine ⟨.slice (some ⟨w.heap.size, 0, none⟩) n n, w.alloc (.cells ds el), g.lay (some p), .inl hrun, g.lay_le _, rfl, ?_, ?_⟩
  · exact ⟨0, n, rfl, rfl, Int.le_refl _, by omega, .inl ⟨p, n, by rw [← hs.nb]; exact G.lay_new g (some p), by simp [p], by simp, by simp [p]⟩⟩
  · have hm := hs.m.alloc (M' := s.mem) (o := .cells ds el) (x := sliceBlk z.cells n vs) (p := p) (fun _ _ h => h) rfl
      (sliceBlk_brel (G.lay_new g (some p)) rfl (by rw [hzl]) (heap_alloc_new _ _) (h5.le (g.lay_le _) hs.m.wf) hl)
    rw [hs.nb] at hm
    exact hs.lay hm
end Go.Sx
