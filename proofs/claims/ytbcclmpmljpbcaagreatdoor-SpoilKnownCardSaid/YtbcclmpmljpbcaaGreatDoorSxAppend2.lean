/-
  append of cells, append of zeros, clear. Conditions: none.
-/
import Derived.Test.YtbcclmpmljpbcaaGreatDoorSxAppend
namespace Go.Sx
open Go

variable {A : Amb} {I : Itp} {P : Program} {g : G} {X : Nat → Prop} {ts : Tmps} {a : Act} {M : Mem} {w : World}

/-- Some cells of a block. -/
theorem cells_src {p : PB} {c : Array Value} {T : TypeId} {fr : Nat × Nat} {l : List AV} {k len : Nat} (hh : w.heap[p.blk]? = some (.cells c T fr))
    (hcs : ∀ i v, l[i]? = some v → ∃ x, c[p.base + i]? = some x ∧ Rel I g v x) (hle : k + len ≤ l.length) :
    ∃ xs : List Value, Rels I g ((l.drop k).take len) xs ∧ xs.length = len ∧ (∀ q v, xs[q]? = some v → c[p.base + k + q]? = some v) ∧
      ∀ w' : World, w'.heap = w.heap → (loadCells ⟨p.blk, p.base + k, none⟩ len).run P w' = .ok xs.toArray w' := by
  have hget : ∀ q, q < len → ∃ x, c[p.base + k + q]? = some x ∧ ∀ v, l[k + q]? = some v → Rel I g v x := fun q hq => by
    obtain ⟨x, h1, h2⟩ := hcs (k + q) _ (List.getElem?_eq_getElem (by omega))
    refine ⟨x, by rw [← h1, Nat.add_assoc], fun v hv => ?_⟩
    rw [List.getElem?_eq_getElem (by omega)] at hv
    cases hv; exact h2
  have hx : ∀ q v, ((List.range len).map fun q => (c[p.base + k + q]?).getD Go.undef)[q]? = some v → c[p.base + k + q]? = some v := fun q v hq => by
    obtain ⟨h1, rfl⟩ := get_range_map hq
    obtain ⟨x, h2, _⟩ := hget q h1
    rw [h2]; rfl
  refine ⟨(List.range len).map fun q => (c[p.base + k + q]?).getD Go.undef, ?_, by simp, hx, fun w' hw' => ?_⟩
  · refine Rels.mk (by simp; omega) fun i v y h1 h2 => ?_
    have hi : i < len := by
      have := (List.getElem?_eq_some_iff.1 h2).1
      simpa using this
    obtain ⟨x, h3, h4⟩ := hget i hi
    rw [List.getElem?_take, if_pos hi, List.getElem?_drop] at h1
    have := hx i y h2
    rw [h3] at this; cases this
    exact h4 v h1
  · have := run_loadCells_list (P := P) w' ⟨p.blk, p.base + k, none⟩ ((List.range len).map fun q => (c[p.base + k + q]?).getD Go.undef) fun q v hq => by
      rw [addr_add, cell_cells (by rw [hw']; exact hh)]
      exact hx q v hq
    simpa using this

theorem firstCells_zero {sz : Nat} {ad : Option Addr} {cp : Nat} : (Builtin.firstCells sz 0 (.slice ad 0 cp)).run P w = .ok #[] w := by
  cases ad with
  | none => simp [Builtin.firstCells]
  | some a =>
    have := run_loadCells_list (P := P) w a [] (fun q v hq => by simp at hq)
    simp only [Builtin.firstCells, Nat.zero_mul]
    simpa using this

theorem srcCells_rel {sz : Nat} {y : AV} {u : List AV} {x : Value} (hm : MRel A I P g M w) (h : srcCells M sz y = some u) (hy : Rel I g y x) :
    ∃ (mm : Nat) (xs : List Value), Rels I g u xs ∧ xs.length = mm * sz ∧ (Builtin.lenOf x).run P w = .ok mm w ∧
      ∀ w' : World, w'.heap = w.heap → (Builtin.firstCells sz mm x).run P w' = .ok xs.toArray w' := by
  have nil : ∀ ad cp, x = .slice ad 0 cp → ∃ (mm : Nat) (xs : List Value), Rels I g [] xs ∧ xs.length = mm * sz ∧ (Builtin.lenOf x).run P w = .ok mm w ∧
      ∀ w' : World, w'.heap = w.heap → (Builtin.firstCells sz mm x).run P w' = .ok xs.toArray w' := by
    rintro ad cp rfl
    exact ⟨0, [], trivial, by simp, rfl, fun w' _ => firstCells_zero⟩
  unfold srcCells at h
  split at h
  · simp at h; subst h
    simp only [Rel] at hy
    exact nil _ _ hy
  · simp at h; subst h
    obtain ⟨ad, hy⟩ := hy
    exact nil _ _ hy
  · simp at h; subst h
    obtain ⟨ad, cp, hy⟩ := hy
    exact nil _ _ hy
  · rename_i b lo m s nl
    split at h
    · rename_i l wr hb
      split at h
      · rename_i hc
        simp at h; subst h
        obtain ⟨rfl, h1, h2, h3⟩ := hc
        obtain ⟨p, c, T, fr, hp, hh, hcs, _⟩ := hm.blk _ _ hb
        obtain ⟨l', n', h4, h5, h6, h7, h8⟩ := hy
        simp [E.den] at h4 h5; subst h4; subst h5
        rcases h8 with ⟨p', cap, h9, rfl, h10, h11⟩ | ⟨_, rfl, ad, rfl⟩
        · rw [hp] at h9; cases h9
          obtain ⟨xs, h12, h13, _, h14⟩ := cells_src (P := P) (k := lo.toNat * s) (len := m.toNat * s) hh hcs (by rw [← Nat.add_mul, ← Int.toNat_add h1 h2]; exact h3)
          exact ⟨m.toNat, xs, h12, h13, rfl, h14⟩
        · obtain ⟨mm, xs, h12, h13⟩ := nil _ _ rfl
          exact ⟨mm, xs, by simpa using h12, h13⟩
      · cases h
    · cases h
  · rename_i b k n s
    split at h
    · rename_i l wr hb
      split at h
      · rename_i hc
        simp at h; subst h
        obtain ⟨rfl, h3⟩ := hc
        obtain ⟨p, c, T, fr, hp, hh, hcs, _⟩ := hm.blk _ _ hb
        obtain ⟨p', cap, h9, h10, rfl⟩ := hy
        rw [hp] at h9; cases h9
        obtain ⟨xs, h12, h13, _, h14⟩ := cells_src (P := P) (k := k) (len := n * s) hh hcs h3
        exact ⟨n, xs, h12, h13, rfl, h14⟩
      · cases h
    · cases h
  · cases h

/-- The slice that is appended to, as cells. -/
inductive DstC (I : Itp) (P : Program) (g : G) (M : Mem) (w : World) (sz : Nat) (l : List AV) (N : Nat) : Option Nat → Value → Prop
  | nil (bo : Option Nat) (base : Option Addr) : N = 0 → l = [] → DstC I P g M w sz l N bo (.slice base 0 0)
  | row (b : Nat) (p : PB) (c : Array Value) (T : TypeId) (cap : Nat) (blk : Blk) : get M b = some blk → blk.wr = true → g.φ b = some p → N ≤ cap → cap * sz ≤ p.tot → w.heap[p.blk]? = some (.cells c T (0, 0)) →
      l.length = N * sz → (∀ i v, l[i]? = some v → ∃ x, c[p.base + i]? = some x ∧ Rel I g v x) → p.base + p.tot ≤ c.size →
      DstC I P g M w sz l N (some b) (.slice (some ⟨p.blk, p.base, none⟩) N cap)

theorem dstCells_rel {sz : Nat} {x y : AV} {l : List AV} {n : Nat} {bo : Option Nat} {v : Value} (hm : MRel A I P g M w) (h : dstCells M sz x y = some (bo, l, n)) (hx : Rel I g x v) :
    DstC I P g M w sz l n bo v := by
  unfold dstCells at h
  split at h
  · simp at h
    obtain ⟨rfl, rfl, rfl⟩ := h
    simp only [Rel] at hx
    subst hx
    exact .nil _ _ rfl rfl
  · simp at h
    obtain ⟨rfl, rfl, rfl⟩ := h
    obtain ⟨ad, rfl⟩ := hx
    exact .nil _ _ rfl rfl
  · rename_i b n' s nl
    split at h
    · rename_i l0 hb
      split at h
      · rename_i hc
        obtain ⟨rfl, h1, h2, _⟩ := hc
        simp at h
        obtain ⟨rfl, rfl, rfl⟩ := h
        obtain ⟨p, c, T, fr, hp, hh, hcs, hwr⟩ := hm.blk _ _ hb
        obtain ⟨hfr, htot⟩ := hwr rfl
        subst hfr
        obtain ⟨l', N, h4, h5, h6, h7, h8⟩ := hx
        simp [E.den] at h4 h5; subst h4; subst h5
        rcases h8 with ⟨p', cap, h9, rfl, h10, h11⟩ | ⟨_, rfl, ad, rfl⟩
        · rw [hp] at h9; cases h9
          have := DstC.row (I := I) (P := P) (g := g) (M := M) (w := w) (sz := s) (l := l0.take (n'.toNat * s)) (N := n'.toNat) b p c T cap _ hb rfl hp h10 (by simpa using h11) hh
            (by simp; omega) (fun i v hv => by
              rw [List.getElem?_take] at hv
              split at hv
              · exact hcs i v hv
              · cases hv) htot
          simpa using this
        · exact .nil _ _ rfl (by simp)
      · cases h
    · cases h
  · cases h

theorem appendCells_loud {s : St} {o : Oper} {t u el d : TypeId} {x y : Operand} {v yv r : AV} {s1 : St} {ps : List PE} (hs : SRel A I P X g s a w)
    (hop : o.op = .call { callee := .builtin .append, args := #[x, y], argTypes := #[t, u] }) (ht : P.underlying t = some (.slice el)) (hu : P.underlying u = some (.slice d))
    (hx : Rel I g v (a.eval x)) (hy : Rel I g yv (a.eval y)) (h : appendCells P s el v yv = some (r, s1, ps)) :
    LoudRun A I P X g a w o r s1 := by
  unfold appendCells at h
  split at h
  case h_2 => cases h
  rename_i z sz bytes hz hsz hbytes
  split at h
  case isFalse => cases h
  rename_i hc
  obtain ⟨hb1, hb0, hsz0, hzl⟩ := hc
  split at h
  case h_2 => cases h
  rename_i uL bo lL n hsrc hdst
  obtain ⟨ti, zx, hi, hiz, hzr, hzrel⟩ := zeroAV_rel hz
  have htis : ti.size = sz := by simpa [tySize, hi] using hsz
  have htib : ti.bytes = bytes := by simpa [hi] using hbytes
  obtain ⟨m, xs, hxs, hxl, hlenY, hfY⟩ := srcCells_rel hs.m hsrc hy
  have hd := dstCells_rel hs.m hdst hx
  have hul : uL.length = m * sz := by rw [hxs.length, hxl]
  have exec : ∀ {val : Value} {w' : World}, (Builtin.append_ #[t, u] o.type #[a.eval x, a.eval y]).run P w = .ok val w' → (execOp a.eval o).run P w = .ok (.value val) w' := by
    intro val w' hrun
    simp [execOp, hop, resolve, invoke, builtin, hrun, Result.andThen]
  split at h
  · rename_i hemp
    simp at h
    obtain ⟨rfl, rfl, rfl⟩ := h
    have hu0 : uL = [] := by simpa using hemp
    have hm0 : m = 0 := by
      rw [hu0] at hul
      rcases Nat.mul_eq_zero.1 hul.symm with h0 | h0
      · exact h0
      · exact absurd h0 hsz0
    subst hm0
    have hxs0 : xs = [] := List.length_eq_zero_iff.1 (by rw [hxl]; simp)
    subst hxs0
    have hrun : (Builtin.append_ #[t, u] o.type #[a.eval x, a.eval y]).run P w = .ok (a.eval x) w := by
      have hf0 : (Builtin.firstCells ti.size 0 (a.eval y)).run P w = .ok #[] w := by rw [htis]; simpa using hfY w rfl
      generalize a.eval x = xv at hd
      cases hd with
      | nil bo base hN0 hl0 => exact run_append_nothing (n := 0) (cap := 0) (base := base) (Nat.le_refl _) ht hu hi hlenY hf0
      | row b p c T cap blk hb hwr hφ hnc hct hh hl hcont hcs => exact run_append_nothing hnc ht hu hi hlenY hf0
    exact ⟨_, w, g, .inl (exec hrun), G.Le.refl _, rfl, hx, hs⟩
  rename_i hne
  split at h
  case isFalse => cases h
  rename_i hc
  obtain ⟨hsm, hones⟩ := hc
  cases h
  have hdiv : uL.length / sz = m := by rw [hul, Nat.mul_div_cancel _ (by omega)]
  rw [hdiv] at hsm ⊢
  have hm0 : m ≠ 0 := by
    rintro rfl
    rw [Nat.zero_mul] at hul
    exact hne (by simp [List.length_eq_zero_iff.1 hul])
  have hval : ∀ (cs : Array Value) (base : Nat), (∀ i v, lL[i]? = some v → ∃ x, cs[base + i]? = some x ∧ Rel I g v x) → lL.length = n * sz → (∀ q v, xs[q]? = some v → cs[base + n * sz + q]? = some v) →
      ∀ i v, (lL ++ uL)[i]? = some v → ∃ x, cs[base + i]? = some x ∧ Rel I g v x := by
    intro cs base h1 h2 h3 i v hv
    by_cases hil : i < lL.length
    · rw [List.getElem?_append_left hil] at hv
      exact h1 i v hv
    · rw [List.getElem?_append_right (by omega)] at hv
      obtain ⟨x, h4, h5⟩ := hxs.get hv
      refine ⟨x, ?_, h5⟩
      rw [← h3 _ _ h4]
      congr 1; omega
  have hzs : zx.cells.size = sz := by
    have h1 := (hzrel I g).2.length
    simp at h1; omega
  -- a new array
  have grow : ∀ (cap : Nat) (base : Option Addr) (old : List Value), cap < n + m → a.eval x = .slice base n cap → Rels I g lL old →
      old.length = n * sz → (Builtin.firstCells ti.size n (.slice base n cap)).run P w.drew = .ok old.toArray w.drew →
      LoudRun A I P X g a w o (.slice s.nb (.lit 0) (.lit ((n + m : Nat) : Int)) sz false)
        { s with mem := (s.nb, .cells (lL ++ uL) true) :: dropBlk bo s.mem, nb := s.nb + 1 } := by
    intro cap base old hcap hex hold hol hfo
    obtain ⟨nc, hnc, hrun⟩ := run_append_grow (t := t) (u := u) (ty := o.type) (base := base) ht hu hi hiz (new := xs.toArray) hlenY
      (by rw [htis]; exact hfY w.drew rfl) hcap hfo (by have := Nat.mul_le_mul hsm hb1; rw [← htib] at this; omega) (by omega)
    rw [← hex] at hrun
    let p : PB := { blk := w.heap.size, base := 0, tot := nc * sz }
    refine ⟨_, _, g.lay (some p), .inl (exec hrun), g.lay_le _, rfl, ?_, ?_⟩
    · exact ⟨0, ((n + m : Nat) : Int), rfl, rfl, Int.le_refl _, by omega, .inl ⟨p, nc, by rw [← hs.nb]; exact G.lay_new g (some p), by simp [p]; omega, by simp; omega, by simp [p]⟩⟩
    · have hm1 := (hs.m.heap_eq (w' := w.drew) rfl).alloc (M' := dropBlk bo s.mem) (p := p)
        (o := .cells (old.toArray ++ xs.toArray ++ Builtin.zeroCells zx.cells (nc - (n + m))) el)
        (x := .cells (lL ++ uL) true)
        (fun b z hz => by
          cases bo with
          | none => exact hz
          | some b0 =>
            simp only [dropBlk, get_del] at hz
            split at hz
            · cases hz
            · exact hz) rfl
        ⟨p, _, el, (0, 0), G.lay_new g (some p), heap_alloc_new _ _, fun i v hv => by
          obtain ⟨x, h1, h2⟩ := hval (old.toArray ++ xs.toArray ++ Builtin.zeroCells zx.cells (nc - (n + m))) 0 (fun i v hv => by
            obtain ⟨x, h1, h2⟩ := hold.get hv
            have hlt := (List.getElem?_eq_some_iff.1 h1).1
            refine ⟨x, ?_, h2⟩
            rw [Nat.zero_add, Array.getElem?_append_left (by simp; omega), Array.getElem?_append_left (by simp; omega)]
            simpa using h1) (by rw [hold.length]; exact hol) (fun q v hq => by
            have hlt := (List.getElem?_eq_some_iff.1 hq).1
            rw [Nat.zero_add, Array.getElem?_append_left (by simp; omega), Array.getElem?_append_right (by simp; omega)]
            simp only [List.size_toArray, hol, List.getElem?_toArray]
            rw [← hq]; congr 1; omega) i v hv
          exact ⟨x, h1, h2.le (g.lay_le _) hs.m.wf⟩, fun _ => ⟨rfl, by
            simp [hxl, hol, size_zeroCells, hzs, p, ← Nat.add_mul]
            exact Nat.mul_le_mul_right _ (by omega)⟩⟩
      rw [hs.nb] at hm1
      exact hs.lay hm1
  generalize hex : a.eval x = xv at hd
  cases hd with
  | nil bo base hN0 hl0 =>
    subst hN0
    subst hl0
    exact grow 0 base [] (by omega) hex trivial (by simp) firstCells_zero
  | row b p c T cap blk hb hwr hφ hnc hct hh hl hcont hcs =>
    by_cases hroom : n + m ≤ cap
    · have hxones := ones_rel hxs hones
      have hfit : p.base + n * sz + xs.length ≤ c.size := by
        rw [hxl, Nat.add_assoc, ← Nat.add_mul]
        have := Nat.mul_le_mul_right sz hroom
        omega
      have hst := run_storeCells_at P p.blk (p.base + n * sz) T xs 0 c w hh (by simpa using hfit) hxones
      have hst' : (storeCells ((⟨p.blk, p.base, none⟩ : Addr).add (n * ti.size)) xs.toArray.toList).run P w = .ok () (w.setRow p.blk (c.toList.take (p.base + n * sz + 0) ++ xs ++ c.toList.drop (p.base + n * sz + 0 + xs.length)).toArray) := by
        rw [htis, addr_add]; exact hst
      have hrun := run_append_in (t := t) (u := u) (ty := o.type) ht hu hi hlenY (by rw [htis]; exact hfY w rfl) hroom hst'
      rw [← hex] at hrun
      have hle := g.lay_le (some p)
      refine ⟨_, _, g.lay (some p), .inl (exec hrun), hle, rfl, ?_, ?_⟩
      · exact ⟨0, ((n + m : Nat) : Int), rfl, rfl, Int.le_refl _, by omega, .inl ⟨p, cap, by rw [← hs.nb]; exact G.lay_new g (some p), by simp; omega, by simp; omega, by simp; omega⟩⟩
      · generalize hcn : (c.toList.take (p.base + n * sz + 0) ++ xs ++ c.toList.drop (p.base + n * sz + 0 + xs.length)).toArray = cn
        have hcg : ∀ q, cn[q]? = if p.base + n * sz ≤ q ∧ q < p.base + n * sz + xs.length then xs[q - (p.base + n * sz)]? else c[q]? := fun q => by
          rw [← hcn, List.getElem?_toArray, Nat.add_zero, getElem_splice _ _ _ (by simpa using hfit)]
          simp
        have hcsz : cn.size = c.size := by
          rw [← hcn]; simp; omega
        have hall : ∀ i v, (lL ++ uL)[i]? = some v → ∃ x, cn[p.base + i]? = some x ∧ Rel I g v x := hval cn p.base (fun i v hv => by
            have hlt := (List.getElem?_eq_some_iff.1 hv).1
            rw [hcg, if_neg (by omega)]
            exact hcont i v hv) hl (fun q v hq => by
            have hlt := (List.getElem?_eq_some_iff.1 hq).1
            rw [hcg, if_pos (by omega), ← hq]
            congr 1; omega)
        have hbr : ∀ (g1 : G) (b1 : Nat), g1.φ b1 = some p → g.Le g1 → BRel I P g1 b1 (fun i => (w.setRow p.blk cn).heap[i]?) (.cells (lL ++ uL) true) := by
          intro g1 b1 hb1 hle1
          exact ⟨p, cn, T, (0, 0), hb1, setRow_heap _ _ _ _ _ _ hh, fun i v hv => let ⟨x, h1, h2⟩ := hall i v hv; ⟨x, h1, h2.le hle1 hs.m.wf⟩, fun _ => ⟨rfl, by omega⟩⟩
        have hm1 := hs.m.write (w' := w.setRow p.blk cn) hb hwr hφ (by simp) (fun i hi => setRow_other _ _ _ _ hi) (hbr g b hφ (G.Le.refl _))
        have hm2 := hm1.rename (b := b) (x := .cells (lL ++ uL) true) (y := .cells (lL ++ uL) true)
          (by rw [get_put, if_pos rfl]) hφ rfl (hbr _ _ (G.lay_new g (some p)) hle)
        have hm3 := hm2.sub (M' := (g.nb, .cells (lL ++ uL) true) :: dropBlk (some b) s.mem) (fun c z hz => by
          simp only [get_cons] at hz ⊢
          split at hz
          · rename_i hc; rw [if_pos hc]; exact hz
          · rename_i hc
            rw [if_neg hc]
            simp only [dropBlk, get_del] at hz ⊢
            split at hz
            · cases hz
            · rename_i hbc
              rw [if_neg hbc, get_put, if_neg hbc]; exact hz)
        rw [hs.nb] at hm3
        exact hs.lay hm3
    · obtain ⟨xs0, h1, h2, _, h3⟩ := cells_src (P := P) (l := lL) (k := 0) (len := n * sz) hh hcont (by omega)
      refine grow cap (some ⟨p.blk, p.base, none⟩) xs0 (by omega) hex (by simpa [← hl] using h1) h2 ?_
      rw [htis]
      exact h3 w.drew rfl

/-! ### Zeros -/

section run
variable {t u ty el : TypeId} {k : IntKind} {kd : IntKind} {ti : TypeInfo} {z : Value} {n cap : Nat} {base : Option Addr} {y : Value}

theorem run_zeros_nothing (ht : P.underlying t = some (.slice el)) (hu : P.underlying u = some (.int k)) (hi : P.info? el = some ti) :
    (Builtin.append_ #[t, u] ty #[.slice base 0 0, .int kd 0]).run P w = .ok (.slice base 0 0) w := by
  have hs : ∀ ad : Addr, (storeCells ad []).run P w = .ok () w := fun ad => rfl
  have hw : IntKind.i64.wrap 0 = 0 := by decide
  cases base <;> simp [hs, Builtin.append_, run_underlying ht, run_underlying hu, sizeOf, typeInfo, hi, Result.andThen, asInt, asIntOf, hw]

theorem run_zeros_grow (ht : P.underlying t = some (.slice el)) (hu : P.underlying u = some (.int k)) (hi : P.info? el = some ti) (hz : ti.zero = some z) (hs0 : ti.size ≠ 0) (hn0 : n ≠ 0)
    (hsn : n ≤ 1000000) (hb : ti.bytes ≤ 1000) (hb0 : ti.bytes ≠ 0) :
    ∃ nc, n ≤ nc ∧ (Builtin.append_ #[t, u] ty #[.slice base 0 0, .int kd n]).run P w =
      .ok (.slice (some ⟨w.heap.size, 0, none⟩) n nc) (w.drew.alloc (.cells (Builtin.zeroCells z.cells n ++ Builtin.zeroCells z.cells (nc - n)) el)) := by
  have hsb := Nat.mul_le_mul hsn hb
  have hgs := growslice_fits (need := n) (old := 0) (bytes := ti.bytes) (by omega) (by omega)
  have hn3 : ¬ (Builtin.nextslicecap n 0 * ti.bytes > 2 ^ 48) := by omega
  have hw : IntKind.i64.wrap (n : Int) = n := by simp [IntKind.wrap, IntKind.signed, IntKind.bits]; omega
  have h1 : ¬ ((n : Int) < 0) := by omega
  have h2 : ¬ ((n : Int) * (ti.bytes : Int) > 2 ^ 48) := by rw [← Int.natCast_mul]; omega
  have h2' : ¬ (281474976710656 < (n : Int) * (ti.bytes : Int)) := h2
  have h3 : ¬ (9223372036854775807 < (n : Int)) := by omega
  have hfc : ∀ w', (Builtin.firstCells ti.size 0 (.slice base 0 0)).run P w' = .ok #[] w' := fun w' => firstCells_zero
  refine ⟨(Question.appendCap n 0 el).cut (w.tape w.drawn (.appendCap n 0 el)), by simp [Question.cut], ?_⟩
  simp [Builtin.append_, run_underlying ht, run_underlying hu, sizeOf, typeInfo, hi, Result.andThen, hn0, hn3, Question.forced, zeroValue, hz, newRow, asInt, asIntOf, hw, h1, h2', h3, hfc]
  rw [if_neg (by rw [Nat.mul_eq_zero]; omega)]
  rfl
end run

theorem appendZeros_loud {s : St} {o : Oper} {t u el : TypeId} {k kd : IntKind} {x y : Operand} {v r : AV} {e : E} {s1 : St} {ps : List PE} (hs : SRel A I P X g s a w)
    (hop : o.op = .call { callee := .builtin .append, args := #[x, y], argTypes := #[t, u] }) (ht : P.underlying t = some (.slice el)) (hu : P.underlying u = some (.int k))
    (hx : Rel I g v (a.eval x)) (hy : Rel I g (.int kd e) (a.eval y)) (h : appendZeros P s el v e = some (r, s1, ps)) (hp : ∀ q ∈ ps, q.den I g.env) :
    LoudRun A I P X g a w o r s1 := by
  have hbase : ∃ base, a.eval x = .slice base 0 0 := by
    unfold appendZeros at h
    split at h
    · simp only [Rel] at hx; exact ⟨_, hx⟩
    · obtain ⟨ad, hx⟩ := hx; exact ⟨_, hx⟩
    · cases h
  obtain ⟨base, hbase⟩ := hbase
  have h' : (match zeroAV P el, tySize P el, (P.info? el).map (·.bytes) with
    | some z, some sz, some bytes => match kindsOf z.cells with
      | some ks =>
        if sz = ks.length ∧ ks.length ≠ 0 ∧ bytes ≤ 1000 ∧ bytes ≠ 0 ∧ z.cells.all AV.isZero then
          some (AV.slice s.nb (.lit 0) e sz (maybeNil true e), { s with mem := (s.nb, Blk.rows ks .zt e true (maybeNil true e)) :: s.mem, nb := s.nb + 1 },
            [PE.tt (mkBin .le (.lit 0) e), .tt (mkBin .le e (.lit 1000000))])
        else none
      | none => none
    | _, _, _ => none) = some (r, s1, ps) := by
    unfold appendZeros at h
    split at h
    · exact h
    · exact h
    · cases h
  clear h
  split at h'
  case h_2 => cases h'
  rename_i z sz bytes hz hsz hbytes
  split at h'
  case h_2 => cases h'
  rename_i ks hks
  split at h'
  case isFalse => cases h'
  rename_i hc
  obtain ⟨hszk, hk0, hb1, hb0, haz⟩ := hc
  cases h'
  obtain ⟨ti, zx, hi, hiz, hzr, hzrel⟩ := zeroAV_rel hz
  have htis : ti.size = ks.length := by simp [tySize, hi] at hsz; omega
  have htib : ti.bytes = bytes := by simpa [hi] using hbytes
  obtain ⟨n0, he, hyv⟩ := hy
  have h0 : 0 ≤ n0 := le_den (show (E.lit 0).den I g.env = some (.i 0) from rfl) he (hp _ (by simp))
  have h1 : n0 ≤ 1000000 := le_den he (show (E.lit 1000000).den I g.env = some (.i 1000000) from rfl) (hp _ (by simp))
  obtain ⟨n, rfl⟩ := Int.eq_ofNat_of_zero_le h0
  have exec : ∀ {val : Value} {w' : World}, (Builtin.append_ #[t, u] o.type #[a.eval x, a.eval y]).run P w = .ok val w' → (execOp a.eval o).run P w = .ok (.value val) w' := by
    intro val w' hrun
    simp [execOp, hop, resolve, invoke, builtin, hrun, Result.andThen]
  by_cases hn0 : n = 0
  · subst hn0
    have hnl : maybeNil true e = true := by
      cases e <;> simp [E.den] at he <;> simp [maybeNil]
      omega
    rw [hnl]
    have hrun := run_zeros_nothing (P := P) (w := w) (t := t) (u := u) (ty := o.type) (base := base) (kd := kd) ht hu hi
    rw [show (Value.int kd 0) = a.eval y from hyv.symm, ← hbase] at hrun
    refine ⟨_, w, g.lay none, .inl (exec hrun), g.lay_le _, rfl, ?_, ?_⟩
    · exact ⟨0, 0, rfl, by simpa [G.lay] using he, Int.le_refl _, Int.le_refl _, .inr ⟨rfl, rfl, base, hbase⟩⟩
    · have hm1 := hs.m.lay_none (x := .rows ks .zt e true true) (fun b z hz => hz) ⟨fun _ _ => 0, 0, rfl, by simpa [G.lay] using he, Int.le_refl _, .inr ⟨rfl, rfl, by simp⟩⟩
      rw [hs.nb] at hm1
      exact hs.lay hm1
  · obtain ⟨nc, hnc, hrun⟩ := run_zeros_grow (P := P) (w := w) (t := t) (u := u) (ty := o.type) (base := base) (kd := kd) ht hu hi hiz (by omega) hn0 (by omega) (by omega) (by omega)
    rw [← hyv, ← hbase] at hrun
    let p : PB := { blk := w.heap.size, base := 0, tot := nc * ks.length }
    have hzs : zx.cells.size = ks.length := by
      have h1 := (hzrel I g).2.length
      have h2 := kindsOf_length hks
      simp at h1; omega
    have hzc : ∀ (N r j : Nat) (k : CK), r < N → ks[j]? = some k → (Builtin.zeroCells zx.cells N)[r * ks.length + j]? = some (k.val 0) := fun N r j k hr hj => by
      have hjlt : j < ks.length := (List.getElem?_eq_some_iff.1 hj).1
      have hlt := row_index hjlt hr
      have hv := allZero_rel (I := I) (g := g) hks haz (hzrel I g).2 j k hj
      have hv' : zx.cells[j]? = some (k.val 0) := by simpa using hv
      have hmod : (r * ks.length + j) % zx.cells.size = j := by
        rw [hzs, Nat.mul_comm, Nat.mul_add_mod, Nat.mod_eq_of_lt hjlt]
      have : (Builtin.zeroCells zx.cells N)[r * ks.length + j]? = some (zx.cells[(r * ks.length + j) % zx.cells.size]!) := by
        simp only [Builtin.zeroCells, Array.getElem?_map, hzs]
        simp [hlt]
      rw [this, hmod, getElem!_def, hv']
    refine ⟨_, _, g.lay (some p), .inl (exec hrun), g.lay_le _, rfl, ?_, ?_⟩
    · exact ⟨0, (n : Int), rfl, he, Int.le_refl _, by omega, .inl ⟨p, nc, by rw [← hs.nb]; exact G.lay_new g (some p), by simp [p], by simp; omega, by simp [p, hszk]⟩⟩
    · have hm1 := (hs.m.heap_eq (w' := w.drew) rfl).alloc (M' := s.mem) (p := p)
        (o := .cells (Builtin.zeroCells zx.cells n ++ Builtin.zeroCells zx.cells (nc - n)) el)
        (x := .rows ks .zt e true (maybeNil true e)) (fun b z hz => hz) rfl
        (rows_brel (n := n) (f := fun _ _ => 0) (G.lay_new g (some p)) rfl (heap_alloc_new _ _) rfl he (fun r j k hr hj => by
          have hjlt : j < ks.length := (List.getElem?_eq_some_iff.1 hj).1
          have hlt := row_index hjlt hr
          rw [Array.getElem?_append_left (by rw [size_zeroCells, hzs]; exact hlt)]
          exact hzc n r j k hr hj) (by
          simp [size_zeroCells, hzs, p, ← Nat.add_mul]
          exact Nat.mul_le_mul_right _ (by omega)) (Nat.mul_le_mul_right _ hnc))
      rw [hs.nb] at hm1
      exact hs.lay hm1

theorem appendZeroCells_loud {s : St} {o : Oper} {t u el : TypeId} {k kd : IntKind} {x y : Operand} {v r : AV} {e : E} {s1 : St} {ps : List PE} (hs : SRel A I P X g s a w)
    (hop : o.op = .call { callee := .builtin .append, args := #[x, y], argTypes := #[t, u] }) (ht : P.underlying t = some (.slice el)) (hu : P.underlying u = some (.int k))
    (hx : Rel I g v (a.eval x)) (hy : Rel I g (.int kd e) (a.eval y)) (h : appendZeroCells P s el v e = some (r, s1, ps)) :
    LoudRun A I P X g a w o r s1 := by
  unfold appendZeroCells at h
  split at h
  case h_2 => cases h
  rename_i c
  simp only [Rel] at hx
  split at h
  case h_2 => cases h
  rename_i z sz bytes hz hsz hbytes
  split at h
  case isFalse => cases h
  rename_i hc
  obtain ⟨hc1, hc2, hsz0, hzl, hb1, hb0⟩ := hc
  cases h
  obtain ⟨ti, zx, hi, hiz, hzr, hzrel⟩ := zeroAV_rel hz
  have htis : ti.size = sz := by simpa [tySize, hi] using hsz
  have htib : ti.bytes = bytes := by simpa [hi] using hbytes
  obtain ⟨n0, he, hyv⟩ := hy
  simp only [E.den, Option.some.injEq, D.i.injEq] at he
  subst he
  obtain ⟨n, rfl⟩ := Int.eq_ofNat_of_zero_le (show 0 ≤ c by omega)
  have exec : ∀ {val : Value} {w' : World}, (Builtin.append_ #[t, u] o.type #[a.eval x, a.eval y]).run P w = .ok val w' → (execOp a.eval o).run P w = .ok (.value val) w' := by
    intro val w' hrun
    simp [execOp, hop, resolve, invoke, builtin, hrun, Result.andThen]
  obtain ⟨nc, hnc, hrun⟩ := run_zeros_grow (P := P) (w := w) (t := t) (u := u) (ty := o.type) (base := none) (kd := kd) ht hu hi hiz (by omega) (show n ≠ 0 by omega) (by omega) (by omega) (by omega)
  rw [← hyv, ← hx] at hrun
  let p : PB := { blk := w.heap.size, base := 0, tot := nc * sz }
  have hzs : zx.cells.size = sz := by
    have h1 := (hzrel I g).2.length
    simp at h1; omega
  refine ⟨_, _, g.lay (some p), .inl (exec hrun), g.lay_le _, rfl, ?_, ?_⟩
  · exact ⟨0, (n : Int), rfl, rfl, Int.le_refl _, by omega, .inl ⟨p, nc, by rw [← hs.nb]; exact G.lay_new g (some p), by simp [p], by simp; omega, by simp [p]⟩⟩
  · have hm1 := (hs.m.heap_eq (w' := w.drew) rfl).alloc (M' := s.mem) (p := p)
      (o := .cells (Builtin.zeroCells zx.cells n ++ Builtin.zeroCells zx.cells (nc - n)) el)
      (x := .cells (repl (n : Int).toNat z.cells) true) (fun b z hz => hz) rfl
      ⟨p, _, el, (0, 0), G.lay_new g (some p), heap_alloc_new _ _, fun i v hv => by
        have hil : i < n * sz := by
          have := (List.getElem?_eq_some_iff.1 hv).1
          rw [repl_length, hzl] at this
          simpa using this
        rw [repl_get _ _ _ (by rw [hzl]; simpa using hil), hzl] at hv
        obtain ⟨y, h1, h2⟩ := (hzrel I (g.lay (some p))).2.get hv
        refine ⟨y, ?_, h2⟩
        rw [show p.base + i = i from Nat.zero_add i, Array.getElem?_append_left (by rw [size_zeroCells, hzs]; exact hil)]
        have h1' : zx.cells[i % sz]? = some y := by simpa using h1
        simp only [Builtin.zeroCells, Array.getElem?_map, hzs]
        simp [hil, getElem!_def, h1'], fun _ => ⟨rfl, by
        simp [size_zeroCells, hzs, p, ← Nat.add_mul]
        exact Nat.mul_le_mul_right _ (by omega)⟩⟩
    rw [hs.nb] at hm1
    exact hs.lay hm1

/-! ### clear -/

theorem storeCells_shift {q o : Nat} : ∀ (ys : List Value) (j i : Nat), storeCells ⟨q, o, none⟩ ys (j + i) = storeCells ⟨q, o + j, none⟩ ys i
  | [], _, _ => rfl
  | y :: ys, j, i => by
    simp only [storeCells, addr_add]
    rw [Nat.add_assoc j i 1, storeCells_shift ys j (i + 1), Nat.add_assoc o j i]

theorem storeCells_append {q o : Nat} {w' : World} {r : Result Unit} : ∀ (xs ys : List Value) (i : Nat) (w : World), (storeCells ⟨q, o, none⟩ xs i).run P w = .ok () w' → (storeCells ⟨q, o, none⟩ ys (i + xs.length)).run P w' = r →
    (storeCells ⟨q, o, none⟩ (xs ++ ys) i).run P w = r
  | [], ys, i, w, h, h2 => by
    simp [storeCells] at h
    subst h
    simpa using h2
  | x :: xs, ys, i, w, h, h2 => by
    simp only [storeCells, List.cons_append, Sem.run_bind] at h ⊢
    cases hs : (store ((⟨q, o, none⟩ : Addr).add i) x).run P w with
    | ok u w1 =>
      rw [hs] at h
      simp only [Result.andThen] at h ⊢
      exact storeCells_append xs ys (i + 1) w1 h (by rw [← h2]; congr 2; simp; omega)
    | halt e w1 => rw [hs] at h; simp [Result.andThen] at h

theorem zeroCells_succ {z : Array Value} (n : Nat) : (Builtin.zeroCells z (n + 1)).toList = (Builtin.zeroCells z n).toList ++ z.toList := by
  rcases Nat.eq_zero_or_pos z.size with h0 | h0
  · have : z = #[] := Array.eq_empty_of_size_eq_zero h0
    subst this
    simp [Builtin.zeroCells]
  · refine List.ext_getElem? fun i => ?_
    rw [List.getElem?_append]
    have hlen : ∀ m, (Builtin.zeroCells z m).toList.length = m * z.size := fun m => by simp [size_zeroCells]
    have hget : ∀ m i, i < m * z.size → (Builtin.zeroCells z m).toList[i]? = some z[i % z.size]! := fun m i hi => by
      simp [Builtin.zeroCells, hi]
    rw [hlen]
    by_cases hi : i < n * z.size
    · rw [if_pos hi, hget _ _ hi, hget _ _ (by rw [Nat.add_mul]; omega)]
    · rw [if_neg hi]
      by_cases hi2 : i < (n + 1) * z.size
      · rw [hget _ _ hi2]
        rw [Nat.add_mul, Nat.one_mul] at hi2
        have hlt : i - n * z.size < z.size := by omega
        have hmod : i % z.size = i - n * z.size := by
          conv => lhs; rw [show i = i - n * z.size + z.size * n by rw [Nat.mul_comm z.size]; omega]
          rw [Nat.add_mul_mod_self_left, Nat.mod_eq_of_lt hlt]
        rw [hmod, getElem!_pos z _ hlt]
        simp [hlt]
      · rw [List.getElem?_eq_none (by rw [hlen]; omega), List.getElem?_eq_none (by rw [Nat.add_mul] at hi2; simp; omega)]

theorem clearAt_rel {b k sz : Nat} {p : PB} {zs : List AV} {z : Array Value} (hφ : g.φ b = some p) (hv : Rels I g zs z.toList) (hzl : zs.length = sz) : ∀ (n : Nat) {M' : Mem} {ps : List PE}, MRel A I P g M w →
    clearAt M b k sz zs n = some (M', ps) → (∀ q ∈ ps, q.den I g.env) →
    ∃ w', (storeCells ⟨p.blk, p.base + k, none⟩ (Builtin.zeroCells z n).toList).run P w = .ok () w' ∧ MRel A I P g M' w'
  | 0, M', ps, hm, h, _ => by
    simp [clearAt] at h
    obtain ⟨rfl, rfl⟩ := h
    refine ⟨w, ?_, hm⟩
    simp [Builtin.zeroCells, storeCells]
  | n + 1, M', ps, hm, h, hp => by
    simp only [clearAt] at h
    split at h
    · rename_i M1 p1 h1
      cases h2 : storeAt M1 b (.lit 0) 0 (k + n * sz) zs with
      | none => simp [h2] at h
      | some q =>
        obtain ⟨M2, p2⟩ := q
        simp [h2] at h
        obtain ⟨rfl, rfl⟩ := h
        obtain ⟨w1, h3, h4⟩ := clearAt_rel hφ hv hzl n hm h1 (fun q hq => hp q (by simp [hq]))
        obtain ⟨w2, h5, h6⟩ := storeAt_rel h4 h2 (fun q hq => hp q (by simp [hq])) (show (E.lit 0).den I g.env = some (.i 0) from rfl) (Int.le_refl _) hφ hv
        refine ⟨w2, ?_, h6⟩
        rw [zeroCells_succ]
        refine storeCells_append _ _ 0 w h3 ?_
        have hz : z.size = sz := by have := hv.length; simp at this; omega
        have := storeCells_shift (q := p.blk) (o := p.base + k) z.toList (n * sz) 0
        simp only [Nat.add_zero] at this
        rw [Nat.zero_add, show (Builtin.zeroCells z n).toList.length = n * sz by simp [size_zeroCells, hz], this, ← h5]
        congr 3; simp; omega
    · cases h

theorem clear_loud {s : St} {o : Oper} {t el : TypeId} {x : Operand} {b k n z : Nat} {zv : AV} {M' : Mem} {ps : List PE} (hs : SRel A I P X g s a w)
    (hop : o.op = .call { callee := .builtin .clear, args := #[x], argTypes := #[t] }) (ht : P.underlying t = some (.slice el)) (hx : Rel I g (.asl b k n z) (a.eval x)) (hz : zeroAV P el = some zv)
    (hl : zv.cells.length = z) (h : clearAt s.mem b k z zv.cells n = some (M', ps)) (hp : ∀ q ∈ ps, q.den I g.env) :
    LoudRun A I P X g a w o (.tup []) { s with mem := M' } := by
  obtain ⟨ti, zx, hi, hiz, hzr, hzrel⟩ := zeroAV_rel hz
  obtain ⟨p, cap, h1, h2, h3⟩ := hx
  obtain ⟨w', h4, h5⟩ := clearAt_rel h1 (hzrel I g).2 hl n hs.m h hp
  refine ⟨.tuple #[], w', g, .inl ?_, .refl _, rfl, ⟨#[], rfl, trivial⟩, hs.mem h5⟩
  have hrun : (Builtin.clear_ #[t] o.type #[a.eval x]).run P w = .ok (.tuple #[]) w' := by
    rw [h3]
    by_cases hn : n = 0
    · subst hn
      simp [Builtin.zeroCells, storeCells] at h4
      subst h4
      simp [Builtin.clear_, run_underlying ht, Result.andThen]
    · simp [Builtin.clear_, run_underlying ht, Result.andThen, zeroValue, typeInfo, hi, hiz, hn, h4]
  simp [execOp, hop, resolve, invoke, builtin, hrun, Result.andThen]
end Go.Sx
