/-
  make, append. Conditions: none.
-/
import Derived.Test.YtbcclmpmljpbcaaGreatDoorSxLoud
noncomputable section
namespace Go.Sx
open Go

variable {A : Amb} {I : Itp} {P : Program} {g : G} {X : Nat → Prop} {ts : Tmps} {a : Act} {M : Mem} {w : World}

/-- The cells of n rows, one behind the other. -/
def rowsVals (ks : List CK) (f : Int → Nat → Int) (n : Nat) : List Value :=
  (List.range (n * ks.length)).map fun q => ((ks[q % ks.length]?).map fun k => k.val (f ((q / ks.length : Nat) : Int) (q % ks.length))).getD Go.undef

theorem rowsVals_length (ks : List CK) (f : Int → Nat → Int) (n : Nat) : (rowsVals ks f n).length = n * ks.length := by simp [rowsVals]

theorem row_index {s r j n : Nat} (hj : j < s) (hr : r < n) : r * s + j < n * s := by
  have := Nat.mul_le_mul_right s (show r + 1 ≤ n from hr)
  rw [Nat.add_mul, Nat.one_mul] at this; omega

theorem rowsVals_get {ks : List CK} {f : Int → Nat → Int} {n r j : Nat} {k : CK} (hr : r < n) (hj : ks[j]? = some k) : (rowsVals ks f n)[r * ks.length + j]? = some (k.val (f r j)) := by
  have hjlt : j < ks.length := (List.getElem?_eq_some_iff.1 hj).1
  have hlt := row_index hjlt hr
  unfold rowsVals
  rw [List.getElem?_map, List.getElem?_range hlt, Option.map_some]
  have h1 : (r * ks.length + j) % ks.length = j := by rw [Nat.mul_comm, Nat.mul_add_mod, Nat.mod_eq_of_lt hjlt]
  have h2 : (r * ks.length + j) / ks.length = r := by
    rw [Nat.mul_comm, Nat.mul_add_div (by omega), Nat.div_eq_of_lt hjlt, Nat.add_zero]
  simp only [h1, h2, hj, Option.map_some, Option.getD_some]

theorem rowsVals_get' {ks : List CK} {f : Int → Nat → Int} {n q : Nat} {v : Value} (h : (rowsVals ks f n)[q]? = some v) :
    ∃ r j k, r < n ∧ ks[j]? = some k ∧ q = r * ks.length + j ∧ v = k.val (f r j) := by
  have hq : q < n * ks.length := by
    have := (List.getElem?_eq_some_iff.1 h).1
    rwa [rowsVals_length] at this
  have hs : 0 < ks.length := by
    rcases Nat.eq_zero_or_pos ks.length with h0 | h0
    · rw [h0] at hq; omega
    · exact h0
  have hj : q % ks.length < ks.length := Nat.mod_lt _ hs
  have hr : q / ks.length < n := Nat.div_lt_of_lt_mul (by rw [Nat.mul_comm]; exact hq)
  refine ⟨q / ks.length, q % ks.length, _, hr, List.getElem?_eq_getElem hj, by rw [Nat.mul_comm]; exact (Nat.div_add_mod q ks.length).symm, ?_⟩
  have := rowsVals_get (f := f) hr (List.getElem?_eq_getElem hj)
  rw [show q / ks.length * ks.length + q % ks.length = q by rw [Nat.mul_comm]; exact Nat.div_add_mod q ks.length, h] at this
  exact Option.some.inj this

theorem ck_one (k : CK) (n : Int) : (k.val n).oneCell' = true := by cases k <;> rfl
theorem rowsVals_one {ks : List CK} {f : Int → Nat → Int} {n : Nat} : ∀ v ∈ rowsVals ks f n, v.oneCell' = true := by
  intro v hv
  obtain ⟨q, hq, rfl⟩ := List.getElem_of_mem hv
  obtain ⟨r, j, k, _, _, _, h⟩ := rowsVals_get' (List.getElem?_eq_getElem hq)
  rw [h]; exact ck_one k _

/-! ### The tables -/

theorem catRows_rel {ks : List CK} {n u : E} {N lo : Int} {fu : Int → Nat → Int} (hn : n.den I g.env = some (.i N)) (hu : u.den I g.env = some (.t fu)) :
    ∀ (m i : Nat) {t t' : E} {f : Int → Nat → Int}, catRows ks t n u lo i m = some t' → t.den I g.env = some (.t f) →
    ∃ f', t'.den I g.env = some (.t f') ∧ (∀ (r : Nat) (j : Nat) (k : CK), ks[j]? = some k → i ≤ r → r < i + m → k.val (f' (N + r) j) = k.val (fu (lo + r) j)) ∧
      (∀ (x : Int) (c : Nat), (x < N + i ∨ N + i + m ≤ x) → f' x c = f x c)
  | 0, i, t, t', f, h, ht => by
    simp [catRows] at h; subst h
    exact ⟨f, ht, fun r j _ h1 h2 => by omega, fun _ _ _ => rfl⟩
  | m + 1, i, t, t', f, h, ht => by
    simp only [catRows] at h
    split at h
    · rename_i vs hvs
      split at h
      · rename_i t1 ht1
        obtain ⟨hvl, xs, h1, h2⟩ := rowCells_rel (x := lo + (i : Int)) hu rfl ks.length 0 hvs
        obtain ⟨f1, h3, h4, h5, h6⟩ := updRow_rel (den_mkAdd hn (show (E.lit i).den I g.env = some (.i i) from rfl)) ht1 h1 (thick_den ht)
        obtain ⟨f', h7, h8, h9⟩ := catRows_rel hn hu m (i + 1) h h3
        refine ⟨f', h7, fun r j k hj hr1 hr2 => ?_, fun x c hx => ?_⟩
        · by_cases hri : r = i
          · subst hri
            rw [h9 _ _ (.inl (by omega))]
            have hjlt : j < ks.length := (List.getElem?_eq_some_iff.1 hj).1
            have hlt : j < xs.length := by rw [← h1.length, hvl]; exact hjlt
            obtain ⟨c1, h10, h11⟩ := h5 j _ (List.getElem?_eq_getElem hlt)
            obtain ⟨c2, h12, h13⟩ := h2 j _ (List.getElem?_eq_getElem hlt)
            rw [Nat.zero_add] at h10 h11 h12 h13
            rw [hj] at h10 h12
            cases h10; cases h12
            rw [← h11, h13]
          · exact h8 r j k hj (by omega) (by omega)
        · rw [h9 x c (by omega), h6 x c (.inl (by omega))]
      · cases h
    · cases h

theorem joinRows_rel {ks : List CK} {t n u m t' : E} {f fu : Int → Nat → Int} {N M lo : Int} (h : joinRows ks t n u lo m = some t') (ht : t.den I g.env = some (.t f)) (hu : u.den I g.env = some (.t fu))
    (hn : n.den I g.env = some (.i N)) (hm : m.den I g.env = some (.i M)) (hN : 0 ≤ N) :
    ∃ f', t'.den I g.env = some (.t f') ∧ (∀ (r : Int) (c : Nat), 0 ≤ r → r < N → f' r c = f r c) ∧
      (∀ (r j : Nat) (k : CK), ks[j]? = some k → (r : Int) < M → k.val (f' (N + r) j) = k.val (fu (lo + r) j)) := by
  unfold joinRows at h
  split at h
  · rename_i mm
    simp [E.den] at hn hm; subst hn; subst hm
    split at h
    · rename_i hlo
      simp at h; subst h; subst hlo
      exact ⟨fu, hu, fun r c h1 h2 => by omega, fun r j k _ _ => by simp⟩
    · split at h
      · rename_i hmm
        obtain ⟨f', h1, h2, h3⟩ := catRows_rel (N := 0) rfl hu mm.toNat 0 h (show (E.zt).den I g.env = some (.t fun _ _ => 0) from rfl)
        exact ⟨f', h1, fun r c _ h5 => by omega, fun r j k hj hr => h2 r j k hj (by omega) (by omega)⟩
      · cases h
  · split at h
    · rename_i hlo
      simp at h; subst h; subst hlo
      simp [E.den] at hn; subst hn
      exact ⟨fu, hu, fun r c h1 h2 => by omega, fun r j k _ _ => by simp⟩
    · cases h
  · rename_i mm _
    split at h
    · rename_i hmm
      simp [E.den] at hm; subst hm
      obtain ⟨f', h1, h2, h3⟩ := catRows_rel hn hu mm.toNat 0 h ht
      exact ⟨f', h1, fun r c _ h5 => h3 r c (.inl (by omega)), fun r j k hj hr => h2 r j k hj (by omega) (by omega)⟩
    · cases h
  · split at h
    · rename_i hlo
      simp at h; subst h; subst hlo
      refine ⟨tcat f N fu, by simp [E.den, ht, hu, hn], fun r c _ h2 => by simp [tcat, h2], fun r j k _ _ => ?_⟩
      simp only [tcat]
      rw [if_neg (by omega)]
      congr 2; omega
    · cases h

/-! ### What is appended to, what is appended -/

/-- A slice value: nil, or n rows (table f) of a block that may be written or only read. -/
def Rows (w : World) (ks : List CK) (f : Int → Nat → Int) (n : Nat) (x : Value) : Prop :=
  ((∃ ad cp, x = .slice ad 0 cp) ∧ n = 0) ∨ ∃ blk off cap c T fr, x = .slice (some ⟨blk, off, none⟩) n cap ∧ n ≤ cap ∧ w.heap[blk]? = some (.cells c T fr) ∧
    ∀ (r j : Nat) (k : CK), r < n → ks[j]? = some k → c[off + r * ks.length + j]? = some (k.val (f r j))

theorem firstCells_none {ks : List CK} {f : Int → Nat → Int} {ad : Option Addr} {cp : Nat} : (Builtin.firstCells ks.length 0 (.slice ad 0 cp)).run P w = .ok (rowsVals ks f 0).toArray w := by
  have h0 : rowsVals ks f 0 = [] := by simp [rowsVals]
  rw [h0]
  cases ad with
  | none => simp [Builtin.firstCells]
  | some a =>
    have := run_loadCells_list (P := P) w a [] (fun q v hq => by simp at hq)
    simp only [Builtin.firstCells, Nat.zero_mul]
    simpa using this

theorem Rows.first {ks : List CK} {f : Int → Nat → Int} {n : Nat} {x : Value} (h : Rows w ks f n x) : (Builtin.lenOf x).run P w = .ok n w ∧ (Builtin.firstCells ks.length n x).run P w = .ok (rowsVals ks f n).toArray w := by
  rcases h with ⟨⟨ad, cp, rfl⟩, rfl⟩ | ⟨blk, off, cap, c, T, fr, rfl, _, hh, hc⟩
  · exact ⟨rfl, firstCells_none⟩
  · refine ⟨rfl, ?_⟩
    have h1 := run_loadCells_list (P := P) w ⟨blk, off, none⟩ (rowsVals ks f n) fun q v hq => by
      obtain ⟨r, j, k, hr, hj, rfl, rfl⟩ := rowsVals_get' hq
      rw [addr_add, cell_cells hh, ← Nat.add_assoc]
      exact hc r j k hr hj
    rw [rowsVals_length] at h1
    simp only [Builtin.firstCells, h1]

theorem srcRows_rel {sz : Nat} {ks : List CK} {y : AV} {u m : E} {lo : Int} {ps : List PE} {x : Value} (hm : MRel A I P g M w) (h : srcRows M sz ks y = some (u, lo, m, ps)) (hsz : sz = ks.length)
    (hp : ∀ q ∈ ps, q.den I g.env) (hy : Rel I g y x) :
    ∃ (fu : Int → Nat → Int) (mm : Nat), u.den I g.env = some (.t fu) ∧ m.den I g.env = some (.i mm) ∧ Rows w ks (fun r j => fu (lo + r) j) mm x := by
  subst hsz
  unfold srcRows at h
  split at h
  · simp at h
    obtain ⟨rfl, rfl, rfl, rfl⟩ := h
    simp only [Rel] at hy
    exact ⟨_, 0, rfl, rfl, .inl ⟨⟨_, _, hy⟩, rfl⟩⟩
  · simp at h
    obtain ⟨rfl, rfl, rfl, rfl⟩ := h
    obtain ⟨ad, hy⟩ := hy
    exact ⟨_, 0, rfl, rfl, .inl ⟨⟨_, _, hy⟩, rfl⟩⟩
  · simp at h
    obtain ⟨rfl, rfl, rfl, rfl⟩ := h
    obtain ⟨ad, hy⟩ := hy
    exact ⟨_, 0, rfl, rfl, .inl ⟨⟨_, _, hy⟩, rfl⟩⟩
  · simp at h
    obtain ⟨rfl, rfl, rfl, rfl⟩ := h
    obtain ⟨ad, cp, hy⟩ := hy
    exact ⟨_, 0, rfl, rfl, .inl ⟨⟨_, _, hy⟩, rfl⟩⟩
  · rename_i b lo0 m' s2 nl
    split at h
    · rename_i ks2 u' m2 wr nl2 hb
      split at h
      · rename_i hc
        obtain ⟨rfl, rfl⟩ := hc
        obtain ⟨f, n2, hf, hn2, hn0, hrow⟩ := hm.blk _ _ hb
        obtain ⟨l, n, h1, h2, h3, h4, h5⟩ := hy
        simp [E.den] at h1; subst h1
        -- the rows are there
        have fin : ∀ {lo1 : Int}, lo1 = lo0 → (n = 0 ∨ lo0.toNat + n.toNat ≤ n2.toNat) →
            ∃ (fu : Int → Nat → Int) (mm : Nat), u'.den I g.env = some (.t fu) ∧ m'.den I g.env = some (.i mm) ∧ Rows w ks (fun r j => fu (lo1 + r) j) mm x := by
          intro lo1 hlo1 hle
          subst hlo1
          refine ⟨f, n.toNat, hf, by rw [h2, Int.toNat_of_nonneg h4], ?_⟩
          rcases h5 with ⟨p, cap, h6, h7, h8, h9⟩ | ⟨_, h6, ad, h7⟩
          · by_cases hn00 : n = 0
            · subst hn00; exact .inl ⟨⟨_, _, h7⟩, rfl⟩
            rcases hrow with ⟨p', c, T, fr, hp', hh, hcs, _⟩ | ⟨_, hz, _⟩
            · rw [h6] at hp'; cases hp'
              refine .inr ⟨p.blk, p.base + lo1.toNat * ks.length, cap, c, T, fr, h7, h8, hh, fun r j k hr hj => ?_⟩
              have := hcs (lo1.toNat + r) j k (by omega) hj
              rw [Nat.add_mul, ← Nat.add_assoc] at this
              rw [this]
              congr 3; omega
            · omega
          · subst h6; exact .inl ⟨⟨_, _, h7⟩, rfl⟩
        split at h
        · rename_i hlo
          simp at h
          obtain ⟨rfl, rfl, rfl, rfl⟩ := h
          refine fin hlo.symm (.inr ?_)
          have hle : n ≤ n2 := by
            by_cases he : m' = m2
            · subst he; rw [h2] at hn2; simp at hn2; omega
            · rw [if_neg he] at hp
              exact le_den h2 hn2 (hp _ (List.mem_singleton.2 rfl))
          omega
        · split at h
          · rename_i mm
            split at h
            · rename_i hc
              simp at h
              obtain ⟨rfl, rfl, rfl, rfl⟩ := h
              refine fin rfl (.inr ?_)
              have e : n = mm := by simp [E.den] at h2; exact h2.symm
              subst e
              have hle := le_den (show (E.lit (lo0 + n)).den I g.env = some (.i (lo0 + n)) from rfl) hn2 (hp _ (List.mem_singleton.2 rfl))
              omega
            · cases h
          · simp at h
            obtain ⟨rfl, rfl, rfl, rfl⟩ := h
            have hle := le_den (den_mkAdd (show (E.lit lo0).den I g.env = some (.i lo0) from rfl) h2) hn2 (hp _ (List.mem_singleton.2 rfl))
            obtain ⟨fu, mm, k1, k2, k3⟩ := fin rfl (.inr (by omega))
            rw [hf] at k1; cases k1
            refine ⟨fun r c => f (r + lo0) c, mm, by simp [E.den, hf], k2, ?_⟩
            have e : (fun r j => f (lo0 + r) j) = fun (r : Int) (j : Nat) => f (0 + r + lo0) j := by funext r j; congr 1; omega
            rw [e] at k3; exact k3
      · cases h
    · cases h
  · rename_i b loE m' s2 nl _
    split at h
    · rename_i ks2 u' m2 wr nl2 hb
      split at h
      · rename_i hc
        obtain ⟨rfl, rfl⟩ := hc
        simp at h
        obtain ⟨rfl, rfl, rfl, rfl⟩ := h
        obtain ⟨f, n2, hf, hn2, hn0, hrow⟩ := hm.blk _ _ hb
        obtain ⟨l, n, h1, h2, h3, h4, h5⟩ := hy
        have hle := le_den (den_mkAdd h1 h2) hn2 (hp _ (List.mem_singleton.2 rfl))
        refine ⟨fun r c => f (r + l) c, n.toNat, by simp [E.den, hf, h1], by rw [h2, Int.toNat_of_nonneg h4], ?_⟩
        rcases h5 with ⟨p, cap, h6, h7, h8, h9⟩ | ⟨_, h6, ad, h7⟩
        · by_cases hn00 : n = 0
          · subst hn00; exact .inl ⟨⟨_, _, h7⟩, rfl⟩
          rcases hrow with ⟨p', c, T, fr, hp', hh, hcs, _⟩ | ⟨_, hz, _⟩
          · rw [h6] at hp'; cases hp'
            refine .inr ⟨p.blk, p.base + l.toNat * ks.length, cap, c, T, fr, h7, h8, hh, fun r j k hr hj => ?_⟩
            have := hcs (l.toNat + r) j k (by omega) hj
            rw [Nat.add_mul, ← Nat.add_assoc] at this
            rw [this]
            congr 3; omega
          · omega
        · subst h6; exact .inl ⟨⟨_, _, h7⟩, rfl⟩
      · cases h
    · cases h
  · cases h

/-- The slice that is appended to, as the relation gives it. -/
inductive Dst (I : Itp) (P : Program) (g : G) (M : Mem) (w : World) (ks : List CK) (y : AV) (f : Int → Nat → Int) (N : Nat) (nl : Bool) : Option Nat → Value → Prop
  | nil (bo : Option Nat) (base : Option Addr) : N = 0 → nl = true → Dst I P g M w ks y f N nl bo (.slice base 0 0)
  | row (b : Nat) (p : PB) (c : Array Value) (T : TypeId) (cap : Nat) (blk : Blk) (fr : Nat × Nat) : get M b = some blk → blk.wr = true → g.φ b = some p → N ≤ cap → cap * ks.length ≤ p.tot → w.heap[p.blk]? = some (.cells c T fr) → Free fr c.size →
      (∀ (r j : Nat) (k : CK), r < N → ks[j]? = some k → c[p.base + r * ks.length + j]? = some (k.val (f r j))) → p.base + p.tot ≤ c.size → y.other b = true →
      Dst I P g M w ks y f N nl (some b) (.slice (some ⟨p.blk, p.base, none⟩) N cap)

theorem dstRows_rel {sz : Nat} {ks : List CK} {x y : AV} {t n : E} {nl : Bool} {bo : Option Nat} {ps : List PE} {v : Value} (hm : MRel A I P g M w) (h : dstRows M sz ks x y = some (bo, t, n, nl, ps)) (hsz : sz = ks.length)
    (hp : ∀ q ∈ ps, q.den I g.env) (hx : Rel I g x v) : ∃ (f : Int → Nat → Int) (N : Nat), t.den I g.env = some (.t f) ∧ n.den I g.env = some (.i N) ∧ Dst I P g M w ks y f N nl bo v := by
  subst hsz
  unfold dstRows at h
  split at h
  · simp at h
    obtain ⟨rfl, rfl, rfl, rfl, rfl⟩ := h
    simp only [Rel] at hx
    subst hx
    exact ⟨_, 0, rfl, rfl, .nil _ _ rfl rfl⟩
  · simp at h
    obtain ⟨rfl, rfl, rfl, rfl, rfl⟩ := h
    obtain ⟨ad, rfl⟩ := hx
    exact ⟨_, 0, rfl, rfl, .nil _ _ rfl rfl⟩
  · simp at h
    obtain ⟨rfl, rfl, rfl, rfl, rfl⟩ := h
    obtain ⟨ad, rfl⟩ := hx
    exact ⟨_, 0, rfl, rfl, .nil _ _ rfl rfl⟩
  · rename_i b n' s1 nl'
    split at h
    · rename_i ks1 t' n1 nl1 hb
      split at h
      · rename_i hc
        obtain ⟨rfl, rfl, hoth⟩ := hc
        simp at h
        obtain ⟨rfl, rfl, rfl, rfl, rfl⟩ := h
        obtain ⟨f, n2, hf, hn2, hn0, hrow⟩ := hm.blk _ _ hb
        obtain ⟨l, N, h1, h2, h3, h4, h5⟩ := hx
        simp [E.den] at h1; subst h1
        have hle : N ≤ n2 := by
          by_cases he : n' = n1
          · subst he; rw [h2] at hn2; simp at hn2; omega
          · rw [if_neg he] at hp
            exact le_den h2 hn2 (hp _ (List.mem_singleton.2 rfl))
        refine ⟨f, N.toNat, hf, by rw [h2, Int.toNat_of_nonneg h4], ?_⟩
        rcases h5 with ⟨p, cap, h6, h7, h8, h9⟩ | ⟨h6, h7, ad, h8⟩
        · rcases hrow with ⟨p', c, T, fr, hp', hh, hcs, hwr⟩ | ⟨_, _, hnone⟩
          · rw [h6] at hp'; cases hp'
            obtain ⟨hfr, hcsz, htot⟩ := hwr rfl
            have h7' : v = .slice (some ⟨p.blk, p.base, none⟩) N.toNat cap := by simpa using h7
            rw [h7']
            exact .row b p c T cap _ fr hb rfl h6 h8 (by simpa using h9) hh hfr (fun r j k hr hj => hcs r j k (by omega) hj) hcsz hoth
          · rw [h6] at hnone; cases hnone
        · subst h7; subst h8
          exact .nil _ _ rfl h6
      · cases h
    · cases h
  · cases h

/-! ### The run -/

section run
variable {t u ty el : TypeId} {d : TypeId} {ti : TypeInfo} {z : Value} {ks : List CK} {n m cap : Nat} {base : Option Addr} {y : Value}

theorem run_append_nothing (hn : n ≤ cap) (ht : P.underlying t = some (.slice el)) (hu : P.underlying u = some (.slice d)) (hi : P.info? el = some ti)
    (hy : (Builtin.lenOf y).run P w = .ok 0 w) (hf : (Builtin.firstCells ti.size 0 y).run P w = .ok #[] w) :
    (Builtin.append_ #[t, u] ty #[.slice base n cap, y]).run P w = .ok (.slice base n cap) w := by
  have hs : ∀ ad : Addr, (storeCells ad []).run P w = .ok () w := fun ad => rfl
  cases base <;> simp [hn, hs, Builtin.append_, run_underlying ht, run_underlying hu, sizeOf, typeInfo, hi, hy, hf, Result.andThen]

theorem run_append_in (ht : P.underlying t = some (.slice el)) (hu : P.underlying u = some (.slice d)) (hi : P.info? el = some ti) {w' : World} {ad : Addr} {new : Array Value}
    (hy : (Builtin.lenOf y).run P w = .ok m w) (hf : (Builtin.firstCells ti.size m y).run P w = .ok new w) (hle : n + m ≤ cap) (hst : (storeCells (ad.add (n * ti.size)) new.toList).run P w = .ok () w') :
    (Builtin.append_ #[t, u] ty #[.slice (some ad) n cap, y]).run P w = .ok (.slice (some ad) (n + m) cap) w' := by
  simp [Builtin.append_, run_underlying ht, run_underlying hu, sizeOf, typeInfo, hi, hy, hf, Result.andThen, hle, hst]

theorem run_append_grow (ht : P.underlying t = some (.slice el)) (hu : P.underlying u = some (.slice d)) (hi : P.info? el = some ti) (hz : ti.zero = some z) {old new : Array Value}
    (hy : (Builtin.lenOf y).run P w = .ok m w) (hf : (Builtin.firstCells ti.size m y).run P w.drew = .ok new w.drew) (hle : cap < n + m)
    (ho : (Builtin.firstCells ti.size n (.slice base n cap)).run P w.drew = .ok old w.drew) (hsb : (n + m) * ti.bytes ≤ 1000000000) (hb0 : ti.bytes ≠ 0) :
    ∃ nc, n + m ≤ nc ∧ (Builtin.append_ #[t, u] ty #[.slice base n cap, y]).run P w =
      .ok (.slice (some ⟨w.heap.size, 0, none⟩) (n + m) nc) (w.drew.alloc (.cells (old ++ new ++ Builtin.zeroCells z.cells (nc - (n + m))) el)) := by
  have hn1 : ¬ (n + m ≤ cap) := by omega
  have hgs := growslice_fits (need := n + m) (old := cap) (bytes := ti.bytes) hle (by omega)
  have hn3 : ¬ (Builtin.nextslicecap (n + m) cap * ti.bytes > 2 ^ 48) := by omega
  refine ⟨(Question.appendCap (n + m) cap el).cut (w.tape w.drawn (.appendCap (n + m) cap el)), by simp [Question.cut], ?_⟩
  simp [Builtin.append_, run_underlying ht, run_underlying hu, sizeOf, typeInfo, hi, hy, hf, Result.andThen, hn1, hb0, hn3, Question.forced, ho, zeroValue, hz, newRow]
end run

theorem append_loud {s : St} {o : Oper} {t u el d : TypeId} {x y : Operand} {v yv r : AV} {s1 : St} {ps : List PE} (hs : SRel A I P X g s a w)
    (hop : o.op = .call { callee := .builtin .append, args := #[x, y], argTypes := #[t, u] }) (ht : P.underlying t = some (.slice el)) (hu : P.underlying u = some (.slice d))
    (hx : Rel I g v (a.eval x)) (hy : Rel I g yv (a.eval y)) (h : appendTo P s el v yv = some (r, s1, ps)) (hp : ∀ q ∈ ps, q.den I g.env) :
    LoudRun A I P X g a w o r s1 := by
  unfold appendTo at h
  split at h
  case h_2 => cases h
  rename_i z sz bytes hz hsz hbytes
  split at h
  case h_2 => cases h
  rename_i ks hks
  split at h
  case isFalse => cases h
  rename_i hc
  obtain ⟨hszk, hk0, hb1, hb0⟩ := hc
  split at h
  case h_2 => cases h
  rename_i uE lo mE p1 bo tE nE nl p2 hsrc hdst
  split at h
  case h_2 => cases h
  rename_i t' hjoin
  simp at h
  obtain ⟨rfl, rfl, rfl⟩ := h
  obtain ⟨ti, zx, hi, hiz, hzr, hzrel⟩ := zeroAV_rel hz
  have htis : ti.size = ks.length := by simp [tySize, hi] at hsz; omega
  have htib : ti.bytes = bytes := by simpa [hi] using hbytes
  obtain ⟨fu0, m, hfu, hm, hrowsY⟩ := srcRows_rel hs.m hsrc hszk (fun q hq => hp q (by simp [hq])) hy
  obtain ⟨f, n, hf, hn, hdstx⟩ := dstRows_rel hs.m hdst hszk (fun q hq => hp q (by simp [hq])) hx
  have hnm := le_den (den_mkAdd hn hm) (show (E.lit 1000000).den I g.env = some (.i 1000000) from rfl) (hp _ (by simp))
  obtain ⟨f', hf', hold, hnew0⟩ := joinRows_rel hjoin hf hfu hn hm (by omega)
  obtain ⟨fu, hfu'⟩ : ∃ fu : Int → Nat → Int, fu = fun r j => fu0 (lo + r) j := ⟨_, rfl⟩
  rw [← hfu'] at hrowsY
  have hnew : ∀ (r j : Nat) (k : CK), ks[j]? = some k → (r : Int) < m → k.val (f' (n + r) j) = k.val (fu r j) := fun r j k h1 h2 => by rw [hfu']; exact hnew0 r j k h1 h2
  clear hnew0 hfu'
  have hN : ((n : Int) + (m : Int)) = ((n + m : Nat) : Int) := by omega
  have hlenY : (Builtin.lenOf (a.eval y)).run P w = .ok m w := (hrowsY.first (P := P)).1
  have hfY : ∀ w', w'.heap = w.heap → (Builtin.firstCells ti.size m (a.eval y)).run P w' = .ok (rowsVals ks fu m).toArray w' := fun w' hw' => by
    rw [htis]
    have : Rows w' ks fu m (a.eval y) := by unfold Rows at hrowsY ⊢; rw [hw']; exact hrowsY
    exact (this.first (P := P)).2
  -- what the rows are behind the append
  have hval : ∀ (c : Array Value) (base : Nat), (∀ (q : Nat) (k : CK) (j : Nat), q < n → ks[j]? = some k → c[base + q * ks.length + j]? = some (k.val (f q j))) →
      (∀ (q : Nat) (k : CK) (j : Nat), q < m → ks[j]? = some k → c[base + (n + q) * ks.length + j]? = some (k.val (fu q j))) →
      ∀ (q j : Nat) (k : CK), q < n + m → ks[j]? = some k → c[base + q * ks.length + j]? = some (k.val (f' q j)) := by
    intro c base h1 h2 q j k hq hj
    by_cases hqn : q < n
    · rw [h1 q k j hqn hj, hold q j (by omega) (by omega)]
    · have h3 := h2 (q - n) k j (by omega) hj
      rw [show n + (q - n) = q by omega] at h3
      have h4 := hnew (q - n) j k hj (by omega)
      rw [show ((n : Int) + ((q - n : Nat) : Int)) = (q : Int) by omega] at h4
      rw [h3, h4]
  have exec : ∀ {val : Value} {w' : World}, (Builtin.append_ #[t, u] o.type #[a.eval x, a.eval y]).run P w = .ok val w' → (execOp a.eval o).run P w = .ok (.value val) w' := by
    intro val w' hrun
    simp [execOp, hop, resolve, invoke, builtin, hrun, Result.andThen]
  -- a new array
  have grow : ∀ (cap : Nat) (base : Option Addr) (old : List Value), cap < n + m → a.eval x = .slice base n cap → (∀ (q : Nat) (k : CK) (j : Nat), q < n → ks[j]? = some k → old[q * ks.length + j]? = some (k.val (f q j))) →
      old.length = n * ks.length → (Builtin.firstCells ti.size n (.slice base n cap)).run P w.drew = .ok old.toArray w.drew →
      LoudRun A I P X g a w o (.slice s.nb (.lit 0) (mkAdd nE mE) sz (maybeNil nl mE))
        { s with mem := (s.nb, .rows ks t' (mkAdd nE mE) true (maybeNil nl mE)) :: dropBlk bo s.mem, nb := s.nb + 1 } := by
    intro cap base old hcap hex hold' hol hfo
    obtain ⟨nc, hnc, hrun⟩ := run_append_grow (t := t) (u := u) (ty := o.type) (base := base) ht hu hi hiz (new := (rowsVals ks fu m).toArray) hlenY
      (hfY w.drew rfl) hcap hfo (by have := Nat.mul_le_mul (show n + m ≤ 1000000 by omega) (show ti.bytes ≤ 1000 by omega); omega) (by omega)
    rw [← hex] at hrun
    let p : PB := { blk := w.heap.size, base := 0, tot := nc * ks.length }
    refine ⟨_, _, g.lay (some p), .inl (exec hrun), g.lay_le _, rfl, ?_, ?_⟩
    · exact ⟨0, ((n + m : Nat) : Int), rfl, by rw [← hN]; exact den_mkAdd hn hm, Int.le_refl _, by omega, .inl ⟨p, nc, by rw [← hs.nb]; exact G.lay_new g (some p), by simp [p]; omega, by simp; omega, by simp [p, hszk]⟩⟩
    · have hm1 := (hs.m.heap_eq (w' := w.drew) rfl).alloc (M' := dropBlk bo s.mem) (p := p)
        (o := .cells (old.toArray ++ (rowsVals ks fu m).toArray ++ Builtin.zeroCells zx.cells (nc - (n + m))) el)
        (x := .rows ks t' (mkAdd nE mE) true (maybeNil nl mE))
        (fun b z hz => by
          cases bo with
          | none => exact hz
          | some b0 =>
            simp only [dropBlk, get_del] at hz
            split at hz
            · cases hz
            · exact hz) rfl
        (rows_brel (n := n + m) (G.lay_new g (some p)) rfl (heap_alloc_new _ _) hf' (by rw [← hN]; exact den_mkAdd hn hm) (fun q j k hq hj => by
          have hjlt : j < ks.length := (List.getElem?_eq_some_iff.1 hj).1
          have := hval (old.toArray ++ (rowsVals ks fu m).toArray ++ Builtin.zeroCells zx.cells (nc - (n + m))) 0 (fun q k j hq hj => by
            have hjlt : j < ks.length := (List.getElem?_eq_some_iff.1 hj).1
            have hlt := row_index hjlt hq
            have := hold' q k j hq hj
            rw [Nat.zero_add, Array.getElem?_append_left (by simp; omega), Array.getElem?_append_left (by simp; omega)]
            simpa using this) (fun q k j hq hj => by
            have hjlt : j < ks.length := (List.getElem?_eq_some_iff.1 hj).1
            have hlt := row_index hjlt hq
            have := rowsVals_get (f := fu) hq hj
            rw [Nat.zero_add, Nat.add_mul, Array.getElem?_append_left (by simp [rowsVals_length]; omega), Array.getElem?_append_right (by simp; omega)]
            simp only [List.size_toArray, hol, List.getElem?_toArray]
            rw [← this]; congr 1; omega) q j k hq hj
          rw [Nat.zero_add] at this
          exact this) (by
          have hzs : zx.cells.size = ks.length := by
            have h1 := (hzrel I g).2.length
            have h2 := kindsOf_length hks
            simp at h1; omega
          simp [rowsVals_length, hol, size_zeroCells, hzs, p, ← Nat.add_mul]
          exact Nat.mul_le_mul_right _ (by omega)) (Nat.mul_le_mul_right _ hnc))
      rw [hs.nb] at hm1
      exact hs.lay hm1
  have hsubM : ∀ b z, get (dropBlk bo s.mem) b = some z → get s.mem b = some z := fun b z hz => by
    cases bo with
    | none => exact hz
    | some b0 =>
      simp only [dropBlk, get_del] at hz
      split at hz
      · cases hz
      · exact hz
  have hden : (mkAdd nE mE).den I g.env = some (.i ((n + m : Nat) : Int)) := by rw [← hN]; exact den_mkAdd hn hm
  generalize hex : a.eval x = xv at hdstx
  cases hdstx with
  | nil bo base hN0 hnl =>
    subst hN0
    by_cases hm0 : m = 0
    · subst hm0
      have hnl' : (maybeNil nl mE) = true := by
        rw [hnl]
        cases mE <;> simp [E.den] at hm <;> simp [maybeNil]
        omega
      rw [hnl']
      have hfY0 : (Builtin.firstCells ti.size 0 (a.eval y)).run P w = .ok #[] w := by
        have := hfY w rfl
        simpa [rowsVals] using this
      have hrun := run_append_nothing (t := t) (u := u) (ty := o.type) (n := 0) (cap := 0) (base := base) (Nat.le_refl _) ht hu hi hlenY hfY0
      rw [← hex] at hrun
      refine ⟨_, w, g.lay none, .inl (exec hrun), g.lay_le _, rfl, ?_, ?_⟩
      · rw [hex]
        exact ⟨0, 0, rfl, by simpa [G.lay] using hden, Int.le_refl _, Int.le_refl _, .inr ⟨rfl, rfl, base, rfl⟩⟩
      · have hm1 := hs.m.lay_none (x := .rows ks t' (mkAdd nE mE) true true) hsubM ⟨f', 0, hf', by simpa [G.lay] using hden, Int.le_refl _, .inr ⟨rfl, rfl, by simp⟩⟩
        rw [hs.nb] at hm1
        exact hs.lay hm1
    · exact grow 0 base [] (by omega) hex (fun q k j hq => by omega) (by simp) (by have := firstCells_none (P := P) (w := w.drew) (ks := ks) (f := f) (ad := base) (cp := 0); rw [htis]; simpa [rowsVals] using this)
  | row b p c T cap blk fr hb hwr hφ hnc hct hh hfr hcont hcs hoth =>
    by_cases hroom : n + m ≤ cap
    · have hfit : p.base + n * ks.length + (rowsVals ks fu m).length ≤ c.size := by
        rw [rowsVals_length, Nat.add_assoc, ← Nat.add_mul]
        have := Nat.mul_le_mul_right ks.length hroom
        omega
      have hst := run_storeCells_fr (P := P) p.blk (p.base + n * ks.length) T (rowsVals ks fu m) 0 c w hh hfr (by simpa using hfit) rowsVals_one
      have hst' : (storeCells ((⟨p.blk, p.base, none⟩ : Addr).add (n * ti.size)) (rowsVals ks fu m).toArray.toList).run P w = .ok () (w.setRow p.blk (c.toList.take (p.base + n * ks.length + 0) ++ rowsVals ks fu m ++ c.toList.drop (p.base + n * ks.length + 0 + (rowsVals ks fu m).length)).toArray) := by
        rw [htis, addr_add]; exact hst
      have hrun := run_append_in (t := t) (u := u) (ty := o.type) ht hu hi hlenY (hfY w rfl) hroom hst'
      rw [← hex] at hrun
      have hle := g.lay_le (some p)
      refine ⟨_, _, g.lay (some p), .inl (exec hrun), hle, rfl, ?_, ?_⟩
      · exact ⟨0, ((n + m : Nat) : Int), rfl, hden, Int.le_refl _, by omega, .inl ⟨p, cap, by rw [← hs.nb]; exact G.lay_new g (some p), by simp; omega, by simp; omega, by simp [hszk]; omega⟩⟩
      · generalize hcn : (c.toList.take (p.base + n * ks.length + 0) ++ rowsVals ks fu m ++ c.toList.drop (p.base + n * ks.length + 0 + (rowsVals ks fu m).length)).toArray = cn
        have hcg : ∀ q, cn[q]? = if p.base + n * ks.length ≤ q ∧ q < p.base + n * ks.length + (rowsVals ks fu m).length then (rowsVals ks fu m)[q - (p.base + n * ks.length)]? else c[q]? := fun q => by
          rw [← hcn, List.getElem?_toArray, Nat.add_zero, getElem_splice _ _ _ (by simpa using hfit)]
          simp
        have hcsz : cn.size = c.size := by
          rw [← hcn]; simp; omega
        have hbr : ∀ (g1 : G) (b1 : Nat), g1.φ b1 = some p → (∃ xs, g1.env = g.env ++ xs) → BRel I P g1 b1 (fun i => (w.setRow p.blk cn).heap[i]?) (.rows ks t' (mkAdd nE mE) true (maybeNil nl mE)) := by
          intro g1 b1 hb1 ⟨xs, hxs⟩
          refine ⟨f', ((n + m : Nat) : Int), by rw [hxs]; exact E.den_more hf', by rw [hxs]; exact E.den_more hden, by omega, .inl ⟨p, cn, T, fr, hb1, setRow_heap _ _ _ _ _ _ hh, fun q j k hq hj => ?_, fun _ => ⟨by rw [hcsz]; exact hfr, by omega, by rw [Int.toNat_natCast]; exact Nat.le_trans (Nat.mul_le_mul_right _ hroom) hct⟩⟩⟩
          refine hval cn p.base (fun q k j hq hj => ?_) (fun q k j hq hj => ?_) q j k (by simp at hq; omega) hj
          · have hlt := row_index (List.getElem?_eq_some_iff.1 hj).1 hq
            rw [hcg, if_neg (by omega)]
            exact hcont q j k hq hj
          · have hlt := row_index (List.getElem?_eq_some_iff.1 hj).1 hq
            rw [hcg, if_pos (by rw [rowsVals_length, Nat.add_mul]; omega), ← rowsVals_get (f := fu) hq hj]
            congr 1
            rw [Nat.add_mul]; omega
        have hm1 := hs.m.write (w' := w.setRow p.blk cn) hb hwr hφ (by simp) (fun i hi => setRow_other _ _ _ _ hi) (hbr g b hφ ⟨[], by simp⟩)
        have hm2 := hm1.rename (b := b) (x := .rows ks t' (mkAdd nE mE) true (maybeNil nl mE)) (y := .rows ks t' (mkAdd nE mE) true (maybeNil nl mE))
          (by rw [get_put, if_pos rfl]) hφ rfl (hbr _ _ (G.lay_new g (some p)) hle.env)
        have hm3 := hm2.sub (M' := (g.nb, .rows ks t' (mkAdd nE mE) true (maybeNil nl mE)) :: dropBlk (some b) s.mem) (fun c z hz => by
          simp only [get_cons] at hz ⊢
          split at hz
          · rename_i hc; rw [if_pos hc]; exact hz
          · rename_i hc
            rw [if_neg hc]
            simp only [dropBlk, get_del] at hz ⊢
            split at hz
            · cases hz
            · rename_i hbc
              rw [if_neg hbc, get_put, if_neg hbc]; exact hz)
        rw [hs.nb] at hm3
        exact hs.lay hm3
    · refine grow cap (some ⟨p.blk, p.base, none⟩) (rowsVals ks f n) (by omega) hex (fun q k j hq hj => rowsVals_get hq hj) (rowsVals_length _ _ _) ?_
      have hR : Rows w.drew ks f n (.slice (some ⟨p.blk, p.base, none⟩) n cap) := .inr ⟨p.blk, p.base, cap, c, T, fr, rfl, hnc, hh, hcont⟩
      rw [htis]
      exact (hR.first (P := P)).2

/-! ### make -/

theorem allZero_rel {ks : List CK} : ∀ {l : List AV} {xs : List Value}, kindsOf l = some ks → l.all AV.isZero = true → Rels I g l xs → ∀ (j : Nat) (k : CK), ks[j]? = some k → xs[j]? = some (k.val 0) := by
  intro l
  induction l generalizing ks with
  | nil => intro xs h _ _ j k hj; simp [kindsOf] at h; subst h; simp at hj
  | cons v l ih =>
    intro xs h hz hr j k hj
    cases xs with
    | nil => simp [Rels] at hr
    | cons y xs =>
      simp only [kindsOf] at h
      split at h
      · rename_i k0 ks0 h1 h2
        simp at h; subst h
        simp at hz
        cases j with
        | zero =>
          simp at hj; subst hj
          obtain ⟨hr1, _⟩ := hr
          cases v <;> simp [kindOf] at h1
          case bool e =>
            subst h1
            obtain ⟨n, h3, rfl⟩ := hr1
            have h4 := hz.1
            cases e <;> simp [AV.isZero] at h4
            subst h4
            simp [E.den] at h3; subst h3; rfl
          case int q e =>
            subst h1
            obtain ⟨n, h3, rfl⟩ := hr1
            have h4 := hz.1
            cases e <;> simp [AV.isZero] at h4
            subst h4
            simp [E.den] at h3; subst h3; rfl
          case str q =>
            subst h1
            have h4 := hz.1
            simp only [AV.isZero, List.isEmpty_iff] at h4
            subst h4
            obtain ⟨s, rfl, h3⟩ := hr1
            exact congrArg some (sval_senc h3)
          case sat q => simp [AV.isZero] at hz
          case strT q q' => simp [AV.isZero] at hz
        | succ j => exact ih h2 (by simpa using hz.2) hr.2 j k (by simpa using hj)
      · cases h

theorem makeSlice_new {o : Oper} {t el : TypeId} {lo co : Operand} {k1 k2 : IntKind} {x : Int} {sz bytes : Nat} {z : AV} {ks : List CK} (hop : o.op = .makeSlice t lo co)
    (hu : P.underlying t = some (.slice el)) (hl : Rel I g (.int k1 (.lit x)) (a.eval lo)) (hc : Rel I g (.int k2 (.lit x)) (a.eval co)) (hz : zeroAV P el = some z) (hsz : tySize P el = some sz)
    (hb : (P.info? el).map (·.bytes) = some bytes) (h0 : 0 ≤ x) (hx : x ≤ 70000) (hby : bytes ≤ 1000) (hzl : z.cells.length = sz) (hks : kindsOf z.cells = some ks) (haz : z.cells.all AV.isZero = true) :
    ∃ (cs : Array Value) (n : Nat), x = n ∧ (execOp a.eval o).run P w = .ok (.value (.slice (some ⟨w.heap.size, 0, none⟩) n n)) (w.alloc (.cells cs el)) ∧
      ∀ (g1 : G) (b : Nat), g1.φ b = some ⟨w.heap.size, 0, n * sz⟩ → BRel I P g1 b (fun i => (w.alloc (.cells cs el)).heap[i]?) (.rows ks .zt (.lit x) true false) := by
  obtain ⟨ti, zx, hi, hiz, hzr, hzrel⟩ := zeroAV_rel hz
  have htib : ti.bytes = bytes := by simpa [hi] using hb
  have htis : ti.size = sz := by simpa [tySize, hi] using hsz
  obtain ⟨n1, h1, h2⟩ := hl
  obtain ⟨n2, h3, h4⟩ := hc
  simp [E.den] at h1 h3
  subst h1; subst h3
  obtain ⟨n, rfl⟩ := Int.eq_ofNat_of_zero_le h0
  have hkl := kindsOf_length hks
  have hxs : zx.cells.size = sz := by rw [← hzl]; simpa using ((hzrel I g).2.length).symm
  let cs : Array Value := (Array.range (n * sz)).map (fun i => zx.cells[i % zx.cells.size]!)
  have hw1 : IntKind.i64.wrap (n : Int) = n := by simp [IntKind.wrap, IntKind.signed, IntKind.bits]; omega
  have hrun : (execOp a.eval o).run P w = .ok (.value (.slice (some ⟨w.heap.size, 0, none⟩) n n)) (w.alloc (.cells cs el)) := by
    have hbn : ¬ ((bytes : Int) * (n : Int) > 2 ^ 48) := by
      have : bytes * n ≤ 1000 * 70000 := Nat.mul_le_mul hby (by omega)
      have h' : ((bytes * n : Nat) : Int) ≤ 70000000 := by omega
      rw [Int.natCast_mul] at h'
      omega
    have hn0 : ¬ ((n : Int) < 0) := by omega
    simp only [execOp, hop, h2, h4, Instr.makeSlice, Sem.run_bind, run_underlying hu, Result.andThen, asInt, asIntOf, Sem.run_pure, run_typeInfo' hi, hw1, htib]
    by_cases hz0 : n * sz = 0
    · have hcs : cs = #[] := by simp [cs, hz0, show Array.range 0 = #[] from rfl]
      simp [hn0, run_tySize hsz, Result.andThen, hz0, newRow, hcs, show Array.range 0 = #[] from rfl]
      rw [if_neg (by omega)]
    · simp [hn0, run_tySize hsz, Result.andThen, hz0, newRow, hzr]
      rw [if_neg (by omega)]
  refine ⟨cs, n, rfl, hrun, fun g1 b hb1 => ?_⟩
  exact rows_brel (n := n) (f := fun _ _ => 0) hb1 rfl (heap_alloc_new _ _) rfl rfl (fun r j k hr hj => by
        have hjlt : j < ks.length := (List.getElem?_eq_some_iff.1 hj).1
        have hlt := row_index hjlt hr
        rw [hkl, hzl] at hlt
        have hv := allZero_rel (I := I) (g := g) hks haz (hzrel I g).2 j k hj
        have hv' : zx.cells[j]? = some (k.val 0) := by simpa using hv
        have hmod : (r * ks.length + j) % zx.cells.size = j := by
          rw [hxs, ← hzl, ← hkl, Nat.mul_comm, Nat.mul_add_mod, Nat.mod_eq_of_lt hjlt]
        have : cs[r * ks.length + j]? = some (zx.cells[(r * ks.length + j) % zx.cells.size]!) := by
          simp only [cs, Array.getElem?_map]
          rw [hkl, hzl]
          simp [hlt]
        rw [this, hmod, getElem!_def, hv']) (by simp [cs]) (by simp [hkl, hzl])

theorem makeSlice_loud {s : St} {o : Oper} {t el : TypeId} {lo co : Operand} {k1 k2 : IntKind} {x : Int} {sz bytes : Nat} {z : AV} {ks : List CK} (hs : SRel A I P X g s a w) (hop : o.op = .makeSlice t lo co)
    (hu : P.underlying t = some (.slice el)) (hl : Rel I g (.int k1 (.lit x)) (a.eval lo)) (hc : Rel I g (.int k2 (.lit x)) (a.eval co)) (hz : zeroAV P el = some z) (hsz : tySize P el = some sz)
    (hb : (P.info? el).map (·.bytes) = some bytes) (h0 : 0 ≤ x) (hx : x ≤ 70000) (hby : bytes ≤ 1000) (hzl : z.cells.length = sz) (hks : kindsOf z.cells = some ks) (haz : z.cells.all AV.isZero = true) :
    LoudRun A I P X g a w o (.slice s.nb (.lit 0) (.lit x) sz false) (newBlk s (.rows ks .zt (.lit x) true false)) := by
  obtain ⟨cs, n, rfl, hrun, hbr⟩ := makeSlice_new hop hu hl hc hz hsz hb h0 hx hby hzl hks haz
  let p : PB := { blk := w.heap.size, base := 0, tot := n * sz }
  refine ⟨_, _, g.lay (some p), .inl hrun, g.lay_le _, rfl, ?_, ?_⟩
  · exact ⟨0, n, rfl, rfl, Int.le_refl _, by omega, .inl ⟨p, n, by rw [← hs.nb]; exact G.lay_new g (some p), by simp [p], by simp, by simp [p]⟩⟩
  · have hm := hs.m.alloc (M' := s.mem) (o := .cells cs el) (p := p) (fun _ _ h => h) rfl (hbr _ _ (G.lay_new g (some p)))
    rw [hs.nb] at hm
    exact hs.lay hm

/-- Elements that are no rows. -/
theorem makeCells_new {o : Oper} {t el : TypeId} {lo co : Operand} {k1 k2 : IntKind} {x : Int} {sz bytes : Nat} {z : AV} (hop : o.op = .makeSlice t lo co)
    (hu : P.underlying t = some (.slice el)) (hl : Rel I g (.int k1 (.lit x)) (a.eval lo)) (hc : Rel I g (.int k2 (.lit x)) (a.eval co)) (hz : zeroAV P el = some z) (hsz : tySize P el = some sz)
    (hb : (P.info? el).map (·.bytes) = some bytes) (h0 : 0 ≤ x) (hx : x ≤ 70000) (hby : bytes ≤ 1000) (hzl : z.cells.length = sz) :
    ∃ (cs : Array Value) (n : Nat), x = n ∧ (execOp a.eval o).run P w = .ok (.value (.slice (some ⟨w.heap.size, 0, none⟩) n n)) (w.alloc (.cells cs el)) ∧
      ∀ (g1 : G) (b : Nat), g1.φ b = some ⟨w.heap.size, 0, n * sz⟩ → BRel I P g1 b (fun i => (w.alloc (.cells cs el)).heap[i]?) (.cells (repl x.toNat z.cells) true) := by
  obtain ⟨ti, zx, hi, hiz, hzr, hzrel⟩ := zeroAV_rel hz
  have htib : ti.bytes = bytes := by simpa [hi] using hb
  have htis : ti.size = sz := by simpa [tySize, hi] using hsz
  obtain ⟨n1, h1, h2⟩ := hl
  obtain ⟨n2, h3, h4⟩ := hc
  simp [E.den] at h1 h3
  subst h1; subst h3
  obtain ⟨n, rfl⟩ := Int.eq_ofNat_of_zero_le h0
  have hxs : zx.cells.size = sz := by rw [← hzl]; simpa using ((hzrel I g).2.length).symm
  let cs : Array Value := (Array.range (n * sz)).map (fun i => zx.cells[i % zx.cells.size]!)
  have hw1 : IntKind.i64.wrap (n : Int) = n := by simp [IntKind.wrap, IntKind.signed, IntKind.bits]; omega
  have hrun : (execOp a.eval o).run P w = .ok (.value (.slice (some ⟨w.heap.size, 0, none⟩) n n)) (w.alloc (.cells cs el)) := by
    have hbn : ¬ ((bytes : Int) * (n : Int) > 2 ^ 48) := by
      have : bytes * n ≤ 1000 * 70000 := Nat.mul_le_mul hby (by omega)
      have h' : ((bytes * n : Nat) : Int) ≤ 70000000 := by omega
      rw [Int.natCast_mul] at h'
      omega
    have hn0 : ¬ ((n : Int) < 0) := by omega
    simp only [execOp, hop, h2, h4, Instr.makeSlice, Sem.run_bind, run_underlying hu, Result.andThen, asInt, asIntOf, Sem.run_pure, run_typeInfo' hi, hw1, htib]
    by_cases hz0 : n * sz = 0
    · have hcs : cs = #[] := by simp [cs, hz0, show Array.range 0 = #[] from rfl]
      simp [hn0, run_tySize hsz, Result.andThen, hz0, newRow, hcs, show Array.range 0 = #[] from rfl]
      rw [if_neg (by omega)]
    · simp [hn0, run_tySize hsz, Result.andThen, hz0, newRow, hzr]
      rw [if_neg (by omega)]
  refine ⟨cs, n, rfl, hrun, fun g1 b hb1 => ?_⟩
  exact cells_brel hb1 rfl (heap_alloc_new _ _) (zeros_rel (n := n) (hzrel I g1).2 hzl) rfl (by simp [cs])

theorem makeCells_loud {s : St} {o : Oper} {t el : TypeId} {lo co : Operand} {k1 k2 : IntKind} {x : Int} {sz bytes : Nat} {z : AV} (hs : SRel A I P X g s a w) (hop : o.op = .makeSlice t lo co)
    (hu : P.underlying t = some (.slice el)) (hl : Rel I g (.int k1 (.lit x)) (a.eval lo)) (hc : Rel I g (.int k2 (.lit x)) (a.eval co)) (hz : zeroAV P el = some z) (hsz : tySize P el = some sz)
    (hb : (P.info? el).map (·.bytes) = some bytes) (h0 : 0 ≤ x) (hx : x ≤ 70000) (hby : bytes ≤ 1000) (hzl : z.cells.length = sz) :
    LoudRun A I P X g a w o (.slice s.nb (.lit 0) (.lit x) sz false) (newBlk s (.cells (repl x.toNat z.cells) true)) := by
  obtain ⟨cs, n, rfl, hrun, hbr⟩ := makeCells_new hop hu hl hc hz hsz hb h0 hx hby hzl
  let p : PB := { blk := w.heap.size, base := 0, tot := n * sz }
  refine ⟨_, _, g.lay (some p), .inl hrun, g.lay_le _, rfl, ?_, ?_⟩
  · exact ⟨0, n, rfl, rfl, Int.le_refl _, by omega, .inl ⟨p, n, by rw [← hs.nb]; exact G.lay_new g (some p), by simp [p], by simp, by simp [p]⟩⟩
  · have hm := hs.m.alloc (M' := s.mem) (o := .cells cs el) (p := p) (fun _ _ h => h) rfl (hbr _ _ (G.lay_new g (some p)))
    rw [hs.nb] at hm
    exact hs.lay hm
end Go.Sx
