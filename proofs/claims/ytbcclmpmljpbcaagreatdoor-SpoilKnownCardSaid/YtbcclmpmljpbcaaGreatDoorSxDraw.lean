/-
  A region that draws its order: the executor walks one order for the quiet operations and every order for the others; that this is enough. Conditions: none.
-/
import Derived.Test.YtbcclmpmljpbcaaGreatDoorSxFloat
import Derived.OrdersIn
noncomputable section
namespace Go.Sx
open Go

variable {A : Amb} {I : Itp} {P : Program} {g : G} {X : Nat → Prop} {ts : Tmps} {a : Act} {M : Mem} {w : World} {ops : Array Oper} {kn : Kn}

/-! ### What waits for what -/

theorem maskOf_bit {acc : List Nat} {j : Nat} : ∀ {l : List Edge}, (maskOf acc l).testBit j = true → ∃ e ∈ l, Region.binds .any e = true ∧ (e.on = j ∨ ((acc[e.on]?).getD 0).testBit j = true)
  | [], h => by simp [maskOf] at h
  | e :: l, h => by
    simp only [maskOf] at h
    split at h
    · rename_i hb
      simp only [Nat.testBit_or, Bool.or_eq_true] at h
      rcases h with h | h | h
      · rw [Nat.one_shiftLeft, Nat.testBit_two_pow] at h
        exact ⟨e, by simp, hb, .inl (by simpa using h)⟩
      · exact ⟨e, by simp, hb, .inr h⟩
      · obtain ⟨e', h1, h2⟩ := maskOf_bit h
        exact ⟨e', by simp [h1], h2⟩
    · obtain ⟨e', h1, h2⟩ := maskOf_bit h
      exact ⟨e', by simp [h1], h2⟩

theorem masks_pre : ∀ {l : List Oper} {acc : List Nat} {k u : Nat}, acc[k]? = some u → (masks l acc)[k]? = some u
  | [], acc, k, u, h => h
  | o :: l, acc, k, u, h => by
    simp only [masks]
    refine masks_pre ?_
    rw [List.getElem?_append_left]
    · exact h
    · rcases Nat.lt_or_ge k acc.length with h' | h'
      · exact h'
      · rw [List.getElem?_eq_none (by simpa using h')] at h; cases h

theorem masks_spec : ∀ {l : List Oper} {acc : List Nat} {i v : Nat}, (masks l acc)[i]? = some v →
    acc[i]? = some v ∨ ∃ (o : Oper) (acc' : List Nat), acc.length ≤ i ∧ l[i - acc.length]? = some o ∧ v = maskOf acc' o.after.toList ∧ ∀ (k u : Nat), acc'[k]? = some u → (masks l acc)[k]? = some u
  | [], acc, i, v, h => .inl h
  | o :: l, acc, i, v, h => by
    simp only [masks] at h
    rcases masks_spec h with h1 | ⟨o', acc', h1, h2, h3, h4⟩
    · rcases Nat.lt_or_ge i acc.length with hi | hi
      · rw [List.getElem?_append_left hi] at h1; exact .inl h1
      · rw [List.getElem?_append_right hi] at h1
        have : i = acc.length := by
          rcases Nat.eq_or_lt_of_le hi with h | h
          · exact h.symm
          · rw [List.getElem?_eq_none (by simp; omega)] at h1; cases h1
        subst this
        simp at h1
        exact .inr ⟨o, acc, Nat.le_refl _, by simp, h1.symm, fun k u hk => masks_pre hk⟩
    · simp at h1 h2
      refine .inr ⟨o', acc', by omega, ?_, h3, h4⟩
      rw [show i - acc.length = (i - (acc.length + 1)) + 1 by omega, List.getElem?_cons_succ]
      exact h2

theorem before_bit {i j : Nat} (h : (before ops i).testBit j = true) : ∃ o, ops[i]? = some o ∧ ∃ e ∈ o.after.toList, Region.binds .any e = true ∧ (e.on = j ∨ (before ops e.on).testBit j = true) := by
  unfold before at h
  cases hm : (masks ops.toList [])[i]? with
  | none => rw [hm] at h; simp at h
  | some v =>
    rw [hm] at h
    simp only [Option.getD_some] at h
    rcases masks_spec hm with h1 | ⟨o, acc', _, h2, rfl, h4⟩
    · simp at h1
    · obtain ⟨e, h5, h6, h7⟩ := maskOf_bit h
      refine ⟨o, by simpa using h2, e, h5, h6, h7.imp id fun h8 => ?_⟩
      unfold before
      cases hk : acc'[e.on]? with
      | none => rw [hk] at h8; simp at h8
      | some u => rw [h4 _ _ hk]; rw [hk] at h8; exact h8

/-- What a set of operations must hold with each of its own. -/
def Closed (ops : Array Oper) (S : Nat → Prop) : Prop := ∀ i, S i → ∀ j, (before ops i).testBit j = true → S j

theorem Closed.add {S : Nat → Prop} (h : Closed ops S) {i : Nat} {o : Oper} (ho : ops[i]? = some o) (ha : ∀ e ∈ o.after.toList, Region.binds .any e = true → S e.on) : Closed ops fun k => k = i ∨ S k := by
  intro k hk j hj
  rcases hk with rfl | hk
  · obtain ⟨o', ho', e, h1, h2, h3⟩ := before_bit hj
    rw [ho] at ho'; cases ho'
    have := ha e h1 h2
    rcases h3 with rfl | h3
    · exact .inr this
    · exact .inr (h _ this _ h3)
  · exact .inr (h k hk j hj)

structure DrawOk (ops : Array Oper) : Prop where
  nodup : nodup (dsts ops.toList) = true
  edge : ∀ i o, ops[i]? = some o → ∀ e ∈ o.after.toList, Region.binds .any e = true → e.on < i
  read : ∀ i o j o' d, ops[i]? = some o → ops[j]? = some o' → o'.dst = some d → d ∈ readsOf ops o → (before ops i).testBit j = true ∨ i = j ∨ (before ops j).testBit i = true

theorem drawOk_spec (h : drawOk ops = true) : DrawOk ops := by
  unfold drawOk at h
  simp only [Bool.and_eq_true, List.all_eq_true, List.mem_range] at h
  obtain ⟨h1, h2⟩ := h
  have lt : ∀ {i : Nat} {o : Oper}, ops[i]? = some o → i < ops.size := fun {i o} h => by
    rcases Nat.lt_or_ge i ops.size with h' | h'
    · exact h'
    · rw [Array.getElem?_eq_none h'] at h; cases h
  refine ⟨h1, fun i o ho e he hb => ?_, fun i o j o' d ho ho' hd hr => ?_⟩
  · have := h2 i (lt ho)
    rw [ho] at this
    simp only [Bool.and_eq_true] at this
    have h3 := this.1.1
    rw [Array.all_eq_true_iff_forall_mem] at h3
    have := h3 e (by simpa using he)
    simpa [hb] using this
  · have := h2 i (lt ho)
    rw [ho] at this
    simp only [Bool.and_eq_true, List.all_eq_true, List.mem_range] at this
    have h3 := this.2 j (lt ho')
    rw [ho'] at h3
    simp only [Option.bind_some, hd, Bool.or_eq_true, Bool.not_eq_true'] at h3
    rcases h3 with ((h3 | h3) | h3) | h3
    · rw [← Bool.not_eq_true, List.contains_iff_mem] at h3; exact absurd hr h3
    · exact .inl h3
    · exact .inr (.inl (by simpa using h3))
    · exact .inr (.inr h3)

/-- An operation that is done ahead: who reads what it writes, waits for it. -/
theorem notBar {i j : Nat} {o o' : Oper} {d : Nat} (h : isBar ops j = false) (ho' : ops[j]? = some o') (hd : o'.dst = some d) (ho : ops[i]? = some o) (hr : d ∈ readsOf ops o) : (before ops i).testBit j = true := by
  unfold isBar at h
  rw [ho'] at h
  simp only [Option.bind_some, hd] at h
  have hlt : i < ops.size := (Array.getElem?_eq_some_iff.1 ho).1
  have := List.any_eq_false.1 h i (List.mem_range.2 hlt)
  rw [ho] at this
  simp only [Bool.and_eq_true, List.contains_iff_mem, Bool.not_eq_true'] at this
  cases hb : (before ops i).testBit j with
  | true => rfl
  | false => exact absurd ⟨hr, hb⟩ this

theorem DrawOk.before_lt (h : DrawOk ops) : ∀ {i j : Nat}, (before ops i).testBit j = true → j < i := by
  intro i
  induction i using Nat.strongRecOn with
  | _ i ih =>
    intro j hj
    obtain ⟨o, ho, e, h1, h2, h3⟩ := before_bit hj
    have hlt := h.edge i o ho e h1 h2
    rcases h3 with rfl | h3
    · exact hlt
    · have := ih _ hlt h3; omega

theorem mem_dsts : ∀ {l : List Oper} {j : Nat} {o : Oper} {d : Nat}, l[j]? = some o → o.dst = some d → d ∈ dsts l
  | x :: l, 0, o, d, h, hd => by simp at h; subst h; simp [dsts, hd]
  | x :: l, j + 1, o, d, h, hd => by
    simp at h
    have := mem_dsts h hd
    simp only [dsts]
    split <;> simp [this]
  | [], _, _, _, h, _ => by simp at h

theorem dsts_inj : ∀ {l : List Oper} {i j : Nat} {o p : Oper} {d : Nat}, nodup (dsts l) = true → l[i]? = some o → l[j]? = some p → o.dst = some d → p.dst = some d → i = j
  | [], i, j, o, p, d, _, h, _, _, _ => by simp at h
  | x :: l, 0, 0, o, p, d, _, _, _, _, _ => rfl
  | x :: l, 0, j + 1, o, p, d, hn, h1, h2, h3, h4 => by
    simp at h1 h2; subst h1
    simp only [dsts, h3, nodup, Bool.and_eq_true, Bool.not_eq_true', ← Bool.not_eq_true, List.contains_iff_mem] at hn
    exact absurd (mem_dsts h2 h4) hn.1
  | x :: l, i + 1, 0, o, p, d, hn, h1, h2, h3, h4 => by
    simp at h1 h2; subst h2
    simp only [dsts, h4, nodup, Bool.and_eq_true, Bool.not_eq_true', ← Bool.not_eq_true, List.contains_iff_mem] at hn
    exact absurd (mem_dsts h1 h3) hn.1
  | x :: l, i + 1, j + 1, o, p, d, hn, h1, h2, h3, h4 => by
    simp at h1 h2
    have : nodup (dsts l) = true := by
      simp only [dsts] at hn
      split at hn
      · simp only [nodup, Bool.and_eq_true] at hn; exact hn.2
      · exact hn
    rw [dsts_inj this h1 h2 h3 h4]

theorem DrawOk.inj (h : DrawOk ops) {i j : Nat} {o p : Oper} {d : Nat} (h1 : ops[i]? = some o) (h2 : ops[j]? = some p) (h3 : o.dst = some d) (h4 : p.dst = some d) : i = j :=
  dsts_inj h.nodup (by simpa using h1) (by simpa using h2) h3 h4

/-! ### A quiet operation that may lag -/

/-- The temporaries that an operation reads hold what the state says. -/
def Reads (I : Itp) (g : G) (ops : Array Oper) (o : Oper) (ts : Tmps) (a : Act) : Prop := ∀ t ∈ readsOf ops o, ∀ v, get ts t = some v → ∃ x, a.tmps[t]? = some x ∧ Rel I g v x

/-- Some blocks that floated have found their places. -/
structure G.Ext0 (g g' : G) : Prop where
  env : g'.env = g.env
  nb : g.nb ≤ g'.nb
  some : ∀ {b : Nat} {p : PB}, g.φ b = some p → g'.φ b = some p
theorem G.Ext0.refl (g : G) : g.Ext0 g := ⟨rfl, Nat.le_refl _, fun h => h⟩
theorem G.Ext0.trans {g h k : G} (a : g.Ext0 h) (b : h.Ext0 k) : g.Ext0 k := ⟨b.env.trans a.env, Nat.le_trans a.nb b.nb, fun h => b.some (a.some h)⟩
theorem G.Ext0.ext {g h : G} (a : g.Ext0 h) : g.Ext h := ⟨⟨[], by rw [a.env]; simp⟩, fun h => a.some h⟩

/-- What it would come to now, or when more blocks have their places, is what the state says of its own temporary. -/
def LagOk (A : Amb) (I : Itp) (P : Program) (g : G) (ops : Array Oper) (s : St) (o : Oper) : Prop :=
  (∀ d, o.dst = some d → d < s.nt) ∧ ∀ (g' : G) (w : World), g.Ext0 g' → MRel A I P g' s.mem w → ∀ a : Act, Reads I g' ops o s.tmps a →
    (Region.wanted o (yielded ops a.tmps) = true → ∀ r : Option Nat, ∃ x, (o.semAt r a.eval).run P w = .ok (.value x) w ∧ ∀ d v, o.dst = some d → get s.tmps d = some v → Rel I g' v x) ∧
    (Region.wanted o (yielded ops a.tmps) = false → ∀ d v, o.dst = some d → get s.tmps d = some v → Rel I g' v Go.undef)

theorem LagOk.ext {A : Amb} {I : Itp} {P : Program} {g g' : G} {ops : Array Oper} {s : St} {o : Oper} (h : LagOk A I P g ops s o) (he : g.Ext0 g') : LagOk A I P g' ops s o :=
  ⟨h.1, fun g2 w h2 => h.2 g2 w (he.trans h2)⟩

def Decs (I : Itp) (g : G) (l : List (E × Bool)) : Prop := ∀ c b, getE c l = some b → ∃ n : Int, c.den I g.env = some (.i n) ∧ b = decide (n ≠ 0)

theorem Decs.le {g' : G} (h : g.Le g') {l : List (E × Bool)} (hd : Decs I g l) : Decs I g' l := fun c b hc => let ⟨n, h1, h2⟩ := hd c b hc; ⟨n, E.den_le h h1, h2⟩

theorem wantedD_sound {d : Dr} {o : Oper} (hd : Decs I g d.dec) (hr : Reads I g ops o d.s.tmps a) :
    (wantedD ops d o = some .yes → Region.wanted o (yielded ops a.tmps) = true) ∧ (wantedD ops d o = some .no → Region.wanted o (yielded ops a.tmps) = false) := by
  unfold wantedD Region.wanted
  cases hg : o.guard with
  | none => simp
  | some q =>
    obtain ⟨j, want⟩ := q
    simp only
    cases hj : (ops[j]?).bind (·.dst) with
    | none => simp
    | some t =>
      simp only
      have hm : t ∈ readsOf ops o := by simp only [readsOf, guardT, hg, hj]; simp
      cases ht : get d.s.tmps t with
      | none => simp
      | some v =>
        obtain ⟨x, h1, h2⟩ := hr t hm v ht
        cases v with
        | bool e =>
          obtain ⟨n, h3, rfl⟩ := h2
          rw [yielded_of hj h1]
          simp only
          have fin : ∀ b : Bool, b = decide (n ≠ 0) → ((some (if b == want then Want.yes else .no) = some Want.yes → (some (decide (n ≠ 0)) == some want) = true) ∧ (some (if b == want then Want.yes else .no) = some Want.no → (some (decide (n ≠ 0)) == some want) = false)) := by
            intro b hb
            subst hb
            by_cases hn : n = 0 <;> cases want <;> simp [hn]
          split
          · rename_i m
            simp [E.den] at h3; subst h3
            exact fin _ (by by_cases hn : m = 0 <;> simp [hn])
          · split
            · rename_i b hb
              obtain ⟨n', h4, h5⟩ := hd _ _ hb
              rw [h3] at h4; simp at h4; subst h4
              exact fin b h5
            · simp
        | undef =>
          simp only [Rel] at h2
          subst h2
          have : yielded ops a.tmps j = none := by
            unfold yielded
            rw [hj]
            simp [h1, Go.undef]
          rw [this]
          simp
        | _ => simp

theorem pickIx_inl {dec : List (E × Bool)} (hd : Decs I g dec) {e : E} {m : Int} (he : e.den I g.env = some (.i m)) : ∀ {n j : Nat}, pickIx e dec n = some (.inl j) → m = j
  | 0, j, h => by simp [pickIx] at h
  | n + 1, j, h => by
    simp only [pickIx] at h
    split at h
    · rename_i hb
      simp only [Option.some.injEq, Sum.inl.injEq] at h
      subst h
      obtain ⟨n', h4, h5⟩ := hd _ _ hb
      rw [den_mkBin (o := .eq) he (show (E.lit (n : Int)).den I g.env = some (.i n) from rfl)] at h4
      simp only [Option.some.injEq, D.i.injEq] at h4
      subst h4
      have h6 : BO.eq.ev m n ≠ 0 := of_decide_eq_true h5.symm
      by_cases hm : m = n
      · exact hm
      · exact absurd (show BO.eq.ev m n = 0 by simp only [BO.ev]; exact if_neg hm) h6
    · exact pickIx_inl hd he h
    · simp at h
theorem quietD_sound {d : Dr} {o : Oper} {v : AV} {ps : List PE} (hG : GOk kn.globs A) (hm : MRel A I P g d.s.mem w) (hd : Decs I g d.dec) (hr : Reads I g ops o d.s.tmps a) (h : quietD P kn d o.op = some (.val v ps)) (hp : ∀ p ∈ ps, p.den I g.env) (r : Option Nat) :
    ∃ x, (o.semAt r a.eval).run P w = .ok (.value x) w ∧ Rel I g v x := by
  have hread : ∀ t, .tmp t ∈ o.op.operands.toList → t ∈ readsOf ops o := by
    have h0 : ∀ {l : List Operand} {t : Nat}, .tmp t ∈ l → t ∈ readsT l := by
      intro l
      induction l with
      | nil => intro t h; simp at h
      | cons x l ih =>
        intro t h
        simp at h
        rcases h with h | h
        · subst h; simp [readsT]
        · have := ih h
          cases x <;> simp [readsT, this]
    intro t ht
    exact List.mem_append_right _ (h0 ht)
  have ht : TRel I g (fun t => t ∉ readsOf ops o) d.s.tmps a.tmps := fun t v hv hx => hr t (Decidable.not_not.1 hx) v hv
  unfold quietD at h
  split at h
  · rename_i t x y hop
    have hev : ∀ {z : Operand} {u : AV}, z ∈ o.op.operands.toList → evalOp d.s.tmps z = some u → Rel I g u (a.eval z) := fun hz hu => evalOp_rel ht hu fun t e hx => hx (hread t (e ▸ hz))
    have hsem : ∀ b : Bool, a.eval (.tmp t) = .bool b → (o.semAt r a.eval).run P w = .ok (.value (if b then a.eval x else a.eval y)) w := by
      intro b hb
      rw [Oper.semAt_eq _ _ _ (fun c hc => by rw [hop] at hc; cases hc)]
      simp only [execOp, hop, hb]
      cases b <;> simp [asBool]
    have hmt : t ∈ readsOf ops o := hread t (by rw [hop]; simp [Op.operands])
    split at h
    · rename_i n hg
      obtain ⟨z, h1, m, h2, rfl⟩ := hr t hmt _ hg
      simp [E.den] at h2; subst h2
      refine ⟨_, hsem (decide (n ≠ 0)) (by simp [Act.eval, h1, Array.getD_eq_getD_getElem?]), ?_⟩
      split at h
      · rename_i hn
        subst hn
        simp at h
        obtain ⟨u, h3, rfl, rfl⟩ := h
        simpa using hev (by rw [hop]; simp [Op.operands]) h3
      · rename_i hn
        simp at h
        obtain ⟨u, h3, rfl, rfl⟩ := h
        simpa [hn] using hev (by rw [hop]; simp [Op.operands]) h3
    · rename_i e _ hg
      obtain ⟨z, h1, m, h2, rfl⟩ := hr t hmt _ hg
      split at h
      · rename_i b hb
        obtain ⟨n', h4, h5⟩ := hd _ _ hb
        rw [h2] at h4; simp at h4; subst h4
        refine ⟨_, hsem (decide (m ≠ 0)) (by simp [Act.eval, h1, Array.getD_eq_getD_getElem?]), ?_⟩
        rw [← h5]
        split at h
        · rename_i hbt
          simp at h
          obtain ⟨u, h3, rfl, rfl⟩ := h
          rw [if_pos hbt]
          exact hev (by rw [hop]; simp [Op.operands]) h3
        · rename_i hbt
          simp at h
          obtain ⟨u, h3, rfl, rfl⟩ := h
          rw [if_neg hbt]
          exact hev (by rw [hop]; simp [Op.operands]) h3
      · simp at h
    · cases h
  · split at h
    · rename_i i k e n hsp
      split at h
      · rename_i j hj
        simp only [Option.map_eq_some_iff] at h
        obtain ⟨⟨v', ps'⟩, h1, h2⟩ := h
        cases h2
        have ht' : TRel I g (fun t => t ∉ readsOf ops o) (setInt d.s i k j).tmps a.tmps := by
          intro t v hv hx
          have hv : get (putT i (.int k (.lit j)) d.s.tmps) t = some v := hv
          rw [get_putT] at hv
          by_cases hit : i = t
          · subst hit
            rw [if_pos rfl] at hv
            simp only [Option.some.injEq] at hv
            subst hv
            obtain ⟨z, k1, m, k2, rfl⟩ := ht i _ (splitO_some hsp) hx
            have := pickIx_inl hd k2 hj
            subst this
            exact ⟨_, k1, _, rfl, rfl⟩
          · rw [if_neg hit] at hv
            exact ht t v hv hx
        obtain ⟨x, h3, h4⟩ := quiet_sound hG hm ht' (fun t ht hx => hx (hread t ht)) h1 hp
        refine ⟨x, ?_, h4⟩
        rw [Oper.semAt_eq _ _ _ (fun c hc => quiet_noDefer hc h1)]
        exact h3
      · simp at h
      · cases h
    · simp only [Option.map_eq_some_iff] at h
      obtain ⟨⟨v', ps'⟩, h1, h2⟩ := h
      cases h2
      obtain ⟨x, h3, h4⟩ := quiet_sound hG hm ht (fun t ht hx => hx (hread t ht)) h1 hp
      refine ⟨x, ?_, h4⟩
      rw [Oper.semAt_eq _ _ _ (fun c hc => quiet_noDefer hc h1)]
      exact h3

theorem quietD_ne_skip {d : Dr} {o : Op} (h : quietD P kn d o = some .skip) : False := by
  unfold quietD at h
  split at h
  · split at h
    · split at h <;> simp at h
    · split at h
      · split at h <;> simp at h
      · cases h
    · cases h
  · split at h
    · split at h
      · simp only [Option.map_eq_some_iff] at h
        obtain ⟨⟨v', ps'⟩, _, h2⟩ := h
        cases h2
      · cases h
      · cases h
    · simp only [Option.map_eq_some_iff] at h
      obtain ⟨⟨v', ps'⟩, _, h2⟩ := h
      cases h2

theorem outD_skip {d : Dr} {o : Oper} (hd : Decs I g d.dec) (h : outD P kn ops d o = some .skip) (hr : Reads I g ops o d.s.tmps a) : Region.wanted o (yielded ops a.tmps) = false := by
  unfold outD at h
  split at h
  · exact (quietD_ne_skip h).elim
  · rename_i hw; exact (wantedD_sound hd hr).2 hw
  · cases h
  · cases h

theorem outD_val {d : Dr} {o : Oper} {v : AV} {ps : List PE} (hG : GOk kn.globs A) (hm : MRel A I P g d.s.mem w) (hd : Decs I g d.dec) (h : outD P kn ops d o = some (.val v ps)) (hp : ∀ p ∈ ps, p.den I g.env) (hr : Reads I g ops o d.s.tmps a) :
    Region.wanted o (yielded ops a.tmps) = true ∧ ∀ r : Option Nat, ∃ x, (o.semAt r a.eval).run P w = .ok (.value x) w ∧ Rel I g v x := by
  unfold outD at h
  split at h
  · rename_i hw; exact ⟨(wantedD_sound hd hr).1 hw, quietD_sound hG hm hd hr h hp⟩
  · cases h
  · cases h
  · cases h

/-- What an operation's temporary must hold for its result. -/
def Holds (I : Itp) (g : G) (s : St) (o : Oper) : Out → Prop
  | .skip => ∀ t, o.dst = some t → t < s.nt ∧ get s.tmps t = some .undef
  | .val v ps => (∀ p ∈ ps, p.den I g.env) ∧ ∀ t, o.dst = some t → t < s.nt ∧ ∃ u, get s.tmps t = some u ∧ ∀ (g' : G) x, g.Ext0 g' → Rel I g' v x → Rel I g' u x
  | .dec _ => False

theorem LagOk.of_out {d : Dr} {o : Oper} {out : Out} {s : St} (hG : GOk kn.globs A) (hmem : s.mem = d.s.mem) (hd : Decs I g d.dec) (h : outD P kn ops d o = some out) (hs : ∀ t ∈ readsOf ops o, get s.tmps t = get d.s.tmps t) (hh : Holds I g s o out) :
    LagOk A I P g ops s o := by
  have hr : ∀ {g' : G} {a : Act}, Reads I g' ops o s.tmps a → Reads I g' ops o d.s.tmps a := fun h t ht v hv => h t ht v (by rw [hs t ht]; exact hv)
  have hd' : ∀ {g' : G}, g.Ext0 g' → Decs I g' d.dec := fun he c b hc => by rw [he.env]; exact hd c b hc
  cases out with
  | skip =>
    refine ⟨fun t ht => (hh t ht).1, fun g' w he hm a ha => ⟨fun hw => ?_, fun _ t v ht hv => ?_⟩⟩
    · rw [outD_skip (hd' he) h (hr ha)] at hw; cases hw
    · rw [(hh t ht).2] at hv; cases hv; rfl
  | val v ps =>
    obtain ⟨hp, hh⟩ := hh
    refine ⟨fun t ht => (hh t ht).1, fun g' w he hm a ha => ?_⟩
    rw [hmem] at hm
    obtain ⟨h1, h2⟩ := outD_val hG hm (hd' he) h (by rw [he.env]; exact hp) (hr ha)
    refine ⟨fun _ r => ?_, fun hw => by rw [h1] at hw; cases hw⟩
    obtain ⟨x, h3, h4⟩ := h2 r
    refine ⟨x, h3, fun t u ht hu => ?_⟩
    obtain ⟨_, u', h5, h6⟩ := hh t ht
    rw [hu] at h5; cases h5
    exact h6 g' x he h4
  | dec c => exact hh.elim

/-! ### A block made ahead -/

/-- When the machine comes to the operation, it makes such a block, and gives such a value. -/
def FlOk (I : Itp) (P : Program) (g : G) (ops : Array Oper) (s : St) (o : Oper) (b : Nat) (v : AV) (x : Blk) : Prop :=
  ∀ g' : G, g.Ext g' → ∀ a : Act, Reads I g' ops o s.tmps a → Region.wanted o (yielded ops a.tmps) = true ∧ ∀ (r : Option Nat) (w : World), g'.φ b = none →
    ∃ obj val p, p.blk = w.heap.size ∧ (o.semAt r a.eval).run P w = .ok (.value val) (w.alloc obj) ∧ Rel I (g'.place b p) v val ∧ BRel I P (g'.place b p) b (fun i => (w.alloc obj).heap[i]?) x

theorem FlOk.ext {g1 : G} {s : St} {o : Oper} {b : Nat} {v : AV} {x : Blk} (h : FlOk I P g ops s o b v x) (he : g.Ext g1) : FlOk I P g1 ops s o b v x := fun g' h1 =>
  h g' ⟨by obtain ⟨⟨xs, hx⟩, _⟩ := he; obtain ⟨⟨ys, hy⟩, _⟩ := h1; exact ⟨xs ++ ys, by rw [hy, hx, List.append_assoc]⟩, fun hb => h1.some (he.some hb)⟩

theorem place_self {b : Nat} {p : PB} : (g.place b p).φ b = some p := by simp [G.place]
theorem place_ptr {b k : Nat} : Rel I (g.place b ⟨k, 0, 0⟩) (.ptr b (.lit 0) 0 0) (.pointer (some ⟨k, 0, none⟩)) := ⟨0, ⟨k, 0, 0⟩, rfl, Int.le_refl _, place_self, by simp⟩
theorem place_slice {b k n sz : Nat} : Rel I (g.place b ⟨k, 0, n * sz⟩) (.slice b (.lit 0) (.lit n) sz false) (.slice (some ⟨k, 0, none⟩) n n) :=
  ⟨0, n, rfl, rfl, Int.le_refl _, by omega, .inl ⟨⟨k, 0, n * sz⟩, n, place_self, by simp, by simp, by simp⟩⟩

theorem floatOf_alloc {o : Oper} {t : TypeId} {z : AV} (hop : o.op = .alloc t) (hz : zeroAV P t = some z) (g' : G) (r : Option Nat) (w : World) (b : Nat) (a : Act) :
    ∃ obj val p, p.blk = w.heap.size ∧ (o.semAt r a.eval).run P w = .ok (.value val) (w.alloc obj) ∧ Rel I (g'.place b p) (.ptr b (.lit 0) 0 0) val ∧ BRel I P (g'.place b p) b (fun i => (w.alloc obj).heap[i]?) (.cells z.cells true) := by
  obtain ⟨ti, zx, _, _, hzr, hzrel⟩ := zeroAV_rel hz
  refine ⟨.cells zx.cells t, .pointer (some ⟨w.heap.size, 0, none⟩), ⟨w.heap.size, 0, 0⟩, rfl, ?_, place_ptr, cells_brel (fr := (0, 0)) place_self rfl (heap_alloc_new _ _) (hzrel I _).2 rfl (Nat.zero_le _)⟩
  rw [Oper.semAt_eq _ _ _ (fun c hc => by rw [hop] at hc; cases hc)]
  simp only [execOp, hop, Instr.alloc, Sem.run_bind, hzr, Result.andThen, newVar, newRow, run_newObj_alloc, Sem.run_pure]

theorem floatOf_box {o : Oper} {t : TypeId} {y : Operand} {v : AV} (hop : o.op = .box t y) (g' : G) (r : Option Nat) (w : World) (b : Nat) (hb : g'.φ b = none) (a : Act) (hv : Rel I g' v (a.eval y)) (hne : v ≠ .any) (hnb : v.isBig = false) :
    ∃ obj val p, p.blk = w.heap.size ∧ (o.semAt r a.eval).run P w = .ok (.value val) (w.alloc obj) ∧ Rel I (g'.place b p) (.ptr b (.lit 0) 0 0) val ∧ BRel I P (g'.place b p) b (fun i => (w.alloc obj).heap[i]?) (.cells v.cells true) := by
  refine ⟨.cells (a.eval y).cells t, .pointer (some ⟨w.heap.size, 0, none⟩), ⟨w.heap.size, 0, 0⟩, rfl, ?_, place_ptr, cells_brel (fr := (0, 0)) place_self rfl (heap_alloc_new _ _) ((cells_rel hv hne hnb).ext (G.place_ext hb)) rfl (Nat.zero_le _)⟩
  rw [Oper.semAt_eq _ _ _ (fun c hc => by rw [hop] at hc; cases hc)]
  simp only [execOp, hop, Instr.box, Sem.run_bind, Result.andThen, newVar, newRow, run_newObj_alloc, Sem.run_pure]

theorem floatOf_allocBig {o : Oper} {bg : Big} (hop : o.op = .alloc bg.t) {l m : List AV} (hz : zeroBig P bg = some (l, m)) (g' : G) (r : Option Nat) (w : World) (b : Nat) (a : Act) :
    ∃ obj val p, p.blk = w.heap.size ∧ (o.semAt r a.eval).run P w = .ok (.value val) (w.alloc obj) ∧ Rel I (g'.place b p) (.ptr b (.lit 0) 0 0) val ∧ BRel I P (g'.place b p) b (fun i => (w.alloc obj).heap[i]?) (.big l bg.ks .zt bg.n m true) := by
  obtain ⟨ti, cs, xs, ys, zs, _, _, hcs, hzr, hzrel, hyl, hys⟩ := zeroBig_spec hz
  refine ⟨.cells cs bg.t, .pointer (some ⟨w.heap.size, 0, none⟩), ⟨w.heap.size, 0, 0⟩, rfl, ?_, place_ptr, big_brel (f := fun _ _ => 0) place_self rfl (heap_alloc_new _ _) hcs rfl (hzrel I _).1 (hzrel I _).2 hyl hys⟩
  rw [Oper.semAt_eq _ _ _ (fun c hc => by rw [hop] at hc; cases hc)]
  simp only [execOp, hop, Instr.alloc, Sem.run_bind, hzr, Result.andThen, newVar, newRow, run_newObj_alloc, Sem.run_pure, Value.cells]

theorem floatOf_boxBig {o : Oper} {t : TypeId} {y : Operand} {l m : List AV} {ks : List CK} {e : E} {n : Nat} (hop : o.op = .box t y) (g' : G) (r : Option Nat) (w : World) (b : Nat) (hb : g'.φ b = none) (a : Act) (hv : Rel I g' (.big l ks e n m) (a.eval y)) :
    ∃ obj val p, p.blk = w.heap.size ∧ (o.semAt r a.eval).run P w = .ok (.value val) (w.alloc obj) ∧ Rel I (g'.place b p) (.ptr b (.lit 0) 0 0) val ∧ BRel I P (g'.place b p) b (fun i => (w.alloc obj).heap[i]?) (.big l ks e n m true) := by
  obtain ⟨f, xs, ys, zs, h1, h2, h3, h4, h5, h6⟩ := hv
  have hext := G.place_ext (p := ⟨w.heap.size, 0, 0⟩) hb
  refine ⟨.cells (a.eval y).cells t, .pointer (some ⟨w.heap.size, 0, none⟩), ⟨w.heap.size, 0, 0⟩, rfl, ?_, place_ptr, big_brel place_self rfl (heap_alloc_new _ _) (by rw [h2]; rfl) (E.den_ext hext h1) (h3.ext hext) (h4.ext hext) h5 h6⟩
  rw [Oper.semAt_eq _ _ _ (fun c hc => by rw [hop] at hc; cases hc)]
  simp only [execOp, hop, Instr.box, Sem.run_bind, Result.andThen, newVar, newRow, run_newObj_alloc, Sem.run_pure]

theorem reads_of_operand {o : Oper} {t : Nat} (h : .tmp t ∈ o.op.operands.toList) : t ∈ readsOf ops o := by
  have h0 : ∀ {l : List Operand} {t : Nat}, .tmp t ∈ l → t ∈ readsT l := by
    intro l
    induction l with
    | nil => intro t h; simp at h
    | cons x l ih =>
      intro t h
      simp at h
      rcases h with h | h
      · subst h; simp [readsT]
      · have := ih h
        cases x <;> simp [readsT, this]
  exact List.mem_append_right _ (h0 h)

/-- What floats, is made so. -/
theorem floatOf_ok {d : Dr} {o : Oper} {v : AV} {x : Blk} (hd : Decs I g d.dec) (hw : isWant (wantedD ops d o) = true) (h : floatOf P kn d.s o.op = some (v, x)) : FlOk I P g ops d.s o d.s.nb v x := by
  intro g' hext a hr
  have hdec : Decs I g' d.dec := fun c b hc => let ⟨n, h1, h2⟩ := hd c b hc; ⟨n, E.den_ext hext h1, h2⟩
  refine ⟨(wantedD_sound hdec hr).1 (by unfold isWant at hw; split at hw <;> simp_all), fun r w hb => ?_⟩
  have ht : TRel I g' (fun t => t ∉ readsOf ops o) d.s.tmps a.tmps := fun t v hv hx => hr t (Decidable.not_not.1 hx) v hv
  have ev0 : ∀ {z : Operand} {u : AV}, z ∈ o.op.operands.toList → evalOp d.s.tmps z = some u → Rel I g' u (a.eval z) := fun hz hu => evalOp_rel ht hu fun t e hx => hx (reads_of_operand (by rw [← e]; exact hz))
  cases hop : o.op with
  | alloc t =>
    rw [hop] at h
    cases hbg : bigOf kn.bigs t with
    | some bg =>
      cases hz : zeroBig P bg with
      | some lm =>
        obtain ⟨l, m⟩ := lm
        simp [floatOf, loudF_eq, loud, hbg, hz, newBlk] at h
        obtain ⟨rfl, rfl⟩ := h
        have ht : bg.t = t := by have := List.find?_some hbg; simpa using this
        subst ht
        exact floatOf_allocBig hop hz g' r w _ a
      | none => simp [floatOf, loudF_eq, loud, hbg, hz] at h
    | none =>
      cases hz : zeroAV P t with
      | some z =>
        simp [floatOf, loudF_eq, loud, hbg, hz, newBlk] at h
        obtain ⟨rfl, rfl⟩ := h
        exact floatOf_alloc hop hz g' r w _ a
      | none => simp [floatOf, loudF_eq, loud, hbg, hz] at h
  | box t y =>
    rw [hop] at h
    have ev : ∀ {u : AV}, evalOp d.s.tmps y = some u → Rel I g' u (a.eval y) := fun hu => ev0 (by rw [hop]; simp [Op.operands]) hu
    cases hu : evalOp d.s.tmps y with
    | none => simp [floatOf, loudF_eq, loud, hu] at h
    | some u =>
      by_cases hnb : u.isBig = true
      · cases u <;> simp [AV.isBig] at hnb
        rename_i l ks e n m
        simp only [floatOf, loudF_eq, loud, hu] at h
        by_cases hc : l.all AV.one = true ∧ m.all AV.one = true
        · rw [if_pos hc] at h
          simp [newBlk] at h
          obtain ⟨rfl, rfl⟩ := h
          exact floatOf_boxBig hop g' r w _ hb a (ev hu)
        · rw [if_neg hc] at h
          simp at h
      · by_cases hc : u.cells.all AV.one = true
        · have : floatOf P kn d.s (.box t y) = some (.ptr d.s.nb (.lit 0) 0 0, .cells u.cells true) := by
            cases u <;> first | (simp [AV.isBig] at hnb; done) | (simp only [floatOf, loudF_eq, loud, hu]; rw [if_pos hc]; rfl)
          rw [this] at h
          cases h
          exact floatOf_box hop g' r w _ hb a (ev hu) (evalOp_ne hu) (by simpa using hnb)
        · exfalso
          have : floatOf P kn d.s (.box t y) = none := by
            cases u <;> first | (simp [AV.isBig] at hnb; done) | (simp only [floatOf, loudF_eq, loud, hu]; rw [if_neg hc])
          rw [this] at h
          cases h
  | makeSlice t lo co =>
    have hsem : (o.semAt r a.eval).run P w = (execOp a.eval o).run P w := by
      rw [Oper.semAt_eq _ _ _ (fun c hc => by rw [hop] at hc; cases hc)]
    rw [hop] at h
    simp only [floatOf] at h
    split at h
    · rename_i v' s1 hl0
      split at h
      · rename_i bb x' hmem
        simp at h
        obtain ⟨rfl, rfl⟩ := h
        simp only [loudF_eq, loud] at hl0
        split at hl0
        · rename_i el k1 x1 k2 y1 hu hl hc
          split at hl0
          · rename_i z sz bytes hz hsz hbb
            split at hl0
            · rename_i hcond
              obtain ⟨h0, rfl, h1, h2, h3⟩ := hcond
              have hl' := ev0 (by rw [hop]; simp [Op.operands]) hl
              have hc' := ev0 (by rw [hop]; simp [Op.operands]) hc
              split at hl0
              · rename_i ks hks
                split at hl0
                · rename_i haz
                  simp at hl0
                  obtain ⟨rfl, rfl⟩ := hl0
                  simp [newBlk] at hmem
                  obtain ⟨_, rfl⟩ := hmem
                  obtain ⟨cs, n, rfl, hrun, hbr⟩ := makeSlice_new (w := w) hop hu hl' hc' hz hsz hbb h0 h1 h2 h3 hks haz
                  exact ⟨_, _, ⟨w.heap.size, 0, n * sz⟩, rfl, by rw [hsem]; exact hrun, place_slice, hbr _ _ place_self⟩
                · cases hl0
              · split at hl0
                · simp at hl0
                  obtain ⟨rfl, rfl⟩ := hl0
                  simp [newBlk] at hmem
                  obtain ⟨_, rfl⟩ := hmem
                  obtain ⟨cs, n, rfl, hrun, hbr⟩ := makeCells_new (w := w) hop hu hl' hc' hz hsz hbb h0 h1 h2 h3
                  exact ⟨_, _, ⟨w.heap.size, 0, n * sz⟩, rfl, by rw [hsem]; exact hrun, place_slice, hbr _ _ place_self⟩
                · cases hl0
            · cases hl0
          · cases hl0
        · cases hl0
      · cases h
    · cases h
  | buildSlice t n parts =>
    have hsem : (o.semAt r a.eval).run P w = (execOp a.eval o).run P w := by
      rw [Oper.semAt_eq _ _ _ (fun c hc => by rw [hop] at hc; cases hc)]
    rw [hop] at h
    simp only [floatOf] at h
    split at h
    · rename_i v' s1 hl0
      split at h
      · rename_i bb x' hmem
        simp at h
        obtain ⟨rfl, rfl⟩ := h
        simp only [loudF_eq, loud] at hl0
        split at hl0
        · rename_i el hu
          split at hl0
          · rename_i z sz ps hz hsz hps
            split at hl0
            · rename_i hcond
              split at hl0
              · rename_i vs hf
                split at hl0
                · simp at hl0
                  obtain ⟨rfl, rfl⟩ := hl0
                  simp [newBlk] at hmem
                  obtain ⟨_, rfl⟩ := hmem
                  obtain ⟨ds, hrun, h5, hl⟩ := buildSlice_new (w := w) ht hop (fun t' ht' hx => hx (reads_of_operand ht')) hu hz hsz hps hcond.1 hcond.2 hf
                  exact ⟨_, _, ⟨w.heap.size, 0, n * sz⟩, rfl, by rw [hsem]; exact hrun, place_slice, sliceBlk_brel place_self rfl (by rw [hcond.1]) (heap_alloc_new _ _) (h5.ext (G.place_ext hb)) hl⟩
                · cases hl0
              · cases hl0
            · cases hl0
          · cases hl0
        · cases hl0
      · cases h
    · cases h
  | makeMap t q =>
    rw [hop] at h
    cases q with
    | some _ => simp [floatOf, loudF_eq, loud] at h
    | none =>
      simp [floatOf, loudF_eq, loud, newBlk] at h
      obtain ⟨rfl, rfl⟩ := h
      refine ⟨.map #[] 0, .map (some w.heap.size), ⟨w.heap.size, 0, 0⟩, rfl, ?_, ⟨_, place_self, rfl⟩, ⟨_, #[], 0, place_self, heap_alloc_new _ _, trivial, trivial⟩⟩
      rw [Oper.semAt_eq _ _ _ (fun c hc => by rw [hop] at hc; cases hc)]
      simp only [execOp, hop, Option.map_none, Instr.makeMap, Sem.run_bind, Result.andThen, run_newObj_alloc, Sem.run_pure]
  | _ => rw [hop] at h; simp [floatOf] at h

/-! ### The state of a walk -/

def Lagging (ops : Array Oper) (done : Ns) (listed : Array Bool) (t : Nat) : Prop := ∃ i o, i ∈ done ∧ listed.getD i false = false ∧ ops[i]? = some o ∧ o.dst = some t

/-- The floating blocks of some operations. -/
def flSel (p : Nat → Bool) : List (Nat × Nat × Blk) → Mem
  | [] => []
  | (i, b, x) :: l => if p i then (b, x) :: flSel p l else flSel p l

theorem flBefore_sel {bf : Nat} : ∀ {l : List (Nat × Nat × Blk)}, flBefore bf l = flSel (fun i => bf.testBit i) l
  | [] => rfl
  | (i, b, x) :: l => by simp only [flBefore, flSel]; rw [flBefore_sel]
theorem flAll_sel {p : Nat → Bool} : ∀ {l : List (Nat × Nat × Blk)}, (∀ i b x, (i, b, x) ∈ l → p i = true) → flAll l = flSel p l
  | [], _ => rfl
  | (i, b, x) :: l, h => by
    simp only [flAll, flSel]
    rw [if_pos (h i b x (by simp)), flAll_sel fun i b x hm => h i b x (by simp [hm])]
theorem flSel_congr {p q : Nat → Bool} : ∀ {l : List (Nat × Nat × Blk)}, (∀ i b x, (i, b, x) ∈ l → p i = q i) → flSel p l = flSel q l
  | [], _ => rfl
  | (i, b, x) :: l, h => by
    simp only [flSel]
    rw [h i b x (by simp), flSel_congr fun i b x hm => h i b x (by simp [hm])]
theorem mem_flAfter {bf : Nat} {y : Nat × Nat × Blk} : ∀ {l : List (Nat × Nat × Blk)}, y ∈ flAfter bf l ↔ y ∈ l ∧ bf.testBit y.1 = false
  | [] => by simp [flAfter]
  | z :: l => by
    simp only [flAfter]
    split
    · rename_i hz
      rw [mem_flAfter]
      constructor
      · rintro ⟨h1, h2⟩; exact ⟨by simp [h1], h2⟩
      · rintro ⟨h1, h2⟩
        rcases List.mem_cons.1 h1 with rfl | h1
        · rw [hz] at h2; cases h2
        · exact ⟨h1, h2⟩
    · rename_i hz
      rw [List.mem_cons, mem_flAfter]
      constructor
      · rintro (rfl | ⟨h1, h2⟩)
        · exact ⟨by simp, by simpa using hz⟩
        · exact ⟨by simp [h1], h2⟩
      · rintro ⟨h1, h2⟩
        rcases List.mem_cons.1 h1 with rfl | h1
        · exact .inl rfl
        · exact .inr ⟨h1, h2⟩
theorem nodup_flAfter {bf : Nat} {f : Nat × Nat × Blk → Nat} : ∀ {l : List (Nat × Nat × Blk)}, nodup (l.map f) = true → nodup ((flAfter bf l).map f) = true
  | [], _ => rfl
  | z :: l, h => by
    simp only [List.map_cons, nodup, Bool.and_eq_true, Bool.not_eq_true', ← Bool.not_eq_true, List.contains_iff_mem] at h
    simp only [flAfter]
    split
    · exact nodup_flAfter h.2
    · simp only [List.map_cons, nodup, Bool.and_eq_true, Bool.not_eq_true', ← Bool.not_eq_true, List.contains_iff_mem]
      refine ⟨fun hm => h.1 ?_, nodup_flAfter h.2⟩
      obtain ⟨y, h1, h2⟩ := List.mem_map.1 hm
      exact List.mem_map.2 ⟨y, (mem_flAfter.1 h1).1, h2⟩
theorem nodup_inj {α : Type} {f : α → Nat} : ∀ {l : List α}, nodup (l.map f) = true → ∀ {y z : α}, y ∈ l → z ∈ l → f y = f z → y = z
  | [], _, y, z, h, _, _ => by cases h
  | u :: l, h, y, z, h1, h2, h3 => by
    simp only [List.map_cons, nodup, Bool.and_eq_true, Bool.not_eq_true', ← Bool.not_eq_true, List.contains_iff_mem] at h
    rcases List.mem_cons.1 h1 with h4 | h4 <;> rcases List.mem_cons.1 h2 with h5 | h5
    · rw [h4, h5]
    · rw [h4] at h3; exact (h.1 (List.mem_map.2 ⟨z, h5, h3.symm⟩)).elim
    · rw [h5] at h3; exact (h.1 (List.mem_map.2 ⟨y, h4, h3⟩)).elim
    · exact nodup_inj h.2 h4 h5 h3
theorem flSel_get {p : Nat → Bool} : ∀ {l : List (Nat × Nat × Blk)}, nodup (l.map fun y => y.2.1) = true → ∀ {b : Nat} {x : Blk}, get (flSel p l) b = some x ↔ ∃ i, (i, b, x) ∈ l ∧ p i = true
  | [], _, b, x => by simp [flSel, get_nil]
  | (i0, b0, x0) :: l, h, b, x => by
    have h0 := h
    simp only [List.map_cons, nodup, Bool.and_eq_true, Bool.not_eq_true', ← Bool.not_eq_true, List.contains_iff_mem] at h
    simp only [flSel]
    split
    · rename_i hp
      simp only [get_cons]
      split
      · rename_i hb
        constructor
        · intro e; cases e; exact ⟨i0, by simp [hb], hp⟩
        · rintro ⟨i, h1, _⟩
          have := nodup_inj h0 h1 (z := (i0, b0, x0)) (by simp) hb.symm
          cases this; rfl
      · rename_i hb
        rw [flSel_get h.2]
        constructor
        · rintro ⟨i, h1, h2⟩; exact ⟨i, by simp [h1], h2⟩
        · rintro ⟨i, h1, h2⟩
          rcases List.mem_cons.1 h1 with e | h1
          · cases e; exact absurd rfl hb
          · exact ⟨i, h1, h2⟩
    · rename_i hp
      rw [flSel_get h.2]
      constructor
      · rintro ⟨i, h1, h2⟩; exact ⟨i, by simp [h1], h2⟩
      · rintro ⟨i, h1, h2⟩
        rcases List.mem_cons.1 h1 with e | h1
        · cases e; exact absurd h2 hp
        · exact ⟨i, h1, h2⟩

structure DInv (A : Amb) (I : Itp) (P : Program) (ops : Array Oper) (g : G) (d : Dr) (listed : Array Bool) (a : Act) (w : World) : Prop where
  sr : SRel A I P (Lagging ops d.done listed) g { d.s with mem := flSel (fun i => listed.getD i false) d.fl ++ d.s.mem } a w
  size : listed.size = ops.size
  sub : ∀ i, listed.getD i false = true → i ∈ d.done
  qs : ∀ i ∈ d.done, listed.getD i false = false → (∀ b x, (i, b, x) ∉ d.fl) → i ∈ d.qs
  lag : ∀ i o, i ∈ d.done → listed.getD i false = false → (∀ b x, (i, b, x) ∉ d.fl) → ops[i]? = some o → LagOk A I P g ops d.s o
  fdone : ∀ i b x, (i, b, x) ∈ d.fl → i ∈ d.done ∧ i < ops.size ∧ b < d.s.nb ∧ get d.s.mem b = none
  fkey : nodup (d.fl.map fun y => y.2.1) = true
  fidx : nodup (d.fl.map fun y => y.1) = true
  fwait : ∀ i b x o, (i, b, x) ∈ d.fl → listed.getD i false = false → ops[i]? = some o → g.φ b = none ∧ ∃ v, FlOk I P g ops d.s o b v x ∧ ∀ t, o.dst = some t → t < d.s.nt ∧ get d.s.tmps t = some v
  bar : ∀ i, i ∈ d.done → listed.getD i false = false → isBar ops i = false
  dec : Decs I g d.dec
  dcl : Closed ops (· ∈ d.done)
  lcl : Closed ops (fun i => listed.getD i false = true)

theorem SRel.weaken {X Y : Nat → Prop} {s : St} (h : SRel A I P X g s a w) (hXY : ∀ t, X t → Y t) : SRel A I P Y g s a w :=
  ⟨h.m, fun t v ht hy => h.t t v ht fun hx => hy (hXY t hx), h.nt, h.d, h.nv, h.nb⟩

theorem getD_set {l : Array Bool} {j i : Nat} (hj : j < l.size) : (l.setIfInBounds j true).getD i false = if i = j then true else l.getD i false := by
  by_cases h : i = j
  · subst h; simp [Array.getD_eq_getD_getElem?, hj]
  · rw [if_neg h]; simp [Array.getD_eq_getD_getElem?, Array.getElem?_setIfInBounds_ne (Ne.symm h)]

theorem lt_of_getElem? {j : Nat} {o : Oper} (ho : ops[j]? = some o) : j < ops.size := (Array.getElem?_eq_some_iff.1 ho).1

theorem LagOk.tmps {s s' : St} {o : Oper} (h : LagOk A I P g ops s o) (hm : s'.mem = s.mem) (hn : s'.nt = s.nt) (hr : ∀ t ∈ readsOf ops o, get s'.tmps t = get s.tmps t) (hd : ∀ t, o.dst = some t → get s'.tmps t = get s.tmps t) :
    LagOk A I P g ops s' o := by
  refine ⟨fun t ht => by rw [hn]; exact h.1 t ht, fun g' w he hm' a ha => ?_⟩
  obtain ⟨h1, h2⟩ := h.2 g' w he (by rw [← hm]; exact hm') a fun t ht u hu => ha t ht u (by rw [hr t ht]; exact hu)
  refine ⟨fun hw r => ?_, fun hw t u ht hu => h2 hw t u ht (by rw [← hd t ht]; exact hu)⟩
  obtain ⟨x, h3, h4⟩ := h1 hw r
  exact ⟨x, h3, fun t u ht hu => h4 t u ht (by rw [← hd t ht]; exact hu)⟩

theorem FlOk.tmps {s s' : St} {o : Oper} {b : Nat} {v : AV} {x : Blk} (h : FlOk I P g ops s o b v x) (hr : ∀ t ∈ readsOf ops o, get s'.tmps t = get s.tmps t) : FlOk I P g ops s' o b v x :=
  fun g' he a ha => h g' he a fun t ht u hu => ha t ht u (by rw [hr t ht]; exact hu)

theorem DInv.reads {d : Dr} {listed : Array Bool} (h : DInv A I P ops g d listed a w) {j : Nat} {o : Oper} (ho : ops[j]? = some o)
    (ha : ∀ e ∈ o.after.toList, Region.binds .any e = true → listed.getD e.on false = true) : ∀ t ∈ readsOf ops o, ¬ Lagging ops d.done listed t := by
  rintro t ht ⟨i, oi, h1, h2, h3, h4⟩
  have hb := notBar (h.bar i h1 h2) h3 h4 ho ht
  obtain ⟨o', ho', e, h5, h6, h7⟩ := before_bit hb
  rw [ho] at ho'; cases ho'
  have h8 := ha e h5 h6
  rcases h7 with rfl | h7
  · rw [h8] at h2; cases h2
  · have := h.lcl _ h8 _ h7
    simp only at this
    rw [this] at h2; cases h2

theorem DInv.reads' {d : Dr} {listed : Array Bool} (h : DInv A I P ops g d listed a w) {j : Nat} {o : Oper} (ho : ops[j]? = some o)
    (ha : ∀ e ∈ o.after.toList, Region.binds .any e = true → listed.getD e.on false = true) : Reads I g ops o d.s.tmps a := fun t ht v hv => h.sr.t t v hv (h.reads ho ha t ht)

theorem DInv.listed_cl {d : Dr} {listed : Array Bool} (h : DInv A I P ops g d listed a w) {j : Nat} {o : Oper} (ho : ops[j]? = some o)
    (ha : ∀ e ∈ o.after.toList, Region.binds .any e = true → listed.getD e.on false = true) : Closed ops fun i => (listed.setIfInBounds j true).getD i false = true := by
  have hj : j < listed.size := by rw [h.size]; exact lt_of_getElem? ho
  have := h.lcl.add ho ha
  intro i hi k hk
  rw [getD_set hj] at hi ⊢
  have h1 := this i (by
    split at hi
    · rename_i e; exact .inl e
    · exact .inr hi) k hk
  rcases h1 with rfl | h1
  · simp
  · split
    · rfl
    · exact h1

/-- What lags is a part of memory. -/
theorem DInv.mem_sub {d : Dr} {listed : Array Bool} (h : DInv A I P ops g d listed a w) : MRel A I P g d.s.mem w :=
  h.sr.m.sub fun c y hc => by
    rw [get_app]
    split
    · rename_i z hz
      obtain ⟨i, h1, _⟩ := (flSel_get h.fkey).1 hz
      rw [(h.fdone i c z h1).2.2.2] at hc; cases hc
    · exact hc

/-- A quiet operation that lagged is done. -/
theorem DInv.catch_up {d : Dr} {listed : Array Bool} (_hD : DrawOk ops) (h : DInv A I P ops g d listed a w) {j : Nat} {o : Oper} (ho : ops[j]? = some o) (hj : j ∈ d.done) (hfl : ∀ b x, (j, b, x) ∉ d.fl)
    (ha : ∀ e ∈ o.after.toList, Region.binds .any e = true → listed.getD e.on false = true) (hnt : ∀ t, o.dst = some t → t < d.s.nt) {x : Value}
    (hx : ∀ t v, o.dst = some t → get d.s.tmps t = some v → Rel I g v x) : DInv A I P ops g d (listed.setIfInBounds j true) (a.put o.dst x) w := by
  have hjl : j < listed.size := by rw [h.size]; exact lt_of_getElem? ho
  have hsel : flSel (fun i => (listed.setIfInBounds j true).getD i false) d.fl = flSel (fun i => listed.getD i false) d.fl :=
    flSel_congr fun i b x hm => by rw [getD_set hjl, if_neg (fun e : i = j => hfl b x (e ▸ hm))]
  refine ⟨⟨by rw [hsel]; exact h.sr.m, fun t v hv ht => ?_, ?_, ?_, h.sr.nv, h.sr.nb⟩, by simpa using h.size, fun i hi => ?_, fun i hi hl => ?_, fun i oi hi hl hf hoi => ?_, h.fdone, h.fkey, h.fidx, fun i b y oi hm hl hoi => ?_, fun i hi hl => ?_, h.dec, h.dcl, h.listed_cl ho ha⟩
  · by_cases hd : o.dst = some t
    · refine ⟨x, ?_, hx t v hd hv⟩
      have hsz : t < a.tmps.size := by have := h.sr.nt; simp only at this; rw [this]; exact hnt t hd
      simp [Act.put, hd, hsz]
    · have hnl : ¬ Lagging ops d.done listed t := by
        rintro ⟨i, oi, h1, h2, h3, h4⟩
        by_cases hij : i = j
        · subst hij; rw [ho] at h3; cases h3; exact hd h4
        · exact ht ⟨i, oi, h1, by rw [getD_set hjl, if_neg hij]; exact h2, h3, h4⟩
      obtain ⟨y, h1, h2⟩ := h.sr.t t v hv hnl
      refine ⟨y, ?_, h2⟩
      cases hdd : o.dst with
      | none => simpa [Act.put] using h1
      | some t' =>
        have : t' ≠ t := fun e => hd (by rw [hdd, e])
        simp [Act.put, Array.getElem?_setIfInBounds_ne this, h1]
  · have := h.sr.nt
    cases hdd : o.dst <;> simpa [Act.put] using this
  · have := h.sr.d
    cases hdd : o.dst <;> simpa [Act.put] using this
  · rw [getD_set hjl] at hi
    split at hi
    · rename_i e; subst e; exact hj
    · exact h.sub i hi
  · rw [getD_set hjl] at hl
    split at hl
    · cases hl
    · exact h.qs i hi hl
  · rw [getD_set hjl] at hl
    split at hl
    · cases hl
    · exact h.lag i oi hi hl hf hoi
  · rw [getD_set hjl] at hl
    split at hl
    · cases hl
    · exact h.fwait i b y oi hm hl hoi
  · rw [getD_set hjl] at hl
    split at hl
    · cases hl
    · exact h.bar i hi hl

/-- The machine makes a block that floated. -/
theorem DInv.catch_float {d : Dr} {listed : Array Bool} (h : DInv A I P ops g d listed a w) {j : Nat} {o : Oper} (ho : ops[j]? = some o) (hj : j ∈ d.done) (hjf : listed.getD j false = false)
    (ha : ∀ e ∈ o.after.toList, Region.binds .any e = true → listed.getD e.on false = true) {b : Nat} {x : Blk} (hm : (j, b, x) ∈ d.fl) {obj : Obj} {val : Value} {p : PB} (hpb : p.blk = w.heap.size)
    (hval : ∀ t v, o.dst = some t → get d.s.tmps t = some v → Rel I (g.place b p) v val) (hdst : ∀ t, o.dst = some t → t < d.s.nt)
    (hx : BRel I P (g.place b p) b (fun i => (w.alloc obj).heap[i]?) x) :
    DInv A I P ops (g.place b p) d (listed.setIfInBounds j true) (a.put o.dst val) (w.alloc obj) := by
  have hjl : j < listed.size := by rw [h.size]; exact lt_of_getElem? ho
  obtain ⟨_, _, hbnb, hbm⟩ := h.fdone j b x hm
  obtain ⟨hφ, _⟩ := h.fwait j b x o hm hjf ho
  have hext := G.place_ext (p := p) hφ
  have hext0 : g.Ext0 (g.place b p) := ⟨rfl, Nat.le_refl _, hext.some⟩
  have huniq : ∀ {i : Nat} {z : Blk}, (i, b, z) ∈ d.fl → i = j := fun {i z} hi => by
    have := nodup_inj h.fkey hi hm rfl
    cases this; rfl
  have hsel0 : get (flSel (fun i => listed.getD i false) d.fl ++ d.s.mem) b = none := by
    rw [get_app]
    split
    · rename_i z hz
      obtain ⟨i, h1, h2⟩ := (flSel_get h.fkey).1 hz
      have := huniq h1; subst this
      rw [hjf] at h2; cases h2
    · exact hbm
  have hnb : b < g.nb := by rw [h.sr.nb]; exact hbnb
  have hm1 := h.sr.m.place (o := obj) (x := x) (p := p) hnb hφ hsel0 hpb hx
  refine ⟨⟨hm1.sub fun c y hc => ?_, fun t v hv ht => ?_, ?_, ?_, h.sr.nv, h.sr.nb⟩, by simpa using h.size, fun i hi => ?_, fun i hi hl => ?_, fun i oi hi hl hf hoi => ?_, h.fdone, h.fkey, h.fidx, fun i c y oi hmi hl hoi => ?_, fun i hi hl => ?_, fun c b hc => h.dec c b hc, h.dcl, h.listed_cl ho ha⟩
  · simp only at hc
    rw [get_app] at hc
    simp only [get_cons]
    split at hc
    · rename_i z hz
      cases hc
      obtain ⟨i, h1, h2⟩ := (flSel_get h.fkey).1 hz
      rw [getD_set hjl] at h2
      by_cases hij : i = j
      · subst hij
        have := nodup_inj h.fidx h1 hm rfl
        cases this
        rw [if_pos rfl]
      · rw [if_neg hij] at h2
        have hbc : b ≠ c := fun e => hij (huniq (e ▸ h1))
        rw [if_neg hbc, get_app, (flSel_get h.fkey).2 ⟨i, h1, h2⟩]
    · rename_i hz
      have hbc : b ≠ c := fun e => by subst e; rw [hbm] at hc; cases hc
      rw [if_neg hbc, get_app]
      split
      · rename_i z hz'
        obtain ⟨i, h1, h2⟩ := (flSel_get h.fkey).1 hz'
        rw [(h.fdone i c z h1).2.2.2] at hc; cases hc
      · exact hc
  · by_cases hd : o.dst = some t
    · have h1 := hdst t hd
      have hv : get d.s.tmps t = some v := hv
      have hsz : t < a.tmps.size := by have := h.sr.nt; simp only at this; rw [this]; exact h1
      exact ⟨val, by simp [Act.put, hd, hsz], hval t v hd hv⟩
    · have hnl : ¬ Lagging ops d.done listed t := by
        rintro ⟨i, oi, h1, h2, h3, h4⟩
        by_cases hij : i = j
        · subst hij; rw [ho] at h3; cases h3; exact hd h4
        · exact ht ⟨i, oi, h1, by rw [getD_set hjl, if_neg hij]; exact h2, h3, h4⟩
      obtain ⟨y, h1, h2⟩ := h.sr.t t v hv hnl
      refine ⟨y, ?_, h2.ext hext⟩
      cases hdd : o.dst with
      | none => simpa [Act.put] using h1
      | some t' =>
        have : t' ≠ t := fun e => hd (by rw [hdd, e])
        simp [Act.put, Array.getElem?_setIfInBounds_ne this, h1]
  · have := h.sr.nt
    cases hdd : o.dst <;> simpa [Act.put] using this
  · have := h.sr.d.ext hext
    cases hdd : o.dst <;> simpa [Act.put] using this
  · rw [getD_set hjl] at hi
    split at hi
    · rename_i e; subst e; exact hj
    · exact h.sub i hi
  · rw [getD_set hjl] at hl
    split at hl
    · cases hl
    · exact h.qs i hi hl
  · rw [getD_set hjl] at hl
    split at hl
    · cases hl
    · exact (h.lag i oi hi hl hf hoi).ext hext0
  · rw [getD_set hjl] at hl
    split at hl
    · cases hl
    · rename_i hij
      obtain ⟨h1, v, h2, h3⟩ := h.fwait i c y oi hmi hl hoi
      have hcb : c ≠ b := fun e => hij (huniq (e ▸ hmi))
      exact ⟨by simp [G.place, hcb, h1], v, h2.ext hext, h3⟩
  · rw [getD_set hjl] at hl
    split at hl
    · cases hl
    · exact h.bar i hi hl

theorem setT_spec {s s' : St} {dst : Option Tmp} {v : AV} (h : setT s dst v = some s') :
    s'.mem = s.mem ∧ s'.nt = s.nt ∧ s'.defers = s.defers ∧ s'.nv = s.nv ∧ s'.nb = s.nb ∧ (∀ t, dst = some t → t < s.nt) ∧ ∀ t, get s'.tmps t = if dst = some t then some v else get s.tmps t := by
  rw [setT_eq] at h
  cases dst with
  | none => simp at h; subst h; simp
  | some d =>
    simp only at h
    split at h
    · rename_i hd
      simp at h; subst h
      refine ⟨rfl, rfl, rfl, rfl, rfl, fun t ht => by cases ht; exact hd, fun t => ?_⟩
      rw [get_putT]
      by_cases ht : d = t
      · subst ht; simp
      · rw [if_neg ht, if_neg (by simp; exact ht)]
    · cases h

theorem mem_restL {m : Ns} {l : List Nat} {i : Nat} : i ∈ restL m l ↔ i ∈ l ∧ i ∉ m := by
  rw [restL_eq, List.mem_filter, Ns.mem_iff]; simp
theorem needOf_bit {j : Nat} : ∀ {l : List Edge}, (needOf l).testBit j = true ↔ ∃ e ∈ l, Region.binds .any e = true ∧ e.on = j
  | [] => by simp [needOf]
  | e :: l => by
    simp only [needOf]
    split
    · rename_i hb
      show ((needOf l) ||| (1 <<< e.on)).testBit j = true ↔ _
      rw [Nat.testBit_or, Bool.or_eq_true, needOf_bit, Nat.one_shiftLeft, Nat.testBit_two_pow, decide_eq_true_eq]
      constructor
      · rintro (⟨e', h1, h2⟩ | h)
        · exact ⟨e', by simp [h1], h2⟩
        · exact ⟨e, by simp, hb, h⟩
      · rintro ⟨e', h1, h2⟩
        rcases List.mem_cons.1 h1 with rfl | h1
        · exact .inr h2.2
        · exact .inl ⟨e', h1, h2⟩
    · rename_i hb
      rw [needOf_bit]
      constructor
      · rintro ⟨e', h1, h2⟩; exact ⟨e', by simp [h1], h2⟩
      · rintro ⟨e', h1, h2⟩
        rcases List.mem_cons.1 h1 with rfl | h1
        · exact absurd h2.1 hb
        · exact ⟨e', h1, h2⟩
theorem afterOk_iff {done : Ns} {l : List Edge} : afterOk done l = true ↔ ∀ e ∈ l, Region.binds .any e = true → e.on ∈ done := by
  have h0 : afterOk done l = true ↔ (needOf l) &&& (show Nat from done) = needOf l := by
    unfold afterOk
    rw [Nat.beq_eq]; rfl
  rw [h0]
  constructor
  · intro h e he hb
    rw [Ns.mem_iff, Ns.has_eq]
    have h1 := needOf_bit.2 ⟨e, he, hb, rfl⟩
    rw [← h, Nat.testBit_and, Bool.and_eq_true] at h1
    exact h1.2
  · intro h
    apply Nat.eq_of_testBit_eq
    intro j
    rw [Nat.testBit_and]
    cases hj : (needOf l).testBit j with
    | false => rfl
    | true =>
      obtain ⟨e, he, hb, rfl⟩ := needOf_bit.1 hj
      have := h e he hb
      rw [Ns.mem_iff, Ns.has_eq] at this
      rw [Bool.true_and]; exact this
theorem readyA_spec {o : Oper} {done : Ns} : readyA o done = true ↔ ∀ e ∈ o.after.toList, Region.binds .any e = true → e.on ∈ done := afterOk_iff

/-- The executor does a quiet operation ahead. -/
theorem DInv.ahead {d : Dr} {listed : Array Bool} (hG : GOk kn.globs A) (hD : DrawOk ops) (h : DInv A I P ops g d listed a w) {i : Nat} {o : Oper} (ho : ops[i]? = some o) (hi : i ∉ d.done) (hrd : readyA o d.done = true) (hbar : isBar ops i = false)
    {v : AV} {s' : St} (hset : setT d.s o.dst v = some s') {out : Out} (hout : outD P kn ops d o = some out) (hh : Holds I g s' o out) :
    DInv A I P ops g { d with s := s', done := d.done.add i, qs := i :: d.qs } listed a w := by
  obtain ⟨h1, h2, h3, h4, h5, h6, h7⟩ := setT_spec hset
  have hnl : listed.getD i false = false := by
    cases hl : listed.getD i false with
    | false => rfl
    | true => exact absurd (h.sub i hl) hi
  have hown : ∀ t ∈ readsOf ops o, get s'.tmps t = get d.s.tmps t := fun t ht => by
    rw [h7 t, if_neg]
    intro e
    have := hD.before_lt (notBar hbar ho e ho ht)
    omega
  have hst : ∀ {k : Nat} {ok : Oper}, k ∈ d.done → ops[k]? = some ok → ∀ t ∈ readsOf ops ok, get s'.tmps t = get d.s.tmps t := fun {k ok} hk hok t ht => by
    rw [h7 t, if_neg]
    intro e
    exact hi (h.dcl k hk i (notBar hbar ho e hok ht))
  have hdst : ∀ {k : Nat} {ok : Oper}, k ∈ d.done → ops[k]? = some ok → ∀ t, ok.dst = some t → get s'.tmps t = get d.s.tmps t := fun {k ok} hk hok t ht => by
    rw [h7 t, if_neg]
    intro e
    have := hD.inj ho hok e ht
    subst this; exact hi hk
  refine ⟨⟨by rw [h1]; exact h.sr.m, fun t u hu ht => ?_, by show a.tmps.size = s'.nt; rw [h2]; exact h.sr.nt, by show DRel I g s'.defers a.defers; rw [h3]; exact h.sr.d, by show g.env.length = s'.nv; rw [h4]; exact h.sr.nv, by show g.nb = s'.nb; rw [h5]; exact h.sr.nb⟩, h.size, fun k hk => Ns.mem_add.2 (.inr (h.sub k hk)), fun k hk hl hf => ?_, fun k ok hk hl hf hok => ?_, fun k b x hm => ?_, h.fkey, h.fidx, fun k b x ok hm hl hok => ?_, fun k hk hl => ?_, h.dec, ?_, h.lcl⟩
  · have hne : o.dst ≠ some t := fun e => ht ⟨i, o, Ns.mem_add.2 (.inl rfl), hnl, ho, e⟩
    have hu : get s'.tmps t = some u := hu
    rw [h7 t, if_neg hne] at hu
    exact h.sr.t t u hu fun ⟨k, ok, hk1, hk2, hk3, hk4⟩ => ht ⟨k, ok, Ns.mem_add.2 (.inr hk1), hk2, hk3, hk4⟩
  · rcases Ns.mem_add.1 hk with rfl | hk
    · simp
    · exact List.mem_cons_of_mem _ (h.qs k hk hl hf)
  · rcases Ns.mem_add.1 hk with rfl | hk
    · rw [ho] at hok; cases hok
      exact LagOk.of_out (s := s') hG h1 h.dec hout hown hh
    · exact (h.lag k ok hk hl hf hok).tmps h1 h2 (hst hk hok) (hdst hk hok)
  · obtain ⟨h8, h9, h10, h11⟩ := h.fdone k b x hm
    exact ⟨Ns.mem_add.2 (.inr h8), h9, by show b < s'.nb; rw [h5]; exact h10, by show get s'.mem b = none; rw [h1]; exact h11⟩
  · obtain ⟨h8, vv, h9, h10⟩ := h.fwait k b x ok hm hl hok
    have hk := (h.fdone k b x hm).1
    exact ⟨h8, vv, h9.tmps (hst hk hok), fun t ht => ⟨by show t < s'.nt; rw [h2]; exact (h10 t ht).1, by show get s'.tmps t = _; rw [hdst hk hok t ht]; exact (h10 t ht).2⟩⟩
  · rcases Ns.mem_add.1 hk with rfl | hk
    · exact hbar
    · exact h.bar k hk hl
  · intro k hk j hj
    have := (h.dcl.add ho (readyA_spec.1 hrd)) k (Ns.mem_add.1 hk) j hj
    exact Ns.mem_add.2 this

/-- A number that no block has is passed over. -/
theorem MRel.pass (h : MRel A I P g M w) : MRel A I P (g.lay none) M w :=
  (h.lay_none (x := .rows [] .zt (.lit 0) false true) (fun _ _ h => h) ⟨fun _ _ => 0, 0, rfl, rfl, Int.le_refl _, .inr ⟨rfl, rfl, by simp [G.lay]⟩⟩).sub fun b y hb => by
    simp only [get_cons]
    rw [if_neg (fun e => by have := h.lt b y hb; omega)]
    exact hb

/-- The executor makes a block ahead. -/
theorem DInv.float {d : Dr} {listed : Array Bool} (hD : DrawOk ops) (h : DInv A I P ops g d listed a w) {i : Nat} {o : Oper} (ho : ops[i]? = some o) (hi : i ∉ d.done) (hrd : readyA o d.done = true) (hbar : isBar ops i = false)
    {s' : St} {v : AV} (hset : setT { d.s with nb := d.s.nb + 1 } o.dst v = some s') {x : Blk} (hf : FlOk I P g ops d.s o d.s.nb v x) :
    DInv A I P ops (g.lay none) { d with s := s', done := d.done.add i, fl := (i, d.s.nb, x) :: d.fl } listed a w := by
  obtain ⟨h1, h2, h3, h4, h5, h6, h7⟩ := setT_spec hset
  simp only at h1 h2 h3 h4 h5 h6 h7
  have hnl : listed.getD i false = false := by
    cases hl : listed.getD i false with
    | false => rfl
    | true => exact absurd (h.sub i hl) hi
  have hown : ∀ t ∈ readsOf ops o, get s'.tmps t = get d.s.tmps t := fun t ht => by
    rw [h7 t, if_neg]
    intro e
    have := hD.before_lt (notBar hbar ho e ho ht)
    omega
  have hst : ∀ {k : Nat} {ok : Oper}, k ∈ d.done → ops[k]? = some ok → ∀ t ∈ readsOf ops ok, get s'.tmps t = get d.s.tmps t := fun {k ok} hk hok t ht => by
    rw [h7 t, if_neg]
    intro e
    exact hi (h.dcl k hk i (notBar hbar ho e hok ht))
  have hdst : ∀ {k : Nat} {ok : Oper}, k ∈ d.done → ops[k]? = some ok → ∀ t, ok.dst = some t → get s'.tmps t = get d.s.tmps t := fun {k ok} hk hok t ht => by
    rw [h7 t, if_neg]
    intro e
    have := hD.inj ho hok e ht
    subst this; exact hi hk
  have hwf := h.sr.m.wf
  have hle := g.lay_le none
  have hext := hle.ext hwf
  have hnb := h.sr.nb
  simp only at hnb
  have hext0 : g.Ext0 (g.lay none) := ⟨rfl, by simp [G.lay], fun hb => hle.some hwf hb⟩
  have hsel : flSel (fun i => listed.getD i false) ((i, d.s.nb, x) :: d.fl) = flSel (fun i => listed.getD i false) d.fl := by
    simp only [flSel, hnl, Bool.false_eq_true, if_false]
  refine ⟨⟨by dsimp only; rw [hsel, h1]; exact h.sr.m.pass, fun t u hu ht => ?_, by show a.tmps.size = s'.nt; rw [h2]; exact h.sr.nt, by show DRel I (g.lay none) s'.defers a.defers; rw [h3]; exact h.sr.d.le hle hwf, by show g.env.length = s'.nv; rw [h4]; exact h.sr.nv, by show g.nb + 1 = s'.nb; rw [h5, hnb]⟩, h.size, fun k hk => Ns.mem_add.2 (.inr (h.sub k hk)), fun k hk hl hf' => ?_, fun k ok hk hl hf' hok => ?_, fun k b y hm => ?_, ?_, ?_, fun k b y ok hm hl hok => ?_, fun k hk hl => ?_, h.dec.le hle, ?_, h.lcl⟩
  · have hne : o.dst ≠ some t := fun e => ht ⟨i, o, Ns.mem_add.2 (.inl rfl), hnl, ho, e⟩
    have hu : get s'.tmps t = some u := hu
    rw [h7 t, if_neg hne] at hu
    exact h.sr.t.le hle hwf t u hu fun ⟨k, ok, hk1, hk2, hk3, hk4⟩ => ht ⟨k, ok, Ns.mem_add.2 (.inr hk1), hk2, hk3, hk4⟩
  · rcases Ns.mem_add.1 hk with rfl | hk
    · exact absurd (by simp) (hf' d.s.nb x)
    · exact h.qs k hk hl fun b y hm => hf' b y (by simp [hm])
  · rcases Ns.mem_add.1 hk with rfl | hk
    · exact absurd (by simp) (hf' d.s.nb x)
    · exact ((h.lag k ok hk hl (fun b y hm => hf' b y (by simp [hm])) hok).ext hext0).tmps h1 h2 (hst hk hok) (hdst hk hok)
  · rcases List.mem_cons.1 hm with e | hm
    · cases e
      refine ⟨Ns.mem_add.2 (.inl rfl), lt_of_getElem? ho, by show d.s.nb < s'.nb; rw [h5]; omega, ?_⟩
      show get s'.mem d.s.nb = none
      rw [h1]
      cases hg : get d.s.mem d.s.nb with
      | none => rfl
      | some z => have := h.mem_sub.lt _ z hg; omega
    · obtain ⟨h8, h9, h10, h11⟩ := h.fdone k b y hm
      exact ⟨Ns.mem_add.2 (.inr h8), h9, by show b < s'.nb; rw [h5]; omega, by show get s'.mem b = none; rw [h1]; exact h11⟩
  · simp only [List.map_cons, nodup, Bool.and_eq_true, Bool.not_eq_true', ← Bool.not_eq_true, List.contains_iff_mem]
    refine ⟨fun hm => ?_, h.fkey⟩
    obtain ⟨⟨k, b, y⟩, h8, h9⟩ := List.mem_map.1 hm
    have := (h.fdone k b y h8).2.2.1
    simp only at h9
    omega
  · simp only [List.map_cons, nodup, Bool.and_eq_true, Bool.not_eq_true', ← Bool.not_eq_true, List.contains_iff_mem]
    refine ⟨fun hm => ?_, h.fidx⟩
    obtain ⟨⟨k, b, y⟩, h8, h9⟩ := List.mem_map.1 hm
    simp only at h9
    exact hi (h9 ▸ (h.fdone k b y h8).1)
  · rcases List.mem_cons.1 hm with e | hm
    · cases e
      rw [ho] at hok; cases hok
      exact ⟨by simp [G.lay, hnb], v, (hf.ext hext).tmps hown, fun t ht => ⟨by show t < s'.nt; rw [h2]; exact h6 t ht, by show get s'.tmps t = _; rw [h7 t, if_pos ht]⟩⟩
    · obtain ⟨h8, vv, h9, h10⟩ := h.fwait k b y ok hm hl hok
      obtain ⟨hk, _, hb, _⟩ := h.fdone k b y hm
      exact ⟨by simp only [G.lay]; rw [if_neg (by omega)]; exact h8, vv, (h9.ext hext).tmps (hst hk hok), fun t ht => ⟨by show t < s'.nt; rw [h2]; exact (h10 t ht).1, by show get s'.tmps t = _; rw [hdst hk hok t ht]; exact (h10 t ht).2⟩⟩
  · rcases Ns.mem_add.1 hk with rfl | hk
    · exact hbar
    · exact h.bar k hk hl
  · intro k hk j hj
    have := (h.dcl.add ho (readyA_spec.1 hrd)) k (Ns.mem_add.1 hk) j hj
    exact Ns.mem_add.2 this

theorem recheck_spec {d : Dr} {bf : Nat} : ∀ {l : List Nat} {ps : List PE}, recheck P kn ops d bf l = some ps → (∀ p ∈ ps, p.den I g.env) → g.env.length = d.s.nv → g.nb = d.s.nb → g.wf →
    ∀ q ∈ l, bf.testBit q = false → ∀ o, ops[q]? = some o → ∃ out, outD P kn ops d o = some out ∧ Holds I g d.s o out
  | [], _, _, _, _, _, _, q, hq, _, _, _ => by simp at hq
  | q0 :: l, ps, h, hp, hnv, hnb, hwf, q, hq, hb, o, ho => by
    simp only [recheck] at h
    split at h
    · rename_i hb0
      rcases List.mem_cons.1 hq with rfl | hq
      · rw [hb] at hb0; cases hb0
      · exact recheck_spec h hp hnv hnb hwf q hq hb o ho
    · split at h
      · rename_i o0 ho0
        split at h
        · rename_i ps' h1 h2
          have hps : ps' = ps ∧ ∀ t, o0.dst = some t → t < d.s.nt ∧ get d.s.tmps t = some .undef := by
            split at h
            · rename_i hn; simp at h; exact ⟨h, fun t ht => by rw [hn] at ht; cases ht⟩
            · rename_i t0 hn
              split at h
              · rename_i hu
                split at h
                · rename_i hlt
                  simp at h
                  exact ⟨h, fun t ht => by rw [hn] at ht; cases ht; exact ⟨hlt, hu⟩⟩
                · cases h
              · cases h
          obtain ⟨rfl, hund⟩ := hps
          rcases List.mem_cons.1 hq with rfl | hq
          · rw [ho0] at ho; cases ho
            exact ⟨.skip, h1, hund⟩
          · exact recheck_spec h2 hp hnv hnb hwf q hq hb o ho
        · rename_i v p ps' h1 h2
          have hps : p ++ ps' = ps ∧ ∀ t, o0.dst = some t → t < d.s.nt ∧ ∃ u, get d.s.tmps t = some u ∧ Fix.le { nv := d.s.nv, nb := d.s.nb, kb := d.s.nb, σ := [], ρ := [] } u v = true := by
            split at h
            · rename_i hn; simp at h; exact ⟨h, fun t ht => by rw [hn] at ht; cases ht⟩
            · rename_i t0 hn
              split at h
              · rename_i u hu
                split at h
                · rename_i hlt
                  simp at h
                  exact ⟨h, fun t ht => by rw [hn] at ht; cases ht; exact ⟨hlt.1, u, hu, hlt.2⟩⟩
                · cases h
              · cases h
          obtain ⟨rfl, hval⟩ := hps
          rcases List.mem_cons.1 hq with rfl | hq
          · rw [ho0] at ho; cases ho
            refine ⟨.val v p, h1, fun p' hp' => hp p' (by simp [hp']), fun t ht => ?_⟩
            obtain ⟨h3, u, h4, h5⟩ := hval t ht
            refine ⟨h3, u, h4, fun g' x he hx => ?_⟩
            have hnv' : g'.env.length = d.s.nv := by rw [he.env]; exact hnv
            have hnb' := he.nb
            have hf : Fix.Fits I { nv := d.s.nv, nb := d.s.nb, kb := d.s.nb, σ := [], ρ := [] } g' [] := ⟨rfl, by simp; omega, Nat.le_refl _⟩
            refine (Fix.le_rel hf h5 hx).le ?_ ?_
            · refine ⟨⟨[], by simp [Fix.view, ← hnv']⟩, by simp [Fix.view]; omega, fun b hb => ?_⟩
              simp only [Fix.view] at hb ⊢
              simp [Fix.img, hb]
            · intro b hb
              simp only [Fix.view] at hb ⊢
              simp [Fix.img, Nat.not_lt.2 hb]
          · exact recheck_spec h2 (fun p' hp' => hp p' (by simp [hp'])) hnv hnb hwf q hq hb o ho
        · cases h
      · cases h

theorem firstQ_spec {d : Dr} : ∀ {l : List Nat} {i : Nat} {o : Oper} {x : Out}, firstQ P kn ops d l = some (i, o, x) → i ∈ l ∧ ops[i]? = some o ∧ readyA o d.done = true ∧ isBar ops i = false ∧ outD P kn ops d o = some x
  | [], i, o, x, h => by simp [firstQ] at h
  | i0 :: l, i, o, x, h => by
    simp only [firstQ] at h
    split at h
    · rename_i o0 ho0
      split at h
      · rename_i hr
        simp only [Bool.and_eq_true, Bool.not_eq_true'] at hr
        split at h
        · rename_i x0 hx
          simp at h
          obtain ⟨rfl, rfl, rfl⟩ := h
          exact ⟨by simp, ho0, hr.1, hr.2, hx⟩
        · obtain ⟨h1, h2⟩ := firstQ_spec h; exact ⟨by simp [h1], h2⟩
      · obtain ⟨h1, h2⟩ := firstQ_spec h; exact ⟨by simp [h1], h2⟩
    · obtain ⟨h1, h2⟩ := firstQ_spec h; exact ⟨by simp [h1], h2⟩

theorem firstF_spec {d : Dr} : ∀ {l : List Nat} {i : Nat} {o : Oper} {v : AV} {x : Blk}, firstF P kn ops d l = some (i, o, v, x) → i ∈ l ∧ ops[i]? = some o ∧ isWant (wantedD ops d o) = true ∧ isBar ops i = false ∧ floatOf P kn d.s o.op = some (v, x)
  | [], i, o, v, x, h => by simp [firstF] at h
  | i0 :: l, i, o, v, x, h => by
    simp only [firstF] at h
    split at h
    · rename_i o0 ho0
      split at h
      · rename_i hr
        simp only [Bool.and_eq_true, Bool.not_eq_true'] at hr
        split at h
        · rename_i v0 x0 hx
          simp at h
          obtain ⟨rfl, rfl, rfl, rfl⟩ := h
          exact ⟨by simp, ho0, hr.1, hr.2, hx⟩
        · obtain ⟨h1, h2⟩ := firstF_spec h; exact ⟨by simp [h1], h2⟩
      · obtain ⟨h1, h2⟩ := firstF_spec h; exact ⟨by simp [h1], h2⟩
    · obtain ⟨h1, h2⟩ := firstF_spec h; exact ⟨by simp [h1], h2⟩

theorem readyL_inv {done : Ns} : ∀ {l : List Nat} {j : Nat}, j ∈ readyL ops done l → j ∈ l ∧ ∃ o, ops[j]? = some o ∧ readyA o done = true
  | [], _, h => by simp [readyL] at h
  | i :: l, j, h => by
    simp only [readyL] at h
    split at h
    · rename_i o ho
      split at h
      · rename_i hr
        rcases List.mem_cons.1 h with rfl | h
        · exact ⟨by simp, o, ho, hr⟩
        · obtain ⟨h1, h2⟩ := readyL_inv h; exact ⟨by simp [h1], h2⟩
      · obtain ⟨h1, h2⟩ := readyL_inv h; exact ⟨by simp [h1], h2⟩
    · obtain ⟨h1, h2⟩ := readyL_inv h; exact ⟨by simp [h1], h2⟩

theorem readyL_spec {done : Ns} : ∀ {l : List Nat} {j : Nat} {o : Oper}, j ∈ l → ops[j]? = some o → readyA o done = true → j ∈ readyL ops done l
  | [], _, _, h, _, _ => by simp at h
  | i :: l, j, o, h, ho, hr => by
    simp only [readyL]
    rcases List.mem_cons.1 h with rfl | h
    · rw [ho]; simp [hr]
    · have := readyL_spec h ho hr
      split
      · split
        · exact List.mem_cons_of_mem _ this
        · exact this
      · exact this

theorem bothL_vc {f : Nat → Tree} {env : List D} : ∀ {l : List Nat}, (bothL f l).vc I env → ∀ i ∈ l, (f i).vc I env
  | [], _, i, hi => by simp at hi
  | [j], h, i, hi => by simp at hi; subst hi; exact h
  | j :: k :: l, h, i, hi => by
    rcases List.mem_cons.1 hi with rfl | hi
    · exact h.1
    · exact bothL_vc h.2 i hi
end Go.Sx
