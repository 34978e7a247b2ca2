/-
  A region that draws its order: the executor walks one order for the quiet operations and every order for the others; that this is enough. Conditions: none.
-/
import Derived.Test.YtafipmoglaepcaaSxCall
import Derived.OrdersIn
namespace Go.Sx
open Go

variable {A : Amb} {I : Itp} {P : Program} {g : G} {X : Nat → Prop} {ts : Tmps} {a : Act} {M : Mem} {w : World} {ops : Array Oper}

/-! ### What waits for what -/

theorem maskOf_bit {acc : List Nat} {j : Nat} : ∀ {l : List Edge}, (maskOf acc l).testBit j = true → ∃ e ∈ l, Region.binds .any e = true ∧ (e.on = j ∨ ((acc[e.on]?).getD 0).testBit j = true)
  | [], h => by simp [maskOf] at h
  | e :: l, h => by
    simp only [maskOf] at h
    split at h
    · rename_i hb
      simp only [Nat.testBit_or, Bool.or_eq_true] at h
      rcases h with h | h | h
      · rw [Nat.one_shiftLeft, Nat.testBit_two_pow] at h
        exact ⟨e, by simp, hb, .inl (by simpa using h)⟩
      · exact ⟨e, by simp, hb, .inr h⟩
      · obtain ⟨e', h1, h2⟩ := maskOf_bit h
        exact ⟨e', by simp [h1], h2⟩
    · obtain ⟨e', h1, h2⟩ := maskOf_bit h
      exact ⟨e', by simp [h1], h2⟩

theorem masks_pre : ∀ {l : List Oper} {acc : List Nat} {k u : Nat}, acc[k]? = some u → (masks l acc)[k]? = some u
  | [], acc, k, u, h => h
  | o :: l, acc, k, u, h => by
    simp only [masks]
    refine masks_pre ?_
    rw [List.getElem?_append_left]
    · exact h
    · rcases Nat.lt_or_ge k acc.length with h' | h'
      · exact h'
      · rw [List.getElem?_eq_none (by simpa using h')] at h; cases h

theorem masks_spec : ∀ {l : List Oper} {acc : List Nat} {i v : Nat}, (masks l acc)[i]? = some v →
    acc[i]? = some v ∨ ∃ (o : Oper) (acc' : List Nat), acc.length ≤ i ∧ l[i - acc.length]? = some o ∧ v = maskOf acc' o.after.toList ∧ ∀ (k u : Nat), acc'[k]? = some u → (masks l acc)[k]? = some u
  | [], acc, i, v, h => .inl h
  | o :: l, acc, i, v, h => by
    simp only [masks] at h
    rcases masks_spec h with h1 | ⟨o', acc', h1, h2, h3, h4⟩
    · rcases Nat.lt_or_ge i acc.length with hi | hi
      · rw [List.getElem?_append_left hi] at h1; exact .inl h1
      · rw [List.getElem?_append_right hi] at h1
        have : i = acc.length := by
          rcases Nat.eq_or_lt_of_le hi with h | h
          · exact h.symm
          · rw [List.getElem?_eq_none (by simp; omega)] at h1; cases h1
        subst this
        simp at h1
        exact .inr ⟨o, acc, Nat.le_refl _, by simp, h1.symm, fun k u hk => masks_pre hk⟩
    · simp at h1 h2
      refine .inr ⟨o', acc', by omega, ?_, h3, h4⟩
      rw [show i - acc.length = (i - (acc.length + 1)) + 1 by omega, List.getElem?_cons_succ]
      exact h2

theorem before_bit {i j : Nat} (h : (before ops i).testBit j = true) : ∃ o, ops[i]? = some o ∧ ∃ e ∈ o.after.toList, Region.binds .any e = true ∧ (e.on = j ∨ (before ops e.on).testBit j = true) := by
  unfold before at h
  cases hm : (masks ops.toList [])[i]? with
  | none => rw [hm] at h; simp at h
  | some v =>
    rw [hm] at h
    simp only [Option.getD_some] at h
    rcases masks_spec hm with h1 | ⟨o, acc', _, h2, rfl, h4⟩
    · simp at h1
    · obtain ⟨e, h5, h6, h7⟩ := maskOf_bit h
      refine ⟨o, by simpa using h2, e, h5, h6, h7.imp id fun h8 => ?_⟩
      unfold before
      cases hk : acc'[e.on]? with
      | none => rw [hk] at h8; simp at h8
      | some u => rw [h4 _ _ hk]; rw [hk] at h8; exact h8

/-- What a set of operations must hold with each of its own. -/
def Closed (ops : Array Oper) (S : Nat → Prop) : Prop := ∀ i, S i → ∀ j, (before ops i).testBit j = true → S j

theorem Closed.add {S : Nat → Prop} (h : Closed ops S) {i : Nat} {o : Oper} (ho : ops[i]? = some o) (ha : ∀ e ∈ o.after.toList, Region.binds .any e = true → S e.on) : Closed ops fun k => k = i ∨ S k := by
  intro k hk j hj
  rcases hk with rfl | hk
  · obtain ⟨o', ho', e, h1, h2, h3⟩ := before_bit hj
    rw [ho] at ho'; cases ho'
    have := ha e h1 h2
    rcases h3 with rfl | h3
    · exact .inr this
    · exact .inr (h _ this _ h3)
  · exact .inr (h k hk j hj)

structure DrawOk (ops : Array Oper) : Prop where
  nodup : nodup (dsts ops.toList) = true
  edge : ∀ i o, ops[i]? = some o → ∀ e ∈ o.after.toList, Region.binds .any e = true → e.on < i
  read : ∀ i o j o' d, ops[i]? = some o → ops[j]? = some o' → o'.dst = some d → d ∈ readsOf ops o → (before ops i).testBit j = true

theorem drawOk_spec (h : drawOk ops = true) : DrawOk ops := by
  unfold drawOk at h
  simp only [Bool.and_eq_true, List.all_eq_true, List.mem_range] at h
  obtain ⟨h1, h2⟩ := h
  have lt : ∀ {i : Nat} {o : Oper}, ops[i]? = some o → i < ops.size := fun {i o} h => by
    rcases Nat.lt_or_ge i ops.size with h' | h'
    · exact h'
    · rw [Array.getElem?_eq_none h'] at h; cases h
  refine ⟨h1, fun i o ho e he hb => ?_, fun i o j o' d ho ho' hd hr => ?_⟩
  · have := h2 i (lt ho)
    rw [ho] at this
    simp only [Bool.and_eq_true] at this
    have h3 := this.1.1
    rw [Array.all_eq_true_iff_forall_mem] at h3
    have := h3 e (by simpa using he)
    simpa [hb] using this
  · have := h2 i (lt ho)
    rw [ho] at this
    simp only [Bool.and_eq_true, List.all_eq_true, List.mem_range] at this
    have h3 := this.2 j (lt ho')
    rw [ho'] at h3
    simp only [Option.bind_some, hd, Bool.or_eq_true, Bool.not_eq_true'] at h3
    rcases h3 with h3 | h3
    · rw [← Bool.not_eq_true, List.contains_iff_mem] at h3; exact absurd hr h3
    · exact h3

theorem DrawOk.before_lt (h : DrawOk ops) : ∀ {i j : Nat}, (before ops i).testBit j = true → j < i := by
  intro i
  induction i using Nat.strongRecOn with
  | _ i ih =>
    intro j hj
    obtain ⟨o, ho, e, h1, h2, h3⟩ := before_bit hj
    have hlt := h.edge i o ho e h1 h2
    rcases h3 with rfl | h3
    · exact hlt
    · have := ih _ hlt h3; omega

theorem mem_dsts : ∀ {l : List Oper} {j : Nat} {o : Oper} {d : Nat}, l[j]? = some o → o.dst = some d → d ∈ dsts l
  | x :: l, 0, o, d, h, hd => by simp at h; subst h; simp [dsts, hd]
  | x :: l, j + 1, o, d, h, hd => by
    simp at h
    have := mem_dsts h hd
    simp only [dsts]
    split <;> simp [this]
  | [], _, _, _, h, _ => by simp at h

theorem dsts_inj : ∀ {l : List Oper} {i j : Nat} {o p : Oper} {d : Nat}, nodup (dsts l) = true → l[i]? = some o → l[j]? = some p → o.dst = some d → p.dst = some d → i = j
  | [], i, j, o, p, d, _, h, _, _, _ => by simp at h
  | x :: l, 0, 0, o, p, d, _, _, _, _, _ => rfl
  | x :: l, 0, j + 1, o, p, d, hn, h1, h2, h3, h4 => by
    simp at h1 h2; subst h1
    simp only [dsts, h3, nodup, Bool.and_eq_true, Bool.not_eq_true', ← Bool.not_eq_true, List.contains_iff_mem] at hn
    exact absurd (mem_dsts h2 h4) hn.1
  | x :: l, i + 1, 0, o, p, d, hn, h1, h2, h3, h4 => by
    simp at h1 h2; subst h2
    simp only [dsts, h4, nodup, Bool.and_eq_true, Bool.not_eq_true', ← Bool.not_eq_true, List.contains_iff_mem] at hn
    exact absurd (mem_dsts h1 h3) hn.1
  | x :: l, i + 1, j + 1, o, p, d, hn, h1, h2, h3, h4 => by
    simp at h1 h2
    have : nodup (dsts l) = true := by
      simp only [dsts] at hn
      split at hn
      · simp only [nodup, Bool.and_eq_true] at hn; exact hn.2
      · exact hn
    rw [dsts_inj this h1 h2 h3 h4]

theorem DrawOk.inj (h : DrawOk ops) {i j : Nat} {o p : Oper} {d : Nat} (h1 : ops[i]? = some o) (h2 : ops[j]? = some p) (h3 : o.dst = some d) (h4 : p.dst = some d) : i = j :=
  dsts_inj h.nodup (by simpa using h1) (by simpa using h2) h3 h4

/-! ### A quiet operation that may lag -/

/-- The temporaries that an operation reads hold what the state says. -/
def Reads (I : Itp) (g : G) (ops : Array Oper) (o : Oper) (ts : Tmps) (a : Act) : Prop := ∀ t ∈ readsOf ops o, ∀ v, get ts t = some v → ∃ x, a.tmps[t]? = some x ∧ Rel I g v x

/-- What it would come to now is what the state says of its own temporary. -/
def LagOk (I : Itp) (P : Program) (g : G) (ops : Array Oper) (s : St) (o : Oper) (w : World) : Prop :=
  (∀ d, o.dst = some d → d < s.nt) ∧ ∀ a : Act, Reads I g ops o s.tmps a →
    (Region.wanted o (yielded ops a.tmps) = true → ∀ r : Option Nat, ∃ x, (o.semAt r a.eval).run P w = .ok (.value x) w ∧ ∀ d v, o.dst = some d → get s.tmps d = some v → Rel I g v x) ∧
    (Region.wanted o (yielded ops a.tmps) = false → ∀ d v, o.dst = some d → get s.tmps d = some v → Rel I g v Go.undef)

def Decs (I : Itp) (g : G) (l : List (E × Bool)) : Prop := ∀ c b, getE c l = some b → ∃ n : Int, c.den I g.env = some (.i n) ∧ b = decide (n ≠ 0)

theorem Decs.le {g' : G} (h : g.Le g') {l : List (E × Bool)} (hd : Decs I g l) : Decs I g' l := fun c b hc => let ⟨n, h1, h2⟩ := hd c b hc; ⟨n, E.den_le h h1, h2⟩

theorem wantedD_sound {d : Dr} {o : Oper} (hd : Decs I g d.dec) (hr : Reads I g ops o d.s.tmps a) :
    (wantedD ops d o = some .yes → Region.wanted o (yielded ops a.tmps) = true) ∧ (wantedD ops d o = some .no → Region.wanted o (yielded ops a.tmps) = false) := by
  unfold wantedD Region.wanted
  cases hg : o.guard with
  | none => simp
  | some q =>
    obtain ⟨j, want⟩ := q
    simp only
    cases hj : (ops[j]?).bind (·.dst) with
    | none => simp
    | some t =>
      simp only
      have hm : t ∈ readsOf ops o := by simp only [readsOf, guardT, hg, hj]; simp
      cases ht : get d.s.tmps t with
      | none => simp
      | some v =>
        obtain ⟨x, h1, h2⟩ := hr t hm v ht
        cases v with
        | bool e =>
          obtain ⟨n, h3, rfl⟩ := h2
          rw [yielded_of hj h1]
          simp only
          have fin : ∀ b : Bool, b = decide (n ≠ 0) → ((some (if b == want then Want.yes else .no) = some Want.yes → (some (decide (n ≠ 0)) == some want) = true) ∧ (some (if b == want then Want.yes else .no) = some Want.no → (some (decide (n ≠ 0)) == some want) = false)) := by
            intro b hb
            subst hb
            by_cases hn : n = 0 <;> cases want <;> simp [hn]
          split
          · rename_i m
            simp [E.den] at h3; subst h3
            exact fin _ (by by_cases hn : m = 0 <;> simp [hn])
          · split
            · rename_i b hb
              obtain ⟨n', h4, h5⟩ := hd _ _ hb
              rw [h3] at h4; simp at h4; subst h4
              exact fin b h5
            · simp
        | undef =>
          simp only [Rel] at h2
          subst h2
          have : yielded ops a.tmps j = none := by
            unfold yielded
            rw [hj]
            simp [h1, Go.undef]
          rw [this]
          simp
        | _ => simp

theorem quietD_sound {d : Dr} {o : Oper} {v : AV} {ps : List PE} (hm : MRel A I P g d.s.mem w) (hd : Decs I g d.dec) (hr : Reads I g ops o d.s.tmps a) (h : quietD P d o.op = some (.val v ps)) (hp : ∀ p ∈ ps, p.den I g.env) (r : Option Nat) :
    ∃ x, (o.semAt r a.eval).run P w = .ok (.value x) w ∧ Rel I g v x := by
  have hread : ∀ t, .tmp t ∈ o.op.operands.toList → t ∈ readsOf ops o := by
    have h0 : ∀ {l : List Operand} {t : Nat}, .tmp t ∈ l → t ∈ readsT l := by
      intro l
      induction l with
      | nil => intro t h; simp at h
      | cons x l ih =>
        intro t h
        simp at h
        rcases h with h | h
        · subst h; simp [readsT]
        · have := ih h
          cases x <;> simp [readsT, this]
    intro t ht
    exact List.mem_append_right _ (h0 ht)
  have ht : TRel I g (fun t => t ∉ readsOf ops o) d.s.tmps a.tmps := fun t v hv hx => hr t (Decidable.not_not.1 hx) v hv
  unfold quietD at h
  split at h
  · rename_i t x y hop
    have hev : ∀ {z : Operand} {u : AV}, z ∈ o.op.operands.toList → evalOp d.s.tmps z = some u → Rel I g u (a.eval z) := fun hz hu => evalOp_rel ht hu fun t e hx => hx (hread t (e ▸ hz))
    have hsem : ∀ b : Bool, a.eval (.tmp t) = .bool b → (o.semAt r a.eval).run P w = .ok (.value (if b then a.eval x else a.eval y)) w := by
      intro b hb
      rw [Oper.semAt_eq _ _ _ (fun c hc => by rw [hop] at hc; cases hc)]
      simp only [execOp, hop, hb]
      cases b <;> simp [asBool]
    have hmt : t ∈ readsOf ops o := hread t (by rw [hop]; simp [Op.operands])
    split at h
    · rename_i n hg
      obtain ⟨z, h1, m, h2, rfl⟩ := hr t hmt _ hg
      simp [E.den] at h2; subst h2
      refine ⟨_, hsem (decide (n ≠ 0)) (by simp [Act.eval, h1, Array.getD_eq_getD_getElem?]), ?_⟩
      split at h
      · rename_i hn
        subst hn
        simp at h
        obtain ⟨u, h3, rfl, rfl⟩ := h
        simpa using hev (by rw [hop]; simp [Op.operands]) h3
      · rename_i hn
        simp at h
        obtain ⟨u, h3, rfl, rfl⟩ := h
        simpa [hn] using hev (by rw [hop]; simp [Op.operands]) h3
    · rename_i e _ hg
      obtain ⟨z, h1, m, h2, rfl⟩ := hr t hmt _ hg
      split at h
      · rename_i b hb
        obtain ⟨n', h4, h5⟩ := hd _ _ hb
        rw [h2] at h4; simp at h4; subst h4
        refine ⟨_, hsem (decide (m ≠ 0)) (by simp [Act.eval, h1, Array.getD_eq_getD_getElem?]), ?_⟩
        rw [← h5]
        split at h
        · rename_i hbt
          simp at h
          obtain ⟨u, h3, rfl, rfl⟩ := h
          rw [if_pos hbt]
          exact hev (by rw [hop]; simp [Op.operands]) h3
        · rename_i hbt
          simp at h
          obtain ⟨u, h3, rfl, rfl⟩ := h
          rw [if_neg hbt]
          exact hev (by rw [hop]; simp [Op.operands]) h3
      · simp at h
    · cases h
  · simp only [Option.map_eq_some_iff] at h
    obtain ⟨⟨v', ps'⟩, h1, h2⟩ := h
    cases h2
    obtain ⟨x, h3, h4⟩ := quiet_sound hm ht (fun t ht hx => hx (hread t ht)) h1 hp
    refine ⟨x, ?_, h4⟩
    rw [Oper.semAt_eq _ _ _ (fun c hc => by rw [hc] at h1; simp [quiet] at h1)]
    exact h3

theorem quietD_ne_skip {d : Dr} {o : Op} (h : quietD P d o = some .skip) : False := by
  unfold quietD at h
  split at h
  · split at h
    · split at h <;> simp at h
    · split at h
      · split at h <;> simp at h
      · cases h
    · cases h
  · simp only [Option.map_eq_some_iff] at h
    obtain ⟨⟨v', ps'⟩, _, h2⟩ := h
    cases h2

theorem outD_skip {d : Dr} {o : Oper} (hd : Decs I g d.dec) (h : outD P ops d o = some .skip) (hr : Reads I g ops o d.s.tmps a) : Region.wanted o (yielded ops a.tmps) = false := by
  unfold outD at h
  split at h
  · exact (quietD_ne_skip h).elim
  · rename_i hw; exact (wantedD_sound hd hr).2 hw
  · cases h
  · cases h

theorem outD_val {d : Dr} {o : Oper} {v : AV} {ps : List PE} (hm : MRel A I P g d.s.mem w) (hd : Decs I g d.dec) (h : outD P ops d o = some (.val v ps)) (hp : ∀ p ∈ ps, p.den I g.env) (hr : Reads I g ops o d.s.tmps a) :
    Region.wanted o (yielded ops a.tmps) = true ∧ ∀ r : Option Nat, ∃ x, (o.semAt r a.eval).run P w = .ok (.value x) w ∧ Rel I g v x := by
  unfold outD at h
  split at h
  · rename_i hw; exact ⟨(wantedD_sound hd hr).1 hw, quietD_sound hm hd hr h hp⟩
  · cases h
  · cases h
  · cases h

/-- What an operation's temporary must hold for its result. -/
def Holds (I : Itp) (g : G) (s : St) (o : Oper) : Out → Prop
  | .skip => ∀ t, o.dst = some t → t < s.nt ∧ get s.tmps t = some .undef
  | .val v ps => (∀ p ∈ ps, p.den I g.env) ∧ ∀ t, o.dst = some t → t < s.nt ∧ ∃ u, get s.tmps t = some u ∧ ∀ x, Rel I g v x → Rel I g u x
  | .dec _ => False

theorem LagOk.of_out {d : Dr} {o : Oper} {out : Out} {s : St} (hm : MRel A I P g d.s.mem w) (hd : Decs I g d.dec) (h : outD P ops d o = some out) (hs : ∀ t ∈ readsOf ops o, get s.tmps t = get d.s.tmps t) (hh : Holds I g s o out) :
    LagOk I P g ops s o w := by
  have hr : ∀ {a : Act}, Reads I g ops o s.tmps a → Reads I g ops o d.s.tmps a := fun h t ht v hv => h t ht v (by rw [hs t ht]; exact hv)
  cases out with
  | skip =>
    refine ⟨fun t ht => (hh t ht).1, fun a ha => ⟨fun hw => ?_, fun _ t v ht hv => ?_⟩⟩
    · rw [outD_skip hd h (hr ha)] at hw; cases hw
    · rw [(hh t ht).2] at hv; cases hv; rfl
  | val v ps =>
    obtain ⟨hp, hh⟩ := hh
    refine ⟨fun t ht => (hh t ht).1, fun a ha => ?_⟩
    obtain ⟨h1, h2⟩ := outD_val hm hd h hp (hr ha)
    refine ⟨fun _ r => ?_, fun hw => by rw [h1] at hw; cases hw⟩
    obtain ⟨x, h3, h4⟩ := h2 r
    refine ⟨x, h3, fun t u ht hu => ?_⟩
    obtain ⟨_, u', h5, h6⟩ := hh t ht
    rw [hu] at h5; cases h5
    exact h6 x h4
  | dec c => exact hh.elim

/-! ### The state of a walk -/

def Lagging (ops : Array Oper) (done : List Nat) (listed : Array Bool) (t : Nat) : Prop := ∃ i o, i ∈ done ∧ listed.getD i false = false ∧ ops[i]? = some o ∧ o.dst = some t

structure DInv (A : Amb) (I : Itp) (P : Program) (ops : Array Oper) (g : G) (d : Dr) (listed : Array Bool) (a : Act) (w : World) : Prop where
  sr : SRel A I P (Lagging ops d.done listed) g d.s a w
  size : listed.size = ops.size
  sub : ∀ i, listed.getD i false = true → i ∈ d.done
  qs : ∀ i ∈ d.done, listed.getD i false = false → i ∈ d.qs
  lag : ∀ i o, i ∈ d.done → listed.getD i false = false → ops[i]? = some o → LagOk I P g ops d.s o w
  dec : Decs I g d.dec
  dcl : Closed ops (· ∈ d.done)
  lcl : Closed ops (fun i => listed.getD i false = true)

theorem SRel.weaken {X Y : Nat → Prop} {s : St} (h : SRel A I P X g s a w) (hXY : ∀ t, X t → Y t) : SRel A I P Y g s a w :=
  ⟨h.m, fun t v ht hy => h.t t v ht fun hx => hy (hXY t hx), h.nt, h.d, h.nv, h.nb⟩

theorem getD_set {l : Array Bool} {j i : Nat} (hj : j < l.size) : (l.setIfInBounds j true).getD i false = if i = j then true else l.getD i false := by
  by_cases h : i = j
  · subst h; simp [Array.getD_eq_getD_getElem?, hj]
  · rw [if_neg h]; simp [Array.getD_eq_getD_getElem?, Array.getElem?_setIfInBounds_ne (Ne.symm h)]

theorem lt_of_getElem? {j : Nat} {o : Oper} (ho : ops[j]? = some o) : j < ops.size := (Array.getElem?_eq_some_iff.1 ho).1

theorem DInv.reads {d : Dr} {listed : Array Bool} (hD : DrawOk ops) (h : DInv A I P ops g d listed a w) {j : Nat} {o : Oper} (ho : ops[j]? = some o)
    (ha : ∀ e ∈ o.after.toList, Region.binds .any e = true → listed.getD e.on false = true) : ∀ t ∈ readsOf ops o, ¬ Lagging ops d.done listed t := by
  rintro t ht ⟨i, oi, h1, h2, h3, h4⟩
  have hb := hD.read j o i oi t ho h3 h4 ht
  obtain ⟨o', ho', e, h5, h6, h7⟩ := before_bit hb
  rw [ho] at ho'; cases ho'
  have h8 := ha e h5 h6
  rcases h7 with rfl | h7
  · rw [h8] at h2; cases h2
  · have := h.lcl _ h8 _ h7
    simp only at this
    rw [this] at h2; cases h2

theorem DInv.reads' {d : Dr} {listed : Array Bool} (hD : DrawOk ops) (h : DInv A I P ops g d listed a w) {j : Nat} {o : Oper} (ho : ops[j]? = some o)
    (ha : ∀ e ∈ o.after.toList, Region.binds .any e = true → listed.getD e.on false = true) : Reads I g ops o d.s.tmps a := fun t ht v hv => h.sr.t t v hv (h.reads hD ho ha t ht)

theorem DInv.listed_cl {d : Dr} {listed : Array Bool} (h : DInv A I P ops g d listed a w) {j : Nat} {o : Oper} (ho : ops[j]? = some o)
    (ha : ∀ e ∈ o.after.toList, Region.binds .any e = true → listed.getD e.on false = true) : Closed ops fun i => (listed.setIfInBounds j true).getD i false = true := by
  have hj : j < listed.size := by rw [h.size]; exact lt_of_getElem? ho
  have := h.lcl.add ho ha
  intro i hi k hk
  rw [getD_set hj] at hi ⊢
  have h1 := this i (by
    split at hi
    · rename_i e; exact .inl e
    · exact .inr hi) k hk
  rcases h1 with rfl | h1
  · simp
  · split
    · rfl
    · exact h1

/-- A quiet operation that lagged is done. -/
theorem DInv.catch_up {d : Dr} {listed : Array Bool} (_hD : DrawOk ops) (h : DInv A I P ops g d listed a w) {j : Nat} {o : Oper} (ho : ops[j]? = some o) (hj : j ∈ d.done)
    (ha : ∀ e ∈ o.after.toList, Region.binds .any e = true → listed.getD e.on false = true) (hnt : ∀ t, o.dst = some t → t < d.s.nt) {x : Value}
    (hx : ∀ t v, o.dst = some t → get d.s.tmps t = some v → Rel I g v x) : DInv A I P ops g d (listed.setIfInBounds j true) (a.put o.dst x) w := by
  have hjl : j < listed.size := by rw [h.size]; exact lt_of_getElem? ho
  refine ⟨⟨h.sr.m, fun t v hv ht => ?_, ?_, ?_, h.sr.nv, h.sr.nb⟩, by simpa using h.size, fun i hi => ?_, fun i hi hl => ?_, fun i oi hi hl hoi => ?_, h.dec, h.dcl, h.listed_cl ho ha⟩
  · by_cases hd : o.dst = some t
    · refine ⟨x, ?_, hx t v hd hv⟩
      have hsz : t < a.tmps.size := by rw [h.sr.nt]; exact hnt t hd
      simp [Act.put, hd, hsz]
    · have hnl : ¬ Lagging ops d.done listed t := by
        rintro ⟨i, oi, h1, h2, h3, h4⟩
        by_cases hij : i = j
        · subst hij; rw [ho] at h3; cases h3; exact hd h4
        · exact ht ⟨i, oi, h1, by rw [getD_set hjl, if_neg hij]; exact h2, h3, h4⟩
      obtain ⟨y, h1, h2⟩ := h.sr.t t v hv hnl
      refine ⟨y, ?_, h2⟩
      cases hdd : o.dst with
      | none => simpa [Act.put] using h1
      | some t' =>
        have : t' ≠ t := fun e => hd (by rw [hdd, e])
        simp [Act.put, Array.getElem?_setIfInBounds_ne this, h1]
  · have := h.sr.nt
    cases hdd : o.dst <;> simp [Act.put, this]
  · have := h.sr.d
    cases hdd : o.dst <;> simpa [Act.put] using this
  · rw [getD_set hjl] at hi
    split at hi
    · rename_i e; subst e; exact hj
    · exact h.sub i hi
  · rw [getD_set hjl] at hl
    split at hl
    · cases hl
    · exact h.qs i hi hl
  · rw [getD_set hjl] at hl
    split at hl
    · cases hl
    · exact h.lag i oi hi hl hoi

theorem setT_spec {s s' : St} {dst : Option Tmp} {v : AV} (h : setT s dst v = some s') :
    s'.mem = s.mem ∧ s'.nt = s.nt ∧ s'.defers = s.defers ∧ s'.nv = s.nv ∧ s'.nb = s.nb ∧ (∀ t, dst = some t → t < s.nt) ∧ ∀ t, get s'.tmps t = if dst = some t then some v else get s.tmps t := by
  unfold Sx.setT at h
  cases dst with
  | none => simp at h; subst h; simp
  | some d =>
    simp only at h
    split at h
    · rename_i hd
      simp at h; subst h
      refine ⟨rfl, rfl, rfl, rfl, rfl, fun t ht => by cases ht; exact hd, fun t => ?_⟩
      rw [get_put]
      by_cases ht : d = t
      · subst ht; simp
      · rw [if_neg ht, if_neg (by simp; exact ht)]
    · cases h

theorem readyA_spec {o : Oper} {done : List Nat} : readyA o done = true ↔ ∀ e ∈ o.after.toList, Region.binds .any e = true → e.on ∈ done := by
  unfold readyA
  rw [Array.all_eq_true_iff_forall_mem]
  constructor
  · intro h e he hb
    have := h e (by simpa using he)
    simpa [hb, List.contains_iff_mem] using this
  · intro h e he
    have := h e (by simpa using he)
    by_cases hb : Region.binds .any e = true
    · simp [this hb]
    · simp [hb]

/-- The executor does a quiet operation ahead. -/
theorem DInv.ahead {d : Dr} {listed : Array Bool} (hD : DrawOk ops) (h : DInv A I P ops g d listed a w) {i : Nat} {o : Oper} (ho : ops[i]? = some o) (hi : i ∉ d.done) (hrd : readyA o d.done = true)
    {v : AV} {s' : St} (hset : setT d.s o.dst v = some s') {out : Out} (hout : outD P ops d o = some out) (hh : Holds I g s' o out) :
    DInv A I P ops g { d with s := s', done := i :: d.done, qs := i :: d.qs } listed a w := by
  obtain ⟨h1, h2, h3, h4, h5, h6, h7⟩ := setT_spec hset
  have hnl : listed.getD i false = false := by
    cases hl : listed.getD i false with
    | false => rfl
    | true => exact absurd (h.sub i hl) hi
  have hown : ∀ t ∈ readsOf ops o, get s'.tmps t = get d.s.tmps t := fun t ht => by
    rw [h7 t, if_neg]
    intro e
    have := hD.before_lt (hD.read i o i o t ho ho e ht)
    omega
  refine ⟨⟨by rw [h1]; exact h.sr.m, fun t u hu ht => ?_, by rw [h2]; exact h.sr.nt, by rw [h3]; exact h.sr.d, by rw [h4]; exact h.sr.nv, by rw [h5]; exact h.sr.nb⟩, h.size, fun k hk => List.mem_cons_of_mem _ (h.sub k hk), fun k hk hl => ?_, fun k ok hk hl hok => ?_, h.dec, ?_, h.lcl⟩
  · have hne : o.dst ≠ some t := fun e => ht ⟨i, o, by simp, hnl, ho, e⟩
    have hu : get s'.tmps t = some u := hu
    rw [h7 t, if_neg hne] at hu
    exact h.sr.t t u hu fun ⟨k, ok, hk1, hk2, hk3, hk4⟩ => ht ⟨k, ok, by simp [hk1], hk2, hk3, hk4⟩
  · rcases List.mem_cons.1 hk with rfl | hk
    · simp
    · exact List.mem_cons_of_mem _ (h.qs k hk hl)
  · rcases List.mem_cons.1 hk with rfl | hk
    · rw [ho] at hok; cases hok
      exact LagOk.of_out h.sr.m h.dec hout hown hh
    · obtain ⟨h8, h9⟩ := h.lag k ok hk hl hok
      have hst : ∀ t ∈ readsOf ops ok, get s'.tmps t = get d.s.tmps t := fun t ht => by
        rw [h7 t, if_neg]
        intro e
        exact hi (h.dcl k hk i (hD.read k ok i o t hok ho e ht))
      have hdst : ∀ t, ok.dst = some t → get s'.tmps t = get d.s.tmps t := fun t ht => by
        rw [h7 t, if_neg]
        intro e
        have := hD.inj ho hok e ht
        subst this; exact hi hk
      refine ⟨fun t ht => by show t < s'.nt; rw [h2]; exact h8 t ht, fun a' ha' => ?_⟩
      obtain ⟨h10, h11⟩ := h9 a' fun t ht u hu => ha' t ht u (by show get s'.tmps t = some u; rw [hst t ht]; exact hu)
      refine ⟨fun hw r => ?_, fun hw t u ht hu => h11 hw t u ht (by rw [← hdst t ht]; exact hu)⟩
      obtain ⟨x, h12, h13⟩ := h10 hw r
      exact ⟨x, h12, fun t u ht hu => h13 t u ht (by rw [← hdst t ht]; exact hu)⟩
  · intro k hk j hj
    have := (h.dcl.add ho (readyA_spec.1 hrd)) k (List.mem_cons.1 hk) j hj
    exact List.mem_cons.2 this

theorem recheck_spec {d : Dr} {bf : Nat} : ∀ {l : List Nat} {ps : List PE}, recheck P ops d bf l = some ps → (∀ p ∈ ps, p.den I g.env) → g.env.length = d.s.nv → g.nb = d.s.nb → g.wf →
    ∀ q ∈ l, bf.testBit q = false → ∀ o, ops[q]? = some o → ∃ out, outD P ops d o = some out ∧ Holds I g d.s o out
  | [], _, _, _, _, _, _, q, hq, _, _, _ => by simp at hq
  | q0 :: l, ps, h, hp, hnv, hnb, hwf, q, hq, hb, o, ho => by
    simp only [recheck] at h
    split at h
    · rename_i hb0
      rcases List.mem_cons.1 hq with rfl | hq
      · rw [hb] at hb0; cases hb0
      · exact recheck_spec h hp hnv hnb hwf q hq hb o ho
    · split at h
      · rename_i o0 ho0
        split at h
        · rename_i ps' h1 h2
          have hps : ps' = ps ∧ ∀ t, o0.dst = some t → t < d.s.nt ∧ get d.s.tmps t = some .undef := by
            split at h
            · rename_i hn; simp at h; exact ⟨h, fun t ht => by rw [hn] at ht; cases ht⟩
            · rename_i t0 hn
              split at h
              · rename_i hu
                split at h
                · rename_i hlt
                  simp at h
                  exact ⟨h, fun t ht => by rw [hn] at ht; cases ht; exact ⟨hlt, hu⟩⟩
                · cases h
              · cases h
          obtain ⟨rfl, hund⟩ := hps
          rcases List.mem_cons.1 hq with rfl | hq
          · rw [ho0] at ho; cases ho
            exact ⟨.skip, h1, hund⟩
          · exact recheck_spec h2 hp hnv hnb hwf q hq hb o ho
        · rename_i v p ps' h1 h2
          have hps : p ++ ps' = ps ∧ ∀ t, o0.dst = some t → t < d.s.nt ∧ ∃ u, get d.s.tmps t = some u ∧ Fix.le { nv := d.s.nv, nb := d.s.nb, kb := d.s.nb, σ := [], ρ := [] } u v = true := by
            split at h
            · rename_i hn; simp at h; exact ⟨h, fun t ht => by rw [hn] at ht; cases ht⟩
            · rename_i t0 hn
              split at h
              · rename_i u hu
                split at h
                · rename_i hlt
                  simp at h
                  exact ⟨h, fun t ht => by rw [hn] at ht; cases ht; exact ⟨hlt.1, u, hu, hlt.2⟩⟩
                · cases h
              · cases h
          obtain ⟨rfl, hval⟩ := hps
          rcases List.mem_cons.1 hq with rfl | hq
          · rw [ho0] at ho; cases ho
            refine ⟨.val v p, h1, fun p' hp' => hp p' (by simp [hp']), fun t ht => ?_⟩
            obtain ⟨h3, u, h4, h5⟩ := hval t ht
            refine ⟨h3, u, h4, fun x hx => ?_⟩
            have hf : Fix.Fits I { nv := d.s.nv, nb := d.s.nb, kb := d.s.nb, σ := [], ρ := [] } g [] := ⟨rfl, by simp; omega, Nat.le_refl _⟩
            refine (Fix.le_rel hf h5 hx).le ?_ ?_
            · refine ⟨⟨[], by simp [Fix.view, ← hnv]⟩, by simp [Fix.view]; omega, fun b hb => ?_⟩
              simp only [Fix.view] at hb ⊢
              simp [Fix.img, hb]
            · intro b hb
              simp only [Fix.view] at hb ⊢
              simp [Fix.img, Nat.not_lt.2 hb]
          · exact recheck_spec h2 (fun p' hp' => hp p' (by simp [hp'])) hnv hnb hwf q hq hb o ho
        · cases h
      · cases h

theorem firstQ_spec {d : Dr} : ∀ {l : List Nat} {i : Nat} {o : Oper} {x : Out}, firstQ P ops d l = some (i, o, x) → i ∈ l ∧ ops[i]? = some o ∧ readyA o d.done = true ∧ outD P ops d o = some x
  | [], i, o, x, h => by simp [firstQ] at h
  | i0 :: l, i, o, x, h => by
    simp only [firstQ] at h
    split at h
    · rename_i o0 ho0
      split at h
      · rename_i hr
        split at h
        · rename_i x0 hx
          simp at h
          obtain ⟨rfl, rfl, rfl⟩ := h
          exact ⟨by simp, ho0, hr, hx⟩
        · obtain ⟨h1, h2⟩ := firstQ_spec h; exact ⟨by simp [h1], h2⟩
      · obtain ⟨h1, h2⟩ := firstQ_spec h; exact ⟨by simp [h1], h2⟩
    · obtain ⟨h1, h2⟩ := firstQ_spec h; exact ⟨by simp [h1], h2⟩

theorem readyL_spec {done : List Nat} : ∀ {l : List Nat} {j : Nat} {o : Oper}, j ∈ l → ops[j]? = some o → readyA o done = true → j ∈ readyL ops done l
  | [], _, _, h, _, _ => by simp at h
  | i :: l, j, o, h, ho, hr => by
    simp only [readyL]
    rcases List.mem_cons.1 h with rfl | h
    · rw [ho]; simp [hr]
    · have := readyL_spec h ho hr
      split
      · split
        · exact List.mem_cons_of_mem _ this
        · exact this
      · exact this

theorem bothL_vc {f : Nat → Tree} {env : List D} : ∀ {l : List Nat}, (bothL f l).vc I env → ∀ i ∈ l, (f i).vc I env
  | [], _, i, hi => by simp at hi
  | [j], h, i, hi => by simp at hi; subst hi; exact h
  | j :: k :: l, h, i, hi => by
    rcases List.mem_cons.1 hi with rfl | hi
    · exact h.1
    · exact bothL_vc h.2 i hi
end Go.Sx
