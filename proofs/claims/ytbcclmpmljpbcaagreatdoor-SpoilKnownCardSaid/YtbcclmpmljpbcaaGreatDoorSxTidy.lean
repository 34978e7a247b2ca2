/-
  A tree, tidied: what is known is not asked again; the rest stays. Conditions: none.
-/
import Derived.Test.YtbcclmpmljpbcaaGreatDoorSxUse
noncomputable section
namespace Go.Sx
open Go

variable {I : Itp}

/-- The sort of a term; fs: the sorts of the functions that are total. -/
def E.sortOf (fs : Nat → Option Bool) (ss : List Bool) : E → Option Bool
  | .lit _ => some false
  | .var i => ss[i]?
  | .bin _ a b => if a.sortOf fs ss = some false ∧ b.sortOf fs ss = some false then some false else none
  | .wrap _ a => if a.sortOf fs ss = some false then some false else none
  | .zt => some true
  | .kt _ => some true
  | .bt _ => some true
  | .sel t r _ => if t.sortOf fs ss = some true ∧ r.sortOf fs ss = some false then some false else none
  | .upd t r _ v => if t.sortOf fs ss = some true ∧ r.sortOf fs ss = some false ∧ v.sortOf fs ss = some false then some true else none
  | .cat t n u => if t.sortOf fs ss = some true ∧ n.sortOf fs ss = some false ∧ u.sortOf fs ss = some true then some true else none
  | .sh t n => if t.sortOf fs ss = some true ∧ n.sortOf fs ss = some false then some true else none
  | .teq t n u m => if (t.sortOf fs ss = some true ∧ n.sortOf fs ss = some false) ∧ u.sortOf fs ss = some true ∧ m.sortOf fs ss = some false then some false else none
  | .fn j a b c d => if (a.sortOf fs ss).isSome ∧ (b.sortOf fs ss).isSome ∧ (c.sortOf fs ss).isSome ∧ (d.sortOf fs ss).isSome then fs j else none

def D.is : Bool → D → Prop
  | true, .t _ => True
  | false, .i _ => True
  | _, _ => False
theorem D.is_i {d : D} (h : d.is false) : ∃ n, d = .i n := by cases d with | i n => exact ⟨n, rfl⟩ | t f => exact h.elim
theorem D.is_t {d : D} (h : d.is true) : ∃ f, d = .t f := by cases d with | i n => exact h.elim | t f => exact ⟨f, rfl⟩

def Itp.tot (I : Itp) (fs : Nat → Option Bool) : Prop := ∀ j s, fs j = some s → ∀ a b c d, ∃ x, I.ap j a b c d = some x ∧ x.is s

theorem Sorts.get : ∀ {ss : List Bool} {env : List D} {i : Nat} {b : Bool}, Sorts ss env → ss[i]? = some b → ∃ d, env[i]? = some d ∧ d.is b
  | true :: l, .t f :: m, 0, b, _, h => by simp at h; subst h; exact ⟨_, rfl, trivial⟩
  | false :: l, .i f :: m, 0, b, _, h => by simp at h; subst h; exact ⟨_, rfl, trivial⟩
  | true :: l, .t f :: m, i + 1, b, hs, h => by simpa using Sorts.get (ss := l) (env := m) (i := i) hs (by simpa using h)
  | false :: l, .i f :: m, i + 1, b, hs, h => by simpa using Sorts.get (ss := l) (env := m) (i := i) hs (by simpa using h)
  | [], [], _, _, _, h => by simp at h
  | [], _ :: _, _, _, h, _ => h.elim
  | true :: _, [], _, _, h, _ => h.elim
  | false :: _, [], _, _, h, _ => h.elim
  | true :: _, .i _ :: _, _, _, h, _ => h.elim
  | false :: _, .t _ :: _, _, _, h, _ => h.elim
theorem Sorts.app : ∀ {ss : List Bool} {env : List D} {b : Bool} {d : D}, Sorts ss env → d.is b → Sorts (ss ++ [b]) (env ++ [d])
  | [], [], true, .t _, _, _ => trivial
  | [], [], false, .i _, _, _ => trivial
  | [], [], true, .i _, _, h => h.elim
  | [], [], false, .t _, _, h => h.elim
  | true :: l, .t _ :: m, _, _, hs, h => Sorts.app (ss := l) (env := m) hs h
  | false :: l, .i _ :: m, _, _, hs, h => Sorts.app (ss := l) (env := m) hs h
  | [], _ :: _, _, _, h, _ => h.elim
  | true :: _, [], _, _, h, _ => h.elim
  | false :: _, [], _, _, h, _ => h.elim
  | true :: _, .i _ :: _, _, _, h, _ => h.elim
  | false :: _, .t _ :: _, _, _, h, _ => h.elim

theorem E.sortOf_den {fs : Nat → Option Bool} (hI : I.tot fs) {ss : List Bool} {env : List D} (hs : Sorts ss env) : ∀ {e : E} {b : Bool}, e.sortOf fs ss = some b → ∃ d, e.den I env = some d ∧ d.is b := by
  intro e
  induction e with
  | lit n => intro b h; simp only [E.sortOf, Option.some.injEq] at h; subst h; exact ⟨_, rfl, trivial⟩
  | zt => intro b h; simp only [E.sortOf, Option.some.injEq] at h; subst h; exact ⟨_, rfl, trivial⟩
  | kt row => intro b h; simp only [E.sortOf, Option.some.injEq] at h; subst h; exact ⟨_, rfl, trivial⟩
  | bt b' => intro b h; simp only [E.sortOf, Option.some.injEq] at h; subst h; exact ⟨_, rfl, trivial⟩
  | var i => intro b h; exact hs.get h
  | bin o x y ihx ihy =>
    intro b h
    simp only [E.sortOf] at h
    split at h
    · rename_i hc
      cases h
      obtain ⟨d1, h1, k1⟩ := ihx hc.1
      obtain ⟨d2, h2, k2⟩ := ihy hc.2
      obtain ⟨n1, rfl⟩ := D.is_i k1
      obtain ⟨n2, rfl⟩ := D.is_i k2
      exact ⟨.i (o.ev n1 n2), by simp [E.den, h1, h2], trivial⟩
    · cases h
  | wrap k x ihx =>
    intro b h
    simp only [E.sortOf] at h
    split at h
    · rename_i hc
      cases h
      obtain ⟨d1, h1, k1⟩ := ihx hc
      obtain ⟨n1, rfl⟩ := D.is_i k1
      exact ⟨.i (k.wrap n1), by simp [E.den, h1], trivial⟩
    · cases h
  | sel t r c iht ihr =>
    intro b h
    simp only [E.sortOf] at h
    split at h
    · rename_i hc
      cases h
      obtain ⟨d1, h1, k1⟩ := iht hc.1
      obtain ⟨d2, h2, k2⟩ := ihr hc.2
      obtain ⟨f, rfl⟩ := D.is_t k1
      obtain ⟨n2, rfl⟩ := D.is_i k2
      exact ⟨.i (f n2 c), by simp [E.den, h1, h2], trivial⟩
    · cases h
  | upd t r c v iht ihr ihv =>
    intro b h
    simp only [E.sortOf] at h
    split at h
    · rename_i hc
      cases h
      obtain ⟨d1, h1, k1⟩ := iht hc.1
      obtain ⟨d2, h2, k2⟩ := ihr hc.2.1
      obtain ⟨d3, h3, k3⟩ := ihv hc.2.2
      obtain ⟨f, rfl⟩ := D.is_t k1
      obtain ⟨n2, rfl⟩ := D.is_i k2
      obtain ⟨n3, rfl⟩ := D.is_i k3
      exact ⟨.t (tupd f n2 c n3), by simp only [E.den, h1, h2, h3], trivial⟩
    · cases h
  | cat t n u iht ihr ihv =>
    intro b h
    simp only [E.sortOf] at h
    split at h
    · rename_i hc
      cases h
      obtain ⟨d1, h1, k1⟩ := iht hc.1
      obtain ⟨d2, h2, k2⟩ := ihr hc.2.1
      obtain ⟨d3, h3, k3⟩ := ihv hc.2.2
      obtain ⟨f, rfl⟩ := D.is_t k1
      obtain ⟨n2, rfl⟩ := D.is_i k2
      obtain ⟨f3, rfl⟩ := D.is_t k3
      exact ⟨.t (tcat f n2 f3), by simp only [E.den, h1, h2, h3], trivial⟩
    · cases h
  | sh t n iht ihn =>
    intro b h
    simp only [E.sortOf] at h
    split at h
    · rename_i hc
      cases h
      obtain ⟨d1, h1, k1⟩ := iht hc.1
      obtain ⟨d2, h2, k2⟩ := ihn hc.2
      obtain ⟨f, rfl⟩ := D.is_t k1
      obtain ⟨n2, rfl⟩ := D.is_i k2
      exact ⟨.t fun r c => f (r + n2) c, by simp [E.den, h1, h2], trivial⟩
    · cases h
  | teq t n u m iht ihn ihu ihm =>
    intro b h
    simp only [E.sortOf] at h
    split at h
    · rename_i hc
      cases h
      obtain ⟨d1, h1, k1⟩ := iht hc.1.1
      obtain ⟨d2, h2, k2⟩ := ihn hc.1.2
      obtain ⟨d3, h3, k3⟩ := ihu hc.2.1
      obtain ⟨d4, h4, k4⟩ := ihm hc.2.2
      obtain ⟨f, rfl⟩ := D.is_t k1
      obtain ⟨n2, rfl⟩ := D.is_i k2
      obtain ⟨f3, rfl⟩ := D.is_t k3
      obtain ⟨n4, rfl⟩ := D.is_i k4
      exact ⟨.i (strEq f n2 f3 n4), by simp only [E.den, h1, h2, h3, h4], trivial⟩
    · cases h
  | fn j x y z u ihx ihy ihz ihu =>
    intro b h
    simp only [E.sortOf] at h
    split at h
    · rename_i hc
      obtain ⟨h1, h2, h3, h4⟩ := hc
      obtain ⟨b1, h1⟩ := Option.isSome_iff_exists.1 h1
      obtain ⟨b2, h2⟩ := Option.isSome_iff_exists.1 h2
      obtain ⟨b3, h3⟩ := Option.isSome_iff_exists.1 h3
      obtain ⟨b4, h4⟩ := Option.isSome_iff_exists.1 h4
      obtain ⟨d1, g1, _⟩ := ihx h1
      obtain ⟨d2, g2, _⟩ := ihy h2
      obtain ⟨d3, g3, _⟩ := ihz h3
      obtain ⟨d4, g4, _⟩ := ihu h4
      obtain ⟨x, hx, hx'⟩ := hI j b h d1 d2 d3 d4
      exact ⟨x, by simp only [E.den, g1, g2, g3, g4]; exact hx, hx'⟩
    · cases h

/-! ### One form for each fact -/

def PE.tf : Bool → E → PE
  | true, e => .tt e
  | false, e => .ff e

def flip1 (o : BO) (a b : E) : PE :=
  match o with
  | .lt => .tt (.bin .le b a)
  | .le => .tt (.bin .lt b a)
  | .eq => .tt (.bin .ne a b)
  | .ne => .tt (.bin .eq a b)
  | o => .ff (.bin o a b)

def E.flat (s : Bool) : E → List PE
  | .bin o a b =>
    if s = true ∧ o = .and then a.flat true ++ b.flat true
    else if s = false ∧ o = .or then a.flat false ++ b.flat false
    else if o = .eq ∧ b = .lit 0 then a.flat (!s)
    else if o = .ne ∧ b = .lit 0 then a.flat s
    else if s = true then [.tt (.bin o a b)] else [flip1 o a b]
  | e => [.tf s e]

theorem tt_bin {env : List D} {o : BO} {a b : E} : (PE.tt (.bin o a b)).den I env ↔ ∃ x y, a.den I env = some (.i x) ∧ b.den I env = some (.i y) ∧ o.ev x y ≠ 0 := by
  constructor
  · rintro ⟨n, h1, h2⟩
    simp only [E.den] at h1
    split at h1
    · rename_i x y hx hy; simp only [Option.some.injEq, D.i.injEq] at h1; exact ⟨x, y, hx, hy, by rw [h1]; exact h2⟩
    · cases h1
  · rintro ⟨x, y, hx, hy, h⟩
    exact ⟨o.ev x y, by simp [E.den, hx, hy], h⟩
theorem ff_bin {env : List D} {o : BO} {a b : E} : (PE.ff (.bin o a b)).den I env ↔ ∃ x y, a.den I env = some (.i x) ∧ b.den I env = some (.i y) ∧ o.ev x y = 0 := by
  constructor
  · intro h1
    simp only [PE.den, E.den] at h1
    split at h1
    · rename_i x y hx hy; simp only [Option.some.injEq, D.i.injEq] at h1; exact ⟨x, y, hx, hy, h1⟩
    · cases h1
  · rintro ⟨x, y, hx, hy, h⟩
    simp [PE.den, E.den, hx, hy, h]
theorem tt_i {env : List D} {a : E} : (PE.tt a).den I env ↔ ∃ x, a.den I env = some (.i x) ∧ x ≠ 0 := Iff.rfl
theorem ff_i {env : List D} {a : E} : (PE.ff a).den I env ↔ a.den I env = some (.i 0) := Iff.rfl

theorem flip1_den {env : List D} {o : BO} {a b : E} : (flip1 o a b).den I env ↔ (PE.ff (.bin o a b)).den I env := by
  have key : ∀ (o' : BO) (h : ∀ x y, o'.ev x y ≠ 0 ↔ o.ev x y = 0), (PE.tt (.bin o' a b)).den I env ↔ (PE.ff (.bin o a b)).den I env := by
    intro o' h
    rw [tt_bin, ff_bin]
    constructor
    · rintro ⟨x, y, h1, h2, h3⟩; exact ⟨x, y, h1, h2, (h x y).1 h3⟩
    · rintro ⟨x, y, h1, h2, h3⟩; exact ⟨x, y, h1, h2, (h x y).2 h3⟩
  have key2 : ∀ (o' : BO) (h : ∀ x y, o'.ev y x ≠ 0 ↔ o.ev x y = 0), (PE.tt (.bin o' b a)).den I env ↔ (PE.ff (.bin o a b)).den I env := by
    intro o' h
    rw [tt_bin, ff_bin]
    constructor
    · rintro ⟨x, y, h1, h2, h3⟩; exact ⟨y, x, h2, h1, (h y x).1 h3⟩
    · rintro ⟨x, y, h1, h2, h3⟩; exact ⟨y, x, h2, h1, (h x y).2 h3⟩
  cases o with
  | lt => exact key2 .le fun x y => by simp only [BO.ev]; split <;> split <;> simp <;> omega
  | le => exact key2 .lt fun x y => by simp only [BO.ev]; split <;> split <;> simp <;> omega
  | eq => exact key .ne fun x y => by simp only [BO.ev]; split <;> simp
  | ne => exact key .eq fun x y => by simp only [BO.ev]; split <;> simp
  | _ => exact Iff.rfl

theorem E.flat_den {env : List D} : ∀ {e : E} {s : Bool}, (∀ q ∈ e.flat s, q.den I env) ↔ (PE.tf s e).den I env := by
  intro e
  induction e with
  | bin o a b iha ihb =>
    intro s
    simp only [E.flat]
    split
    · rename_i h
      obtain ⟨rfl, rfl⟩ := h
      have h1 := iha (s := true)
      have h2 := ihb (s := true)
      simp only [PE.tf] at h1 h2 ⊢
      rw [tt_bin]
      simp only [List.mem_append, or_imp, forall_and, h1, h2, tt_i, BO.ev]
      constructor
      · rintro ⟨⟨x, h3, h4⟩, ⟨y, h5, h6⟩⟩; exact ⟨x, y, h3, h5, by simp [h4, h6]⟩
      · rintro ⟨x, y, h3, h5, h6⟩
        have : x ≠ 0 ∧ y ≠ 0 := by by_cases h : x ≠ 0 ∧ y ≠ 0; exact h; simp [h] at h6
        exact ⟨⟨x, h3, this.1⟩, ⟨y, h5, this.2⟩⟩
    split
    · rename_i h
      obtain ⟨rfl, rfl⟩ := h
      have h1 := iha (s := false)
      have h2 := ihb (s := false)
      simp only [PE.tf] at h1 h2 ⊢
      rw [ff_bin]
      simp only [List.mem_append, or_imp, forall_and, h1, h2, ff_i, BO.ev]
      constructor
      · rintro ⟨h3, h4⟩; exact ⟨0, 0, h3, h4, by simp⟩
      · rintro ⟨x, y, h3, h5, h6⟩
        have : x = 0 ∧ y = 0 := by
          by_cases hx : x = 0
          · by_cases hy : y = 0
            · exact ⟨hx, hy⟩
            · simp [hy] at h6
          · simp [hx] at h6
        obtain ⟨rfl, rfl⟩ := this
        exact ⟨h3, h5⟩
    split
    · rename_i h
      obtain ⟨rfl, rfl⟩ := h
      rw [iha]
      cases s with
      | true =>
        simp only [PE.tf, Bool.not_true]
        rw [tt_bin, ff_i]
        constructor
        · intro h; exact ⟨0, 0, h, rfl, by simp [BO.ev]⟩
        · rintro ⟨x, y, h1, h2, h3⟩
          simp only [E.den, Option.some.injEq, D.i.injEq] at h2
          subst h2
          have : x = 0 := by by_cases h : x = 0; exact h; simp [BO.ev, h] at h3
          subst this; exact h1
      | false =>
        simp only [PE.tf, Bool.not_false]
        rw [ff_bin, tt_i]
        constructor
        · rintro ⟨x, h, h0⟩; exact ⟨x, 0, h, rfl, by simp [BO.ev, h0]⟩
        · rintro ⟨x, y, h1, h2, h3⟩
          simp only [E.den, Option.some.injEq, D.i.injEq] at h2
          subst h2
          exact ⟨x, h1, fun h => by simp [BO.ev, h] at h3⟩
    split
    · rename_i h
      obtain ⟨rfl, rfl⟩ := h
      rw [iha]
      cases s with
      | true =>
        simp only [PE.tf]
        rw [tt_bin, tt_i]
        constructor
        · rintro ⟨x, h, h0⟩; exact ⟨x, 0, h, rfl, by simp [BO.ev, h0]⟩
        · rintro ⟨x, y, h1, h2, h3⟩
          simp only [E.den, Option.some.injEq, D.i.injEq] at h2
          subst h2
          exact ⟨x, h1, fun h => by simp [BO.ev, h] at h3⟩
      | false =>
        simp only [PE.tf]
        rw [ff_bin, ff_i]
        constructor
        · intro h; exact ⟨0, 0, h, rfl, by simp [BO.ev]⟩
        · rintro ⟨x, y, h1, h2, h3⟩
          simp only [E.den, Option.some.injEq, D.i.injEq] at h2
          subst h2
          have : x = 0 := by by_cases h : x = 0; exact h; simp [BO.ev, h] at h3
          subst this; exact h1
    split
    · rename_i h; subst h; simp [PE.tf]
    · rename_i h
      have : s = false := by simpa using h
      subst this
      simpa [PE.tf] using flip1_den
  | _ => intro s; simp [E.flat]

def PE.flat : PE → List PE
  | .tt e => e.flat true
  | .ff e => e.flat false
  | p => [p]
theorem PE.flat_den {env : List D} {p : PE} : (∀ q ∈ p.flat, q.den I env) ↔ p.den I env := by
  cases p with
  | tt e => exact E.flat_den
  | ff e => exact E.flat_den
  | _ => simp [PE.flat]

theorem PE.den_more {env xs : List D} {p : PE} (h : p.den I env) : p.den I (env ++ xs) := by
  cases p with
  | tt e => obtain ⟨n, h1, h2⟩ := h; exact ⟨n, E.den_more h1, h2⟩
  | ff e => exact E.den_more (e := e) h
  | rng k e => obtain ⟨n, h1, h2⟩ := h; exact ⟨n, E.den_more h1, h2⟩
  | same a b => obtain ⟨d, h1, h2⟩ := h; exact ⟨d, E.den_more h1, E.den_more h2⟩
  | pr j l => obtain ⟨ds, h1, h2⟩ := h; exact ⟨ds, dens_more h1, h2⟩
  | sort b e => cases b with
    | true => obtain ⟨d, h1⟩ := h; exact ⟨d, E.den_more h1⟩
    | false => obtain ⟨d, h1⟩ := h; exact ⟨d, E.den_more h1⟩
  | col t c lo hi => obtain ⟨f, h1, h2⟩ := h; exact ⟨f, E.den_more h1, h2⟩
  | agr t u n w => obtain ⟨f, g, k, h1, h2, h3, h4⟩ := h; exact ⟨f, g, k, E.den_more h1, E.den_more h2, E.den_more h3, h4⟩
  | byt t n => obtain ⟨f, k, h1, h2, h3⟩ := h; exact ⟨f, k, E.den_more h1, E.den_more h2, h3⟩

/-! ### What is known -/

def litIs (s : Bool) : PE → Bool
  | .tt (.lit n) => s && n != 0
  | .ff (.lit n) => s && n == 0
  | _ => false
theorem litIs_den {env : List D} {p : PE} (h : litIs true p = true) : p.den I env := by
  unfold litIs at h
  split at h
  · exact ⟨_, rfl, by simpa using h⟩
  · rename_i n; have : n = 0 := by simpa using h
    subst this; rfl
  · cases h

def known (fs : Nat → Option Bool) (ss : List Bool) (K : List PE) (p : PE) : Bool :=
  match p with
  | .sort b e => decide (e.sortOf fs ss = some b) || K.contains (.sort b e)
  | .same a b => (decide (a = b) && (a.sortOf fs ss).isSome) || K.contains (.same a b)
  | p => p.flat.all fun q => K.contains q || litIs true q

theorem known_den {fs : Nat → Option Bool} (hI : I.tot fs) {ss : List Bool} {env : List D} (hs : Sorts ss env) {K : List PE} (hK : ∀ p ∈ K, p.den I env) {p : PE} (h : known fs ss K p = true) : p.den I env := by
  have gen : ∀ p : PE, (p.flat.all fun q => K.contains q || litIs true q) = true → p.den I env := by
    intro p h
    rw [← PE.flat_den]
    intro q hq
    have := List.all_eq_true.1 h q hq
    simp only [Bool.or_eq_true, List.contains_iff_mem] at this
    rcases this with h1 | h1
    · exact hK q h1
    · exact litIs_den h1
  cases p with
  | sort b e =>
    simp only [known, Bool.or_eq_true, decide_eq_true_eq, List.contains_iff_mem] at h
    rcases h with h | h
    · obtain ⟨d, h1, h2⟩ := E.sortOf_den hI hs h
      cases b with
      | true => obtain ⟨f, rfl⟩ := D.is_t h2; exact ⟨f, h1⟩
      | false => obtain ⟨f, rfl⟩ := D.is_i h2; exact ⟨f, h1⟩
    · exact hK _ h
  | same a b =>
    simp only [known, Bool.or_eq_true, Bool.and_eq_true, decide_eq_true_eq, List.contains_iff_mem] at h
    rcases h with ⟨rfl, h⟩ | h
    · obtain ⟨b, h⟩ := Option.isSome_iff_exists.1 h
      obtain ⟨d, h1, _⟩ := E.sortOf_den hI hs h
      exact ⟨d, h1, h1⟩
    · exact hK _ h
  | tt e => exact gen _ h
  | ff e => exact gen _ h
  | rng k e => exact gen _ h
  | pr j l => exact gen _ h
  | byt t n => exact gen _ h
  | col t c lo hi => exact gen _ h
  | agr t u n w => exact gen _ h

def Tree.isOk : Tree → Bool
  | .ok => true
  | _ => false
theorem Tree.isOk_vc {t : Tree} {env : List D} (h : t.isOk = true) : t.vc I env := by cases t <;> first | trivial | cases h

/-! ### Definitions put in -/

def mkBin2 (o : BO) (a b : E) : E :=
  match o with
  | .add => mkAdd a b
  | o => mkBin o a b

def E.sub (σ : List E) : E → E
  | .lit n => .lit n
  | .var i => (σ[i]?).getD .zt
  | .bin o a b => mkBin2 o (a.sub σ) (b.sub σ)
  | .wrap k a => mkWrap k (a.sub σ)
  | .zt => .zt
  | .kt row => .kt row
  | .bt b => .bt b
  | .sel t r c => mkSel (t.sub σ) (r.sub σ) c
  | .upd t r c v => .upd (t.sub σ) (r.sub σ) c (v.sub σ)
  | .cat t n u => .cat (t.sub σ) (n.sub σ) (u.sub σ)
  | .sh t n => .sh (t.sub σ) (n.sub σ)
  | .teq t n u m => .teq (t.sub σ) (n.sub σ) (u.sub σ) (m.sub σ)
  | .fn j a b c d => .fn j (a.sub σ) (b.sub σ) (c.sub σ) (d.sub σ)

theorem mkBin_den {env : List D} {o : BO} {a b : E} {x y : Int} (ha : a.den I env = some (.i x)) (hb : b.den I env = some (.i y)) : (mkBin o a b).den I env = some (.i (o.ev x y)) := by
  unfold mkBin
  split
  · simp only [E.den, Option.some.injEq, D.i.injEq] at ha hb; subst ha hb; rfl
  · simp only [E.den, ha, hb]
theorem mkAdd_den' {env : List D} {a b : E} {x y : Int} (ha : a.den I env = some (.i x)) (hb : b.den I env = some (.i y)) : (mkAdd a b).den I env = some (.i (x + y)) := by
  unfold mkAdd
  split
  · simp only [E.den, Option.some.injEq, D.i.injEq] at ha hb; subst ha hb; rfl
  · simp only [E.den, Option.some.injEq, D.i.injEq] at ha; subst ha; simpa using hb
  · simp only [E.den, Option.some.injEq, D.i.injEq] at hb; subst hb; simpa using ha
  · rename_i a' p q _
    obtain ⟨u, v, h1, h2, rfl⟩ := den_add_inv ha
    simp [E.den] at h2 hb
    subst h2; subst hb
    split
    · rw [h1]; congr 2; omega
    · simp only [E.den, h1, BO.ev]; congr 2; omega
  · simp only [E.den, ha, hb, BO.ev]
theorem mkBin2_den {env : List D} {o : BO} {a b : E} {x y : Int} (ha : a.den I env = some (.i x)) (hb : b.den I env = some (.i y)) : (mkBin2 o a b).den I env = some (.i (o.ev x y)) := by
  unfold mkBin2
  split
  · exact mkAdd_den' ha hb
  · exact mkBin_den ha hb
theorem mkWrap_den' {env : List D} {k : IntKind} {a : E} {x : Int} (ha : a.den I env = some (.i x)) : (mkWrap k a).den I env = some (.i (k.wrap x)) := by
  unfold mkWrap
  split
  · simp only [E.den, Option.some.injEq, D.i.injEq] at ha; subst ha; rfl
  · simp only [E.den, ha]

theorem dens_at {env' : List D} : ∀ {σ : List E} {env : List D}, dens I env' σ = some env → ∀ {i : Nat} {d : D}, env[i]? = some d → ∃ e, σ[i]? = some e ∧ e.den I env' = some d
  | [], env, h, i, d, hd => by simp only [dens, Option.some.injEq] at h; subst h; simp at hd
  | e :: σ, env, h, i, d, hd => by
    simp only [dens] at h
    split at h
    · rename_i d0 ds h1 h2
      cases h
      cases i with
      | zero => simp at hd; subst hd; exact ⟨e, rfl, h1⟩
      | succ i => simpa using dens_at h2 (i := i) (by simpa using hd)
    · cases h

theorem E.sub_den {σ : List E} {env env' : List D} (hσ : dens I env' σ = some env) : ∀ {e : E} {d : D}, e.den I env = some d → (e.sub σ).den I env' = some d := by
  intro e
  induction e with
  | lit n => intro d h; exact h
  | zt => intro d h; exact h
  | kt row => intro d h; exact h
  | bt b => intro d h; exact h
  | var i =>
    intro d h
    obtain ⟨e, h1, h2⟩ := dens_at hσ h
    simp only [E.sub, h1]; exact h2
  | bin o a b iha ihb =>
    intro d h
    simp only [E.den] at h
    split at h
    · rename_i x y h1 h2; cases h; exact mkBin2_den (iha h1) (ihb h2)
    · cases h
  | wrap k a ih =>
    intro d h
    simp only [E.den] at h
    split at h
    · rename_i x h1; cases h; exact mkWrap_den' (ih h1)
    · cases h
  | sel t r c iht ihr =>
    intro d h
    simp only [E.den] at h
    split at h
    · rename_i x y h1 h2; cases h; exact den_mkSel (iht h1) (ihr h2)
    · cases h
  | upd t r c v iht ihr ihv =>
    intro d h
    simp only [E.den] at h
    split at h
    · rename_i x y z h1 h2 h3; cases h; simp only [E.sub, E.den, iht h1, ihr h2, ihv h3]
    · cases h
  | cat t n u iht ihn ihu =>
    intro d h
    simp only [E.den] at h
    split at h
    · rename_i x y z h1 h2 h3; cases h; simp only [E.sub, E.den, iht h1, ihn h2, ihu h3]
    · cases h
  | sh t n iht ihn =>
    intro d h
    simp only [E.den] at h
    split at h
    · rename_i x y h1 h2; cases h; simp only [E.sub, E.den, iht h1, ihn h2]
    · cases h
  | teq t n u m iht ihn ihu ihm =>
    intro d h
    simp only [E.den] at h
    split at h
    · rename_i x y z v h1 h2 h3 h4; cases h; simp only [E.sub, E.den, iht h1, ihn h2, ihu h3, ihm h4]
    · cases h
  | fn j a b c d iha ihb ihc ihd =>
    intro x h
    simp only [E.den] at h
    split at h
    · rename_i x1 x2 x3 x4 h1 h2 h3 h4; simp only [E.sub, E.den, iha h1, ihb h2, ihc h3, ihd h4]; exact h
    · cases h
theorem dens_sub {σ : List E} {env env' : List D} (hσ : dens I env' σ = some env) : ∀ {l : List E} {ds : List D}, dens I env l = some ds → dens I env' (l.map (E.sub σ)) = some ds
  | [], _, h => h
  | e :: l, ds, h => by
    simp only [dens] at h
    split at h
    · rename_i d ds' h1 h2
      cases h
      simp only [List.map_cons, dens, E.sub_den hσ h1, dens_sub hσ h2]
    · cases h

def PE.sub (σ : List E) : PE → PE
  | .tt e => .tt (e.sub σ)
  | .ff e => .ff (e.sub σ)
  | .rng k e => .rng k (e.sub σ)
  | .same a b => .same (a.sub σ) (b.sub σ)
  | .pr j l => .pr j (l.map (E.sub σ))
  | .sort b e => .sort b (e.sub σ)
  | .byt t n => .byt (t.sub σ) (n.sub σ)
  | .col t c lo hi => .col (t.sub σ) c lo hi
  | .agr t u n w => .agr (t.sub σ) (u.sub σ) (n.sub σ) w

theorem PE.sub_den {σ : List E} {env env' : List D} (hσ : dens I env' σ = some env) : ∀ {p : PE}, p.den I env → (p.sub σ).den I env'
  | .tt _, ⟨n, h1, h2⟩ => ⟨n, E.sub_den hσ h1, h2⟩
  | .ff e, h => E.sub_den (e := e) hσ h
  | .rng _ _, ⟨n, h1, h2⟩ => ⟨n, E.sub_den hσ h1, h2⟩
  | .same _ _, ⟨d, h1, h2⟩ => ⟨d, E.sub_den hσ h1, E.sub_den hσ h2⟩
  | .pr _ _, ⟨ds, h1, h2⟩ => ⟨ds, dens_sub hσ h1, h2⟩
  | .sort true _, ⟨f, h⟩ => ⟨f, E.sub_den hσ h⟩
  | .sort false _, ⟨f, h⟩ => ⟨f, E.sub_den hσ h⟩
  | .col _ _ _ _, ⟨f, h1, h2⟩ => ⟨f, E.sub_den hσ h1, h2⟩
  | .agr _ _ _ _, ⟨f, g, k, h1, h2, h3, h4⟩ => ⟨f, g, k, E.sub_den hσ h1, E.sub_den hσ h2, E.sub_den hσ h3, h4⟩
  | .byt _ _, ⟨f, k, h1, h2, h3⟩ => ⟨f, k, E.sub_den hσ h1, E.sub_den hσ h2, h3⟩

def PE.sorted (fs : Nat → Option Bool) (ss : List Bool) : PE → Bool
  | .tt e | .ff e | .rng _ e | .sort _ e | .col e _ _ _ => (e.sortOf fs ss).isSome
  | .same a b | .byt a b => (a.sortOf fs ss).isSome && (b.sortOf fs ss).isSome
  | .agr t u n _ => (t.sortOf fs ss).isSome && ((u.sortOf fs ss).isSome && (n.sortOf fs ss).isSome)
  | .pr _ l => l.all fun e => (e.sortOf fs ss).isSome

section
variable {fs : Nat → Option Bool} (hI : I.tot fs) {ss : List Bool} {σ : List E} {env env' : List D} (hs : Sorts ss env) (hσ : dens I env' σ = some env)
include hI hs hσ

theorem E.sub_back {e : E} {d : D} (h1 : (e.sortOf fs ss).isSome = true) (h2 : (e.sub σ).den I env' = some d) : e.den I env = some d := by
  obtain ⟨b, hb⟩ := Option.isSome_iff_exists.1 h1
  obtain ⟨d', h3, _⟩ := E.sortOf_den hI hs hb
  have := E.sub_den hσ h3
  rw [this] at h2; cases h2; exact h3
theorem dens_back : ∀ {l : List E} {ds : List D}, (l.all fun e => (e.sortOf fs ss).isSome) = true → dens I env' (l.map (E.sub σ)) = some ds → dens I env l = some ds
  | [], _, _, h => h
  | e :: l, ds, hl, h => by
    simp only [List.all_cons, Bool.and_eq_true] at hl
    simp only [List.map_cons, dens] at h
    split at h
    · rename_i d ds' h1 h2
      cases h
      simp only [dens, E.sub_back hI hs hσ hl.1 h1, dens_back hl.2 h2]
    · cases h
theorem PE.sub_back {p : PE} (h1 : p.sorted fs ss = true) (h2 : (p.sub σ).den I env') : p.den I env := by
  cases p with
  | tt e => obtain ⟨n, h3, h4⟩ := h2; exact ⟨n, E.sub_back hI hs hσ h1 h3, h4⟩
  | ff e => exact E.sub_back hI hs hσ h1 h2
  | rng k e => obtain ⟨n, h3, h4⟩ := h2; exact ⟨n, E.sub_back hI hs hσ h1 h3, h4⟩
  | same a b =>
    simp only [PE.sorted, Bool.and_eq_true] at h1
    obtain ⟨d, h3, h4⟩ := h2
    exact ⟨d, E.sub_back hI hs hσ h1.1 h3, E.sub_back hI hs hσ h1.2 h4⟩
  | pr j l => obtain ⟨ds, h3, h4⟩ := h2; exact ⟨ds, dens_back hI hs hσ h1 h3, h4⟩
  | sort b e => cases b with
    | true => obtain ⟨n, h3⟩ := h2; exact ⟨n, E.sub_back hI hs hσ h1 h3⟩
    | false => obtain ⟨n, h3⟩ := h2; exact ⟨n, E.sub_back hI hs hσ h1 h3⟩
  | col t c lo hi => obtain ⟨f, h3, h4⟩ := h2; exact ⟨f, E.sub_back hI hs hσ h1 h3, h4⟩
  | agr t u n w =>
    simp only [PE.sorted, Bool.and_eq_true] at h1
    obtain ⟨f, g, k, h3, h4, h5, h6⟩ := h2
    exact ⟨f, g, k, E.sub_back hI hs hσ h1.1 h3, E.sub_back hI hs hσ h1.2.1 h4, E.sub_back hI hs hσ h1.2.2 h5, h6⟩
  | byt t m =>
    simp only [PE.sorted, Bool.and_eq_true] at h1
    obtain ⟨f, k, h3, h4, h5⟩ := h2
    exact ⟨f, k, E.sub_back hI hs hσ h1.1 h3, E.sub_back hI hs hσ h1.2 h4, h5⟩
end

def isVar : E → Bool
  | .var _ => true
  | _ => false

/-- An equation for a variable that is new. -/
def defined (σ : List E) : PE → List E
  | .same (.var i) e => if ((σ[i]?).map isVar) = some true then σ.set i (e.sub σ) else σ
  | _ => σ
theorem dens_set {env' : List D} {e : E} {d : D} : ∀ {σ : List E} {env : List D} {i : Nat}, dens I env' σ = some env → env[i]? = some d → e.den I env' = some d → dens I env' (σ.set i e) = some env
  | [], env, i, h, hi, _ => by simp only [dens, Option.some.injEq] at h; subst h; simp at hi
  | e0 :: σ, env, i, h, hi, he => by
    simp only [dens] at h
    split at h
    · rename_i d0 ds h1 h2
      cases h
      cases i with
      | zero => simp at hi; subst hi; simp only [List.set_cons_zero, dens, he, h2]
      | succ i => simp only [List.set_cons_succ, dens, h1, dens_set h2 (by simpa using hi) he]
    · cases h
theorem defined_den {σ : List E} {env env' : List D} (hσ : dens I env' σ = some env) {p : PE} (hp : p.den I env) : dens I env' (defined σ p) = some env := by
  unfold defined
  split
  · split
    · obtain ⟨d, h1, h2⟩ := hp
      exact dens_set hσ h1 (E.sub_den hσ h2)
    · exact hσ
  · exact hσ

/-- The output's own variables: σ says what stands for the tree's. -/
def Tree.tidy (fs : Nat → Option Bool) : List Bool → List E → List Bool → List PE → Tree → Tree
  | _, _, _, _, .ok => .ok
  | _, _, _, _, .fail n => .fail n
  | ss, σ, ss', K, .assert p t => if p.sorted fs ss then
      let q := p.sub σ
      if known fs ss' K q then t.tidy fs ss σ ss' K else .assert q (t.tidy fs ss σ ss' (q.flat ++ K))
    else .fail 200
  | ss, σ, ss', K, .assume p t =>
    let q := p.sub σ
    if known fs ss' K q then t.tidy fs ss σ ss' K else
    let t' := t.tidy fs ss (defined σ p) ss' (q.flat ++ K)
    if t'.isOk then .ok else .assume q t'
  | ss, σ, ss', K, .branch e a b => if e.sortOf fs ss = some false then
      let c := e.sub σ
      if known fs ss' K (.tt c) then a.tidy fs ss σ ss' K else if known fs ss' K (.ff c) then b.tidy fs ss σ ss' K else
      let a' := a.tidy fs ss σ ss' (c.flat true ++ K)
      let b' := b.tidy fs ss σ ss' (c.flat false ++ K)
      if a'.isOk && b'.isOk then .ok else .branch c a' b'
    else .fail 201
  | ss, σ, ss', K, .both a b =>
    let a' := a.tidy fs ss σ ss' K
    let b' := b.tidy fs ss σ ss' K
    if a'.isOk then b' else if b'.isOk then a' else .both a' b'
  | ss, σ, ss', K, .havoc s t =>
    let t' := t.tidy fs (ss ++ [s]) (σ ++ [.var ss'.length]) (ss' ++ [s]) K
    if t'.isOk then .ok else .havoc s t'

theorem dens_app1 {env' : List D} {e : E} {d : D} (he : e.den I env' = some d) : ∀ {σ : List E} {env : List D}, dens I env' σ = some env → dens I env' (σ ++ [e]) = some (env ++ [d])
  | [], env, h => by simp only [dens, Option.some.injEq] at h; subst h; simp [dens, he]
  | e0 :: σ, env, h => by
    simp only [dens] at h
    split at h
    · rename_i d0 ds h1 h2
      cases h
      simp only [List.cons_append, dens, h1, dens_app1 he h2]
    · cases h

theorem Tree.tidy_vc {fs : Nat → Option Bool} (hI : I.tot fs) : ∀ {t : Tree} {ss : List Bool} {σ : List E} {ss' : List Bool} {K : List PE} {env env' : List D}, Sorts ss env → Sorts ss' env' → dens I env' σ = some env → (∀ p ∈ K, p.den I env') →
    (t.tidy fs ss σ ss' K).vc I env' → t.vc I env := by
  intro t
  have addK : ∀ {K : List PE} {p : PE} {env : List D}, (∀ p ∈ K, p.den I env) → p.den I env → ∀ q ∈ p.flat ++ K, q.den I env := fun hK hp q hq => by
    rcases List.mem_append.1 hq with h | h
    · exact PE.flat_den.2 hp q h
    · exact hK q h
  induction t with
  | ok => intros; trivial
  | fail n => intro _ _ _ _ _ _ _ _ _ _ h; exact h
  | assert p t ih =>
    intro ss σ ss' K env env' hs hs' hσ hK h
    simp only [Tree.tidy] at h
    split at h
    · rename_i hsr
      split at h
      · rename_i hk
        exact ⟨PE.sub_back hI hs hσ hsr (known_den hI hs' hK hk), ih hs hs' hσ hK h⟩
      · exact ⟨PE.sub_back hI hs hσ hsr h.1, ih hs hs' hσ (addK hK h.1) h.2⟩
    · exact h.elim
  | assume p t ih =>
    intro ss σ ss' K env env' hs hs' hσ hK h hp
    simp only [Tree.tidy] at h
    have hq := PE.sub_den hσ hp
    split at h
    · exact ih hs hs' hσ hK h
    split at h
    · rename_i hk; exact ih hs hs' (defined_den hσ hp) (addK hK hq) (Tree.isOk_vc hk)
    · exact ih hs hs' (defined_den hσ hp) (addK hK hq) (h hq)
  | branch e a b iha ihb =>
    intro ss σ ss' K env env' hs hs' hσ hK h
    simp only [Tree.tidy] at h
    split at h
    rotate_left
    · exact h.elim
    split at h
    · rename_i hk
      obtain ⟨m, h1, h2⟩ := known_den hI hs' hK hk
      exact ⟨fun _ _ _ => iha hs hs' hσ hK h, fun h3 => by rw [E.sub_den hσ h3] at h1; cases h1; exact (h2 rfl).elim⟩
    split at h
    · rename_i hk
      have h1 : (e.sub σ).den I env' = some (.i 0) := known_den hI hs' hK hk
      exact ⟨fun n h2 h3 => by rw [E.sub_den hσ h2] at h1; cases h1; exact (h3 rfl).elim, fun _ => ihb hs hs' hσ hK h⟩
    have hT : ∀ n, e.den I env = some (.i n) → n ≠ 0 → ∀ q ∈ (e.sub σ).flat true ++ K, q.den I env' := fun n h1 h2 => addK (p := .tt (e.sub σ)) hK ⟨n, E.sub_den hσ h1, h2⟩
    have hF : e.den I env = some (.i 0) → ∀ q ∈ (e.sub σ).flat false ++ K, q.den I env' := fun h1 => addK (p := .ff (e.sub σ)) hK (E.sub_den hσ h1)
    split at h
    · rename_i hk
      simp only [Bool.and_eq_true] at hk
      exact ⟨fun n h1 h2 => iha hs hs' hσ (hT n h1 h2) (Tree.isOk_vc hk.1), fun h1 => ihb hs hs' hσ (hF h1) (Tree.isOk_vc hk.2)⟩
    · exact ⟨fun n h1 h2 => iha hs hs' hσ (hT n h1 h2) (h.1 n (E.sub_den hσ h1) h2), fun h1 => ihb hs hs' hσ (hF h1) (h.2 (E.sub_den hσ h1))⟩
  | both a b iha ihb =>
    intro ss σ ss' K env env' hs hs' hσ hK h
    simp only [Tree.tidy] at h
    split at h
    · rename_i hk; exact ⟨iha hs hs' hσ hK (Tree.isOk_vc hk), ihb hs hs' hσ hK h⟩
    split at h
    · rename_i hk; exact ⟨iha hs hs' hσ hK h, ihb hs hs' hσ hK (Tree.isOk_vc hk)⟩
    · exact ⟨iha hs hs' hσ hK h.1, ihb hs hs' hσ hK h.2⟩
  | havoc s t ih =>
    intro ss σ ss' K env env' hs hs' hσ hK h
    simp only [Tree.tidy] at h
    have go : ∀ d : D, d.is s → (∀ q ∈ K, q.den I (env' ++ [d])) ∧ dens I (env' ++ [d]) (σ ++ [.var ss'.length]) = some (env ++ [d]) := fun d _ =>
      ⟨fun q hq => PE.den_more (hK q hq), dens_app1 (by simp only [E.den, ← hs'.length, List.getElem?_concat_length]) (dens_more hσ)⟩
    cases s with
    | true =>
      intro f
      obtain ⟨hK', hσ'⟩ := go (.t f) trivial
      split at h
      · rename_i hk; exact ih (hs.app (b := true) trivial) (hs'.app (b := true) (d := .t f) trivial) hσ' hK' (Tree.isOk_vc hk)
      · exact ih (hs.app (b := true) trivial) (hs'.app (b := true) (d := .t f) trivial) hσ' hK' (h f)
    | false =>
      intro f
      obtain ⟨hK', hσ'⟩ := go (.i f) trivial
      split at h
      · rename_i hk; exact ih (hs.app (b := false) trivial) (hs'.app (b := false) (d := .i f) trivial) hσ' hK' (Tree.isOk_vc hk)
      · exact ih (hs.app (b := false) trivial) (hs'.app (b := false) (d := .i f) trivial) hσ' hK' (h f)

/-- **A contract is kept where its tidied tree holds.** -/
def tidied (fs : Nat → Option Bool) (cx : Cx) (fuel : Nat) (c : Contract) : Tree := (verify cx fuel c).tidy fs c.sorts (varsFrom 0 c.sorts.length) c.sorts []
theorem tidied_sound {fs : Nat → Option Bool} (hI : I.tot fs) {cx : Cx} (hC : ∀ c ∈ cx.cs, COk I cx.P cx.kn.globs c) {fuel : Nat} {c : Contract} (h : ∀ ds, Sorts c.sorts ds → (tidied fs cx fuel c).vc I ds) : COk I cx.P cx.kn.globs c :=
  verify_sound hC fun ds hd => by
    have h1 := dens_vars (I := I) (env := []) (outs := ds) ds.length (Nat.le_refl _)
    simp only [List.nil_append, List.length_nil, List.take_length] at h1
    rw [hd.length] at h1
    exact Tree.tidy_vc hI hd hd h1 (by simp) (h ds hd)
theorem tidied_ok {fs : Nat → Option Bool} (hI : I.tot fs) {cx : Cx} (hC : ∀ c ∈ cx.cs, COk I cx.P cx.kn.globs c) {fuel : Nat} {c : Contract} (h : (tidied fs cx fuel c).isOk = true) : COk I cx.P cx.kn.globs c :=
  tidied_sound hI hC fun _ _ => Tree.isOk_vc h
/-- No function is known to be total. -/
def noFs : Nat → Option Bool := fun _ => none
theorem tot_none (I : Itp) : I.tot noFs := fun _ _ h => by cases h
end Go.Sx
