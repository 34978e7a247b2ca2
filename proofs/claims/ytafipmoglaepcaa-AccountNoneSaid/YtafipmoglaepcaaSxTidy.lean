/-
  A tree, tidied: what is known is not asked again; the rest stays. Conditions: none.
-/
import Derived.Test.YtafipmoglaepcaaSxUse
namespace Go.Sx
open Go

variable {I : Itp}

/-- The sort of a term; fs: the sorts of the functions that are total. -/
def E.sortOf (fs : Nat → Option Bool) (ss : List Bool) : E → Option Bool
  | .lit _ => some false
  | .var i => ss[i]?
  | .bin _ a b => if a.sortOf fs ss = some false ∧ b.sortOf fs ss = some false then some false else none
  | .wrap _ a => if a.sortOf fs ss = some false then some false else none
  | .zt => some true
  | .sel t r _ => if t.sortOf fs ss = some true ∧ r.sortOf fs ss = some false then some false else none
  | .upd t r _ v => if t.sortOf fs ss = some true ∧ r.sortOf fs ss = some false ∧ v.sortOf fs ss = some false then some true else none
  | .cat t n u => if t.sortOf fs ss = some true ∧ n.sortOf fs ss = some false ∧ u.sortOf fs ss = some true then some true else none
  | .fn j a b c d => if (a.sortOf fs ss).isSome ∧ (b.sortOf fs ss).isSome ∧ (c.sortOf fs ss).isSome ∧ (d.sortOf fs ss).isSome then fs j else none

def D.is : Bool → D → Prop
  | true, .t _ => True
  | false, .i _ => True
  | _, _ => False
theorem D.is_i {d : D} (h : d.is false) : ∃ n, d = .i n := by cases d with | i n => exact ⟨n, rfl⟩ | t f => exact h.elim
theorem D.is_t {d : D} (h : d.is true) : ∃ f, d = .t f := by cases d with | i n => exact h.elim | t f => exact ⟨f, rfl⟩

def Itp.tot (I : Itp) (fs : Nat → Option Bool) : Prop := ∀ j s, fs j = some s → ∀ a b c d, ∃ x, I.fn j a b c d = some x ∧ x.is s

theorem Sorts.get : ∀ {ss : List Bool} {env : List D} {i : Nat} {b : Bool}, Sorts ss env → ss[i]? = some b → ∃ d, env[i]? = some d ∧ d.is b
  | true :: l, .t f :: m, 0, b, _, h => by simp at h; subst h; exact ⟨_, rfl, trivial⟩
  | false :: l, .i f :: m, 0, b, _, h => by simp at h; subst h; exact ⟨_, rfl, trivial⟩
  | true :: l, .t f :: m, i + 1, b, hs, h => by simpa using Sorts.get (ss := l) (env := m) (i := i) hs (by simpa using h)
  | false :: l, .i f :: m, i + 1, b, hs, h => by simpa using Sorts.get (ss := l) (env := m) (i := i) hs (by simpa using h)
  | [], [], _, _, _, h => by simp at h
  | [], _ :: _, _, _, h, _ => h.elim
  | true :: _, [], _, _, h, _ => h.elim
  | false :: _, [], _, _, h, _ => h.elim
  | true :: _, .i _ :: _, _, _, h, _ => h.elim
  | false :: _, .t _ :: _, _, _, h, _ => h.elim
theorem Sorts.app : ∀ {ss : List Bool} {env : List D} {b : Bool} {d : D}, Sorts ss env → d.is b → Sorts (ss ++ [b]) (env ++ [d])
  | [], [], true, .t _, _, _ => trivial
  | [], [], false, .i _, _, _ => trivial
  | [], [], true, .i _, _, h => h.elim
  | [], [], false, .t _, _, h => h.elim
  | true :: l, .t _ :: m, _, _, hs, h => Sorts.app (ss := l) (env := m) hs h
  | false :: l, .i _ :: m, _, _, hs, h => Sorts.app (ss := l) (env := m) hs h
  | [], _ :: _, _, _, h, _ => h.elim
  | true :: _, [], _, _, h, _ => h.elim
  | false :: _, [], _, _, h, _ => h.elim
  | true :: _, .i _ :: _, _, _, h, _ => h.elim
  | false :: _, .t _ :: _, _, _, h, _ => h.elim

theorem E.sortOf_den {fs : Nat → Option Bool} (hI : I.tot fs) {ss : List Bool} {env : List D} (hs : Sorts ss env) : ∀ {e : E} {b : Bool}, e.sortOf fs ss = some b → ∃ d, e.den I env = some d ∧ d.is b := by
  intro e
  induction e with
  | lit n => intro b h; simp only [E.sortOf, Option.some.injEq] at h; subst h; exact ⟨_, rfl, trivial⟩
  | zt => intro b h; simp only [E.sortOf, Option.some.injEq] at h; subst h; exact ⟨_, rfl, trivial⟩
  | var i => intro b h; exact hs.get h
  | bin o x y ihx ihy =>
    intro b h
    simp only [E.sortOf] at h
    split at h
    · rename_i hc
      cases h
      obtain ⟨d1, h1, k1⟩ := ihx hc.1
      obtain ⟨d2, h2, k2⟩ := ihy hc.2
      obtain ⟨n1, rfl⟩ := D.is_i k1
      obtain ⟨n2, rfl⟩ := D.is_i k2
      exact ⟨.i (o.ev n1 n2), by simp [E.den, h1, h2], trivial⟩
    · cases h
  | wrap k x ihx =>
    intro b h
    simp only [E.sortOf] at h
    split at h
    · rename_i hc
      cases h
      obtain ⟨d1, h1, k1⟩ := ihx hc
      obtain ⟨n1, rfl⟩ := D.is_i k1
      exact ⟨.i (k.wrap n1), by simp [E.den, h1], trivial⟩
    · cases h
  | sel t r c iht ihr =>
    intro b h
    simp only [E.sortOf] at h
    split at h
    · rename_i hc
      cases h
      obtain ⟨d1, h1, k1⟩ := iht hc.1
      obtain ⟨d2, h2, k2⟩ := ihr hc.2
      obtain ⟨f, rfl⟩ := D.is_t k1
      obtain ⟨n2, rfl⟩ := D.is_i k2
      exact ⟨.i (f n2 c), by simp [E.den, h1, h2], trivial⟩
    · cases h
  | upd t r c v iht ihr ihv =>
    intro b h
    simp only [E.sortOf] at h
    split at h
    · rename_i hc
      cases h
      obtain ⟨d1, h1, k1⟩ := iht hc.1
      obtain ⟨d2, h2, k2⟩ := ihr hc.2.1
      obtain ⟨d3, h3, k3⟩ := ihv hc.2.2
      obtain ⟨f, rfl⟩ := D.is_t k1
      obtain ⟨n2, rfl⟩ := D.is_i k2
      obtain ⟨n3, rfl⟩ := D.is_i k3
      exact ⟨.t (tupd f n2 c n3), by simp only [E.den, h1, h2, h3], trivial⟩
    · cases h
  | cat t n u iht ihr ihv =>
    intro b h
    simp only [E.sortOf] at h
    split at h
    · rename_i hc
      cases h
      obtain ⟨d1, h1, k1⟩ := iht hc.1
      obtain ⟨d2, h2, k2⟩ := ihr hc.2.1
      obtain ⟨d3, h3, k3⟩ := ihv hc.2.2
      obtain ⟨f, rfl⟩ := D.is_t k1
      obtain ⟨n2, rfl⟩ := D.is_i k2
      obtain ⟨f3, rfl⟩ := D.is_t k3
      exact ⟨.t (tcat f n2 f3), by simp only [E.den, h1, h2, h3], trivial⟩
    · cases h
  | fn j x y z u ihx ihy ihz ihu =>
    intro b h
    simp only [E.sortOf] at h
    split at h
    · rename_i hc
      obtain ⟨h1, h2, h3, h4⟩ := hc
      obtain ⟨b1, h1⟩ := Option.isSome_iff_exists.1 h1
      obtain ⟨b2, h2⟩ := Option.isSome_iff_exists.1 h2
      obtain ⟨b3, h3⟩ := Option.isSome_iff_exists.1 h3
      obtain ⟨b4, h4⟩ := Option.isSome_iff_exists.1 h4
      obtain ⟨d1, g1, _⟩ := ihx h1
      obtain ⟨d2, g2, _⟩ := ihy h2
      obtain ⟨d3, g3, _⟩ := ihz h3
      obtain ⟨d4, g4, _⟩ := ihu h4
      obtain ⟨x, hx, hx'⟩ := hI j b h d1 d2 d3 d4
      exact ⟨x, by simp only [E.den, g1, g2, g3, g4]; exact hx, hx'⟩
    · cases h

/-! ### One form for each fact -/

def PE.tf : Bool → E → PE
  | true, e => .tt e
  | false, e => .ff e

def flip1 (o : BO) (a b : E) : PE :=
  match o with
  | .lt => .tt (.bin .le b a)
  | .le => .tt (.bin .lt b a)
  | .eq => .tt (.bin .ne a b)
  | .ne => .tt (.bin .eq a b)
  | o => .ff (.bin o a b)

def E.flat (s : Bool) : E → List PE
  | .bin o a b =>
    if s = true ∧ o = .and then a.flat true ++ b.flat true
    else if s = false ∧ o = .or then a.flat false ++ b.flat false
    else if o = .eq ∧ b = .lit 0 then a.flat (!s)
    else if o = .ne ∧ b = .lit 0 then a.flat s
    else if s = true then [.tt (.bin o a b)] else [flip1 o a b]
  | e => [.tf s e]

theorem tt_bin {env : List D} {o : BO} {a b : E} : (PE.tt (.bin o a b)).den I env ↔ ∃ x y, a.den I env = some (.i x) ∧ b.den I env = some (.i y) ∧ o.ev x y ≠ 0 := by
  constructor
  · rintro ⟨n, h1, h2⟩
    simp only [E.den] at h1
    split at h1
    · rename_i x y hx hy; simp only [Option.some.injEq, D.i.injEq] at h1; exact ⟨x, y, hx, hy, by rw [h1]; exact h2⟩
    · cases h1
  · rintro ⟨x, y, hx, hy, h⟩
    exact ⟨o.ev x y, by simp [E.den, hx, hy], h⟩
theorem ff_bin {env : List D} {o : BO} {a b : E} : (PE.ff (.bin o a b)).den I env ↔ ∃ x y, a.den I env = some (.i x) ∧ b.den I env = some (.i y) ∧ o.ev x y = 0 := by
  constructor
  · intro h1
    simp only [PE.den, E.den] at h1
    split at h1
    · rename_i x y hx hy; simp only [Option.some.injEq, D.i.injEq] at h1; exact ⟨x, y, hx, hy, h1⟩
    · cases h1
  · rintro ⟨x, y, hx, hy, h⟩
    simp [PE.den, E.den, hx, hy, h]
theorem tt_i {env : List D} {a : E} : (PE.tt a).den I env ↔ ∃ x, a.den I env = some (.i x) ∧ x ≠ 0 := Iff.rfl
theorem ff_i {env : List D} {a : E} : (PE.ff a).den I env ↔ a.den I env = some (.i 0) := Iff.rfl

theorem flip1_den {env : List D} {o : BO} {a b : E} : (flip1 o a b).den I env ↔ (PE.ff (.bin o a b)).den I env := by
  have key : ∀ (o' : BO) (h : ∀ x y, o'.ev x y ≠ 0 ↔ o.ev x y = 0), (PE.tt (.bin o' a b)).den I env ↔ (PE.ff (.bin o a b)).den I env := by
    intro o' h
    rw [tt_bin, ff_bin]
    constructor
    · rintro ⟨x, y, h1, h2, h3⟩; exact ⟨x, y, h1, h2, (h x y).1 h3⟩
    · rintro ⟨x, y, h1, h2, h3⟩; exact ⟨x, y, h1, h2, (h x y).2 h3⟩
  have key2 : ∀ (o' : BO) (h : ∀ x y, o'.ev y x ≠ 0 ↔ o.ev x y = 0), (PE.tt (.bin o' b a)).den I env ↔ (PE.ff (.bin o a b)).den I env := by
    intro o' h
    rw [tt_bin, ff_bin]
    constructor
    · rintro ⟨x, y, h1, h2, h3⟩; exact ⟨y, x, h2, h1, (h y x).1 h3⟩
    · rintro ⟨x, y, h1, h2, h3⟩; exact ⟨y, x, h2, h1, (h x y).2 h3⟩
  cases o with
  | lt => exact key2 .le fun x y => by simp only [BO.ev]; split <;> split <;> simp <;> omega
  | le => exact key2 .lt fun x y => by simp only [BO.ev]; split <;> split <;> simp <;> omega
  | eq => exact key .ne fun x y => by simp only [BO.ev]; split <;> simp
  | ne => exact key .eq fun x y => by simp only [BO.ev]; split <;> simp
  | _ => exact Iff.rfl

theorem E.flat_den {env : List D} : ∀ {e : E} {s : Bool}, (∀ q ∈ e.flat s, q.den I env) ↔ (PE.tf s e).den I env := by
  intro e
  induction e with
  | bin o a b iha ihb =>
    intro s
    simp only [E.flat]
    split
    · rename_i h
      obtain ⟨rfl, rfl⟩ := h
      have h1 := iha (s := true)
      have h2 := ihb (s := true)
      simp only [PE.tf] at h1 h2 ⊢
      rw [tt_bin]
      simp only [List.mem_append, or_imp, forall_and, h1, h2, tt_i, BO.ev]
      constructor
      · rintro ⟨⟨x, h3, h4⟩, ⟨y, h5, h6⟩⟩; exact ⟨x, y, h3, h5, by simp [h4, h6]⟩
      · rintro ⟨x, y, h3, h5, h6⟩
        have : x ≠ 0 ∧ y ≠ 0 := by by_cases h : x ≠ 0 ∧ y ≠ 0; exact h; simp [h] at h6
        exact ⟨⟨x, h3, this.1⟩, ⟨y, h5, this.2⟩⟩
    split
    · rename_i h
      obtain ⟨rfl, rfl⟩ := h
      have h1 := iha (s := false)
      have h2 := ihb (s := false)
      simp only [PE.tf] at h1 h2 ⊢
      rw [ff_bin]
      simp only [List.mem_append, or_imp, forall_and, h1, h2, ff_i, BO.ev]
      constructor
      · rintro ⟨h3, h4⟩; exact ⟨0, 0, h3, h4, by simp⟩
      · rintro ⟨x, y, h3, h5, h6⟩
        have : x = 0 ∧ y = 0 := by
          by_cases hx : x = 0
          · by_cases hy : y = 0
            · exact ⟨hx, hy⟩
            · simp [hy] at h6
          · simp [hx] at h6
        obtain ⟨rfl, rfl⟩ := this
        exact ⟨h3, h5⟩
    split
    · rename_i h
      obtain ⟨rfl, rfl⟩ := h
      rw [iha]
      cases s with
      | true =>
        simp only [PE.tf, Bool.not_true]
        rw [tt_bin, ff_i]
        constructor
        · intro h; exact ⟨0, 0, h, rfl, by simp [BO.ev]⟩
        · rintro ⟨x, y, h1, h2, h3⟩
          simp only [E.den, Option.some.injEq, D.i.injEq] at h2
          subst h2
          have : x = 0 := by by_cases h : x = 0; exact h; simp [BO.ev, h] at h3
          subst this; exact h1
      | false =>
        simp only [PE.tf, Bool.not_false]
        rw [ff_bin, tt_i]
        constructor
        · rintro ⟨x, h, h0⟩; exact ⟨x, 0, h, rfl, by simp [BO.ev, h0]⟩
        · rintro ⟨x, y, h1, h2, h3⟩
          simp only [E.den, Option.some.injEq, D.i.injEq] at h2
          subst h2
          exact ⟨x, h1, fun h => by simp [BO.ev, h] at h3⟩
    split
    · rename_i h
      obtain ⟨rfl, rfl⟩ := h
      rw [iha]
      cases s with
      | true =>
        simp only [PE.tf]
        rw [tt_bin, tt_i]
        constructor
        · rintro ⟨x, h, h0⟩; exact ⟨x, 0, h, rfl, by simp [BO.ev, h0]⟩
        · rintro ⟨x, y, h1, h2, h3⟩
          simp only [E.den, Option.some.injEq, D.i.injEq] at h2
          subst h2
          exact ⟨x, h1, fun h => by simp [BO.ev, h] at h3⟩
      | false =>
        simp only [PE.tf]
        rw [ff_bin, ff_i]
        constructor
        · intro h; exact ⟨0, 0, h, rfl, by simp [BO.ev]⟩
        · rintro ⟨x, y, h1, h2, h3⟩
          simp only [E.den, Option.some.injEq, D.i.injEq] at h2
          subst h2
          have : x = 0 := by by_cases h : x = 0; exact h; simp [BO.ev, h] at h3
          subst this; exact h1
    split
    · rename_i h; subst h; simp [PE.tf]
    · rename_i h
      have : s = false := by simpa using h
      subst this
      simpa [PE.tf] using flip1_den
  | _ => intro s; simp [E.flat]

def PE.flat : PE → List PE
  | .tt e => e.flat true
  | .ff e => e.flat false
  | p => [p]
theorem PE.flat_den {env : List D} {p : PE} : (∀ q ∈ p.flat, q.den I env) ↔ p.den I env := by
  cases p with
  | tt e => exact E.flat_den
  | ff e => exact E.flat_den
  | _ => simp [PE.flat]

theorem PE.den_more {env xs : List D} {p : PE} (h : p.den I env) : p.den I (env ++ xs) := by
  cases p with
  | tt e => obtain ⟨n, h1, h2⟩ := h; exact ⟨n, E.den_more h1, h2⟩
  | ff e => exact E.den_more (e := e) h
  | rng k e => obtain ⟨n, h1, h2⟩ := h; exact ⟨n, E.den_more h1, h2⟩
  | same a b => obtain ⟨d, h1, h2⟩ := h; exact ⟨d, E.den_more h1, E.den_more h2⟩
  | pr j l => obtain ⟨ds, h1, h2⟩ := h; exact ⟨ds, dens_more h1, h2⟩
  | sort b e => cases b with
    | true => obtain ⟨d, h1⟩ := h; exact ⟨d, E.den_more h1⟩
    | false => obtain ⟨d, h1⟩ := h; exact ⟨d, E.den_more h1⟩

/-! ### What is known -/

def litIs (s : Bool) : PE → Bool
  | .tt (.lit n) => s && n != 0
  | .ff (.lit n) => s && n == 0
  | _ => false
theorem litIs_den {env : List D} {p : PE} (h : litIs true p = true) : p.den I env := by
  unfold litIs at h
  split at h
  · exact ⟨_, rfl, by simpa using h⟩
  · rename_i n; have : n = 0 := by simpa using h
    subst this; rfl
  · cases h

def known (fs : Nat → Option Bool) (ss : List Bool) (K : List PE) (p : PE) : Bool :=
  match p with
  | .sort b e => decide (e.sortOf fs ss = some b) || K.contains (.sort b e)
  | .same a b => (decide (a = b) && (a.sortOf fs ss).isSome) || K.contains (.same a b)
  | p => p.flat.all fun q => K.contains q || litIs true q

theorem known_den {fs : Nat → Option Bool} (hI : I.tot fs) {ss : List Bool} {env : List D} (hs : Sorts ss env) {K : List PE} (hK : ∀ p ∈ K, p.den I env) {p : PE} (h : known fs ss K p = true) : p.den I env := by
  have gen : ∀ p : PE, (p.flat.all fun q => K.contains q || litIs true q) = true → p.den I env := by
    intro p h
    rw [← PE.flat_den]
    intro q hq
    have := List.all_eq_true.1 h q hq
    simp only [Bool.or_eq_true, List.contains_iff_mem] at this
    rcases this with h1 | h1
    · exact hK q h1
    · exact litIs_den h1
  cases p with
  | sort b e =>
    simp only [known, Bool.or_eq_true, decide_eq_true_eq, List.contains_iff_mem] at h
    rcases h with h | h
    · obtain ⟨d, h1, h2⟩ := E.sortOf_den hI hs h
      cases b with
      | true => obtain ⟨f, rfl⟩ := D.is_t h2; exact ⟨f, h1⟩
      | false => obtain ⟨f, rfl⟩ := D.is_i h2; exact ⟨f, h1⟩
    · exact hK _ h
  | same a b =>
    simp only [known, Bool.or_eq_true, Bool.and_eq_true, decide_eq_true_eq, List.contains_iff_mem] at h
    rcases h with ⟨rfl, h⟩ | h
    · obtain ⟨b, h⟩ := Option.isSome_iff_exists.1 h
      obtain ⟨d, h1, _⟩ := E.sortOf_den hI hs h
      exact ⟨d, h1, h1⟩
    · exact hK _ h
  | tt e => exact gen _ h
  | ff e => exact gen _ h
  | rng k e => exact gen _ h
  | pr j l => exact gen _ h

def Tree.isOk : Tree → Bool
  | .ok => true
  | _ => false
theorem Tree.isOk_vc {t : Tree} {env : List D} (h : t.isOk = true) : t.vc I env := by cases t <;> first | trivial | cases h

def Tree.tidy (fs : Nat → Option Bool) : List Bool → List PE → Tree → Tree
  | _, _, .ok => .ok
  | _, _, .fail n => .fail n
  | ss, K, .assert p t => if known fs ss K p then t.tidy fs ss K else .assert p (t.tidy fs ss (p.flat ++ K))
  | ss, K, .assume p t => if known fs ss K p then t.tidy fs ss K else
    let t' := t.tidy fs ss (p.flat ++ K)
    if t'.isOk then .ok else .assume p t'
  | ss, K, .branch e a b =>
    if known fs ss K (.tt e) then a.tidy fs ss K else if known fs ss K (.ff e) then b.tidy fs ss K else
    let a' := a.tidy fs ss (e.flat true ++ K)
    let b' := b.tidy fs ss (e.flat false ++ K)
    if a'.isOk && b'.isOk then .ok else .branch e a' b'
  | ss, K, .both a b =>
    let a' := a.tidy fs ss K
    let b' := b.tidy fs ss K
    if a'.isOk then b' else if b'.isOk then a' else .both a' b'
  | ss, K, .havoc s t =>
    let t' := t.tidy fs (ss ++ [s]) K
    if t'.isOk then .ok else .havoc s t'

theorem Tree.tidy_vc {fs : Nat → Option Bool} (hI : I.tot fs) : ∀ {t : Tree} {ss : List Bool} {K : List PE} {env : List D}, Sorts ss env → (∀ p ∈ K, p.den I env) → (t.tidy fs ss K).vc I env → t.vc I env := by
  intro t
  have addK : ∀ {K : List PE} {p : PE} {env : List D}, (∀ p ∈ K, p.den I env) → p.den I env → ∀ q ∈ p.flat ++ K, q.den I env := fun hK hp q hq => by
    rcases List.mem_append.1 hq with h | h
    · exact PE.flat_den.2 hp q h
    · exact hK q h
  induction t with
  | ok => intros; trivial
  | fail n => intro _ _ _ _ _ h; exact h
  | assert p t ih =>
    intro ss K env hs hK h
    simp only [Tree.tidy] at h
    split at h
    · rename_i hk
      exact ⟨known_den hI hs hK hk, ih hs hK h⟩
    · exact ⟨h.1, ih hs (addK hK h.1) h.2⟩
  | assume p t ih =>
    intro ss K env hs hK h hp
    simp only [Tree.tidy] at h
    split at h
    · exact ih hs hK h
    split at h
    · rename_i hk; exact ih hs (addK hK hp) (Tree.isOk_vc hk)
    · exact ih hs (addK hK hp) (h hp)
  | branch e a b iha ihb =>
    intro ss K env hs hK h
    simp only [Tree.tidy] at h
    split at h
    · rename_i hk
      obtain ⟨m, h1, h2⟩ := known_den hI hs hK hk
      exact ⟨fun _ _ _ => iha hs hK h, fun h3 => by rw [h1] at h3; cases h3; exact (h2 rfl).elim⟩
    split at h
    · rename_i hk
      have h1 : e.den I env = some (.i 0) := known_den hI hs hK hk
      exact ⟨fun n h2 h3 => by rw [h1] at h2; cases h2; exact (h3 rfl).elim, fun _ => ihb hs hK h⟩
    have hT : ∀ n, e.den I env = some (.i n) → n ≠ 0 → ∀ q ∈ e.flat true ++ K, q.den I env := fun n h1 h2 => addK (p := .tt e) hK ⟨n, h1, h2⟩
    have hF : e.den I env = some (.i 0) → ∀ q ∈ e.flat false ++ K, q.den I env := fun h1 => addK (p := .ff e) hK h1
    split at h
    · rename_i hk
      simp only [Bool.and_eq_true] at hk
      exact ⟨fun n h1 h2 => iha hs (hT n h1 h2) (Tree.isOk_vc hk.1), fun h1 => ihb hs (hF h1) (Tree.isOk_vc hk.2)⟩
    · exact ⟨fun n h1 h2 => iha hs (hT n h1 h2) (h.1 n h1 h2), fun h1 => ihb hs (hF h1) (h.2 h1)⟩
  | both a b iha ihb =>
    intro ss K env hs hK h
    simp only [Tree.tidy] at h
    split at h
    · rename_i hk; exact ⟨iha hs hK (Tree.isOk_vc hk), ihb hs hK h⟩
    split at h
    · rename_i hk; exact ⟨iha hs hK h, ihb hs hK (Tree.isOk_vc hk)⟩
    · exact ⟨iha hs hK h.1, ihb hs hK h.2⟩
  | havoc s t ih =>
    intro ss K env hs hK h
    simp only [Tree.tidy] at h
    cases s with
    | true =>
      intro f
      have hs' := hs.app (b := true) (d := .t f) trivial
      have hK' : ∀ p ∈ K, p.den I (env ++ [.t f]) := fun p hp => PE.den_more (hK p hp)
      split at h
      · rename_i hk; exact ih hs' hK' (Tree.isOk_vc hk)
      · exact ih hs' hK' (h f)
    | false =>
      intro f
      have hs' := hs.app (b := false) (d := .i f) trivial
      have hK' : ∀ p ∈ K, p.den I (env ++ [.i f]) := fun p hp => PE.den_more (hK p hp)
      split at h
      · rename_i hk; exact ih hs' hK' (Tree.isOk_vc hk)
      · exact ih hs' hK' (h f)

/-- **A contract is kept where its tidied tree holds.** -/
def tidied (fs : Nat → Option Bool) (cx : Cx) (fuel : Nat) (c : Contract) : Tree := (verify cx fuel c).tidy fs c.sorts []
theorem tidied_sound {fs : Nat → Option Bool} (hI : I.tot fs) {cx : Cx} (hC : ∀ c ∈ cx.cs, COk I cx.P c) {fuel : Nat} {c : Contract} (h : ∀ ds, Sorts c.sorts ds → (tidied fs cx fuel c).vc I ds) : COk I cx.P c :=
  verify_sound hC fun ds hd => Tree.tidy_vc hI hd (by simp) (h ds hd)
theorem tidied_ok {fs : Nat → Option Bool} (hI : I.tot fs) {cx : Cx} (hC : ∀ c ∈ cx.cs, COk I cx.P c) {fuel : Nat} {c : Contract} (h : (tidied fs cx fuel c).isOk = true) : COk I cx.P c :=
  tidied_sound hI hC fun _ _ => Tree.isOk_vc h
/-- No function is known to be total. -/
def noFs : Nat → Option Bool := fun _ => none
theorem tot_none (I : Itp) : I.tot noFs := fun _ _ h => by cases h
end Go.Sx
