/-
  Lists of numbers that a law is given: the symbolic state of the law's start. Conditions: none.
-/
import Derived.Test.YtoeacadacnnoeaaGreatDoorSxRow
namespace Go.Sx
open Go

/-- A list whose elements are cells of these kinds, as it lies in memory. -/
inductive RowsV (W : World) (ks : List CK) : Value → Int → (Int → Nat → Int) → Prop
  | none (T : Int → Nat → Int) : RowsV W ks (.slice none 0 0) 0 T
  | some (b off len cap : Nat) (c : Array Value) (T : TypeId) (fr : Nat × Nat) (f : Int → Nat → Int) (hl : len ≤ cap) (hb : W.heap[b]? = some (.cells c T fr))
      (hc : ∀ r j : Nat, ∀ k : CK, r < len → ks[j]? = some k → c[off + r * ks.length + j]? = some (k.val (f r j))) : RowsV W ks (.slice (some ⟨b, off, none⟩) len cap) len f

structure RowIn where
  ks : List CK
  v : Value
  n : Int
  T : Int → Nat → Int
  iT : Nat
  iN : Nat

def RowIn.pb (x : RowIn) : Option PB := match x.v with
  | .slice (some a) _ cap => some { blk := a.block, base := a.off, tot := cap * x.ks.length }
  | _ => none
def givesM : Nat → List RowIn → Mem
  | _, [] => []
  | i, x :: l => (i, .rows x.ks (.var x.iT) (.var x.iN) false true) :: givesM (i + 1) l

theorem givesM_get : ∀ {l : List RowIn} {i b : Nat} {y : Blk}, get (givesM i l) b = some y → ∃ x, i ≤ b ∧ l[b - i]? = some x ∧ y = .rows x.ks (.var x.iT) (.var x.iN) false true
  | [], i, b, y, h => by simp [givesM, get] at h
  | x :: l, i, b, y, h => by
    simp only [givesM, get] at h
    split at h
    · rename_i e; subst e; cases h; exact ⟨x, Nat.le_refl _, by simp, rfl⟩
    · rename_i e
      obtain ⟨z, h1, h2, h3⟩ := givesM_get h
      refine ⟨z, by omega, ?_, h3⟩
      rw [show b - i = (b - (i + 1)) + 1 by omega]
      simpa using h2

theorem gives_rel {W : World} {I : Itp} {P : Program} (l : List RowIn) (env : List D) (hl : ∀ x ∈ l, RowsV W x.ks x.v x.n x.T ∧ env[x.iT]? = some (.t x.T) ∧ env[x.iN]? = some (.i x.n)) :
    ∃ g : G, g.env = env ∧ g.nb = l.length ∧ (∀ c : Contract, c.mem = givesM 0 l → MRel (c.amb g W) I P g c.mem W ∧ ∀ i, ¬ (c.amb g W).X i) ∧
      ∀ i x, l[i]? = some x → Rel I g (.slice i (.lit 0) (.var x.iN) x.ks.length true) x.v := by
  let g : G := { env := env, φ := fun i => (l[i]?).bind RowIn.pb, nb := l.length }
  refine ⟨g, rfl, rfl, fun c hc => ?_, fun i x hx => ?_⟩
  · have hX : ∀ i, ¬ (c.amb g W).X i := by
      rintro i ⟨b, y, p, h1, h2, _⟩
      rw [hc] at h1
      obtain ⟨x, _, _, rfl⟩ := givesM_get h1
      cases h2
    refine ⟨?_, hX⟩
    rw [hc]
    refine ⟨fun b hb => ?_, fun b y hy => ?_, fun b y hy => ?_, fun b c x y p q hx _ hw => ?_, fun b p hp => ?_, fun b x p hx hw => ?_, Nat.le_refl _, fun _ _ _ => rfl, rfl, rfl⟩
    · show (l[b]?).bind RowIn.pb = none
      rw [List.getElem?_eq_none hb]; rfl
    · obtain ⟨x, _, h2, rfl⟩ := givesM_get hy
      simp only [Nat.sub_zero] at h2
      obtain ⟨hv, hT, hN⟩ := hl x (List.mem_of_getElem? h2)
      obtain ⟨ks, v, n, T, iT, iN⟩ := x
      have hφ : g.φ b = RowIn.pb ⟨ks, v, n, T, iT, iN⟩ := by show (l[b]?).bind RowIn.pb = _; rw [h2]; rfl
      cases hv with
      | none T => exact ⟨_, 0, hT, hN, Int.le_refl _, .inr ⟨rfl, rfl, hφ⟩⟩
      | some b' off len cap c T' fr f hl hb hc =>
        refine ⟨_, (len : Int), hT, hN, Int.natCast_nonneg _, .inl ⟨_, c, T', fr, hφ, hb, fun r j k hr hj => ?_, fun h => by cases h⟩⟩
        exact hc r j k (by simpa using hr) hj
    · obtain ⟨x, _, h2, _⟩ := givesM_get hy
      simp only [Nat.sub_zero] at h2
      exact (List.getElem?_eq_some_iff.1 h2).1
    · obtain ⟨z, _, _, rfl⟩ := givesM_get hx
      cases hw
    · have hp : (l[b]?).bind RowIn.pb = some p := hp
      rcases h2 : l[b]? with _ | x
      · rw [h2] at hp; cases hp
      · rw [h2, Option.bind_some] at hp
        obtain ⟨hv, _, _⟩ := hl x (List.mem_of_getElem? h2)
        obtain ⟨ks, v, n, T, iT, iN⟩ := x
        cases hv with
        | none T => cases hp
        | some b' off len cap c T' fr f hl hb hc =>
          cases hp
          exact (Array.getElem?_eq_some_iff.1 hb).1
    · obtain ⟨z, _, _, rfl⟩ := givesM_get hx
      cases hw
  · obtain ⟨hv, _, hN⟩ := hl x (List.mem_of_getElem? hx)
    have hφ : g.φ i = x.pb := by show (l[i]?).bind RowIn.pb = _; rw [hx]; rfl
    obtain ⟨ks, v, n, T, iT, iN⟩ := x
    cases hv with
    | none T => exact ⟨0, 0, rfl, hN, Int.le_refl _, Int.le_refl _, .inr ⟨rfl, rfl, _, rfl⟩⟩
    | some b' off len cap c T' fr f hl hb hc => exact ⟨0, len, rfl, hN, Int.le_refl _, by omega, .inl ⟨_, cap, hφ, by simp, by simpa using hl, by simp⟩⟩
end Go.Sx
