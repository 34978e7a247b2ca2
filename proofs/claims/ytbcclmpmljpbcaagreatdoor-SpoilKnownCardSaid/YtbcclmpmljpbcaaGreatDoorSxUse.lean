/-
  Contracts at use: trees without anything to show, and calls that find no memory of their own. Conditions: none.
-/
import Derived.Test.YtbcclmpmljpbcaaGreatDoorSxVerify
noncomputable section
namespace Go.Sx
open Go

variable {I : Itp} {P : Program}

/-- Nothing is asked. -/
def Tree.clean : Tree → Bool
  | .ok => true
  | .branch _ a b => a.clean && b.clean
  | .both a b => a.clean && b.clean
  | .assume _ t => t.clean
  | .havoc _ t => t.clean
  | _ => false

theorem Tree.clean_vc : ∀ {t : Tree} {env : List D}, t.clean = true → t.vc I env
  | .ok, _, _ => trivial
  | .branch _ a b, env, h => by
    simp only [Tree.clean, Bool.and_eq_true] at h
    exact ⟨fun _ _ _ => clean_vc h.1, fun _ => clean_vc h.2⟩
  | .both a b, env, h => by
    simp only [Tree.clean, Bool.and_eq_true] at h
    exact ⟨clean_vc h.1, clean_vc h.2⟩
  | .assume _ t, env, h => fun _ => clean_vc (by simpa [Tree.clean] using h)
  | .havoc true t, env, h => fun _ => clean_vc (by simpa [Tree.clean] using h)
  | .havoc false t, env, h => fun _ => clean_vc (by simpa [Tree.clean] using h)
  | .fail _, _, h => by simp [Tree.clean] at h
  | .assert _ _, _, h => by simp [Tree.clean] at h

theorem verify_clean {cx : Cx} (hC : ∀ c ∈ cx.cs, COk I cx.P cx.kn.globs c) {fuel : Nat} {c : Contract} (h : (verify cx fuel c).clean = true) : COk I cx.P cx.kn.globs c :=
  verify_sound hC fun _ _ => Tree.clean_vc h

/-- A call of a function whose contract speaks of no memory. -/
theorem COk.bare {gl : List Glob} {c : Contract} (h : COk I P gl c) (hm : c.mem = []) (hnb : c.nb = 0) {ds : List D} (hso : Sorts c.sorts ds) {xs : List Value} (w : World) (hG : GOk gl { w0 := w, X := fun _ => False }) (ha : Rels I { env := ds, φ := fun _ => none, nb := 0 } c.args xs)
    (hp : ∀ p ∈ c.pre, p.den I ds) : Calls P c.fn xs.toArray w fun e w' => ∃ v outs g', e = .returned v ∧ Sorts c.outs outs ∧ g'.env = ds ++ outs ∧ Rel I g' c.res v ∧ (∀ p ∈ c.post, p.den I g'.env) ∧
      w'.os = w.os ∧ w'.output = w.output ∧ w.heap.size ≤ w'.heap.size ∧ ∀ i, i < w.heap.size → w'.heap[i]? = w.heap[i]? := by
  let g : G := { env := ds, φ := fun _ => none, nb := 0 }
  have hX : ∀ i, ¬ (c.amb g w).X i := by
    rintro i ⟨b, x, p, h1, _⟩
    rw [hm] at h1; simp [get_nil] at h1
  have hmr : MRel (c.amb g w) I P g c.mem w := by
    rw [hm]
    exact ⟨fun _ _ => rfl, fun b x hb => by simp [get_nil] at hb, fun b x hb => by simp [get_nil] at hb, fun b c x y p q hb => by simp [get_nil] at hb, fun b p hb => by simp [g] at hb, fun b x p hb => by simp [get_nil] at hb, Nat.le_refl _, fun _ _ _ => rfl, rfl, rfl⟩
  refine (h g w xs hso (by rw [hnb]) (fun x hx => let ⟨h1, _, h3⟩ := hG x hx; ⟨h1, hX _, h3⟩) hmr ha hp).mono fun e w' he => ?_
  obtain ⟨v, outs, g', rfl, h1, h2, _, _, h5, h6, h7⟩ := he
  exact ⟨v, outs, g', rfl, h1, h2, h5, h7, h6.same.1, h6.same.2, h6.size, fun i hi => h6.keep i hi (hX i)⟩
end Go.Sx
