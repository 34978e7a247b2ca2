/-
  Contracts of functions that were walked elsewhere: from what a call is known to do, to the executor's contract. Conditions: none.
-/
import Derived.Test.YtbcclmpmljpbcaaGreatDoorSxRow
import Derived.Below
noncomputable section
namespace Go.Sx
open Go Go.RowKit

variable {A : Amb} {I : Itp} {P : Program} {g : G} {M : Mem} {w w' : World} {gl : List Glob}

/-- What was there is as it was. -/
structure Stays (w w' : World) : Prop where
  os : w'.os = w.os
  output : w'.output = w.output
  size : w.heap.size ≤ w'.heap.size
  block : ∀ k, k < w.heap.size → w'.heap[k]? = w.heap[k]?

theorem Stays.refl (w : World) : Stays w w := ⟨rfl, rfl, Nat.le_refl _, fun _ _ => rfl⟩
theorem Stays.below (h : Below w.heap.size w w') : Stays w w' := ⟨h.os, h.output, h.size, h.block⟩

/-- New variables. -/
def G.vars (g : G) (ds : List D) : G := { g with env := g.env ++ ds }
theorem G.vars_le (g : G) (ds : List D) : g.Le (g.vars ds) := ⟨⟨ds, rfl⟩, Nat.le_refl _, fun _ _ => rfl⟩

theorem MRel.stays (h : MRel A I P g M w) (hs : Stays w w') (ds : List D) : MRel A I P (g.vars ds) [] w' where
  wf := h.wf
  blk b x hb := by simp [get_nil] at hb
  lt b x hb := by simp [get_nil] at hb
  inj b c x y p q hb := by simp [get_nil] at hb
  bnd b p hb := Nat.lt_of_lt_of_le (h.bnd b p hb) hs.size
  own b x p hb := by simp [get_nil] at hb
  size := Nat.le_trans h.size hs.size
  keep i hi hX := by rw [hs.block i (Nat.lt_of_lt_of_le hi h.size)]; exact h.keep i hi hX
  same := ⟨by rw [hs.os]; exact h.same.1, by rw [hs.output]; exact h.same.2⟩

/-- A call that leaves memory as it was. -/
theorem COk.lib {c : Contract} (hmods : c.mods = []) (hfr : c.fresh = [])
    (H : ∀ (g : G) (w : World) (xs : List Value), Sorts c.sorts g.env → GOk gl (c.amb g w) → MRel (c.amb g w) I P g c.mem w → Rels I g c.args xs → (∀ p ∈ c.pre, p.den I g.env) →
      Calls P c.fn xs.toArray w fun e w' => ∃ v outs, e = .returned v ∧ Sorts c.outs outs ∧ Rel I (g.vars outs) c.res v ∧ Stays w w' ∧ (∀ p ∈ c.post, p.den I (g.env ++ outs))) : COk I P gl c := by
  intro g w xs hso hnb hG hm ha hp
  refine (H g w xs hso hG hm ha hp).mono fun e w' he => ?_
  obtain ⟨v, outs, rfl, h1, h2, h3, h4⟩ := he
  refine ⟨v, outs, g.vars outs, rfl, h1, rfl, ?_, fun _ _ => rfl, h2, ?_, h4⟩
  · rw [hfr]; exact hnb
  · rw [hmods, hfr]; exact hm.stays h3 outs

/-- A call that makes one block. -/
theorem COk.libF {c : Contract} {x : Blk} (hmods : c.mods = []) (hfr : c.fresh = [(c.nb, x)])
    (H : ∀ (g : G) (w : World) (xs : List Value), Sorts c.sorts g.env → GOk gl (c.amb g w) → MRel (c.amb g w) I P g c.mem w → Rels I g c.args xs → (∀ p ∈ c.pre, p.den I g.env) → g.nb = c.nb →
      Calls P c.fn xs.toArray w fun e w' => ∃ v outs o p w1, e = .returned v ∧ Sorts c.outs outs ∧ Stays w w1 ∧ w' = w1.alloc o ∧ p.blk = w1.heap.size ∧
        Rel I ((g.vars outs).lay (some p)) c.res v ∧ BRel I P ((g.vars outs).lay (some p)) g.nb (fun i => (w1.alloc o).heap[i]?) x ∧ (∀ p ∈ c.post, p.den I (g.env ++ outs))) : COk I P gl c := by
  intro g w xs hso hnb hG hm ha hp
  refine (H g w xs hso hG hm ha hp hnb).mono fun e w' he => ?_
  obtain ⟨v, outs, o, p, w1, rfl, h1, h3, rfl, h4, h5, h6, h7⟩ := he
  refine ⟨v, outs, (g.vars outs).lay (some p), rfl, h1, rfl, ?_, fun b hb => ?_, h5, ?_, h7⟩
  · rw [hfr]; show g.nb + 1 = _; rw [hnb]; rfl
  · have hb' : b ≠ g.nb := by omega
    simp [G.lay, G.vars, hb']
  · rw [hmods, hfr, ← hnb]
    exact (hm.stays h3 outs).alloc (M' := []) (fun _ _ h => h) h4 h6
end Go.Sx
