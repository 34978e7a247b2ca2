/-
  Logs and bytes that a law of the journal is given, opened. Conditions: none.
-/
import Derived.Test.YtoeacadacnnoeaaGreatDoorRows
import Derived.Test.YtoeacadacnnoeaaGreatDoorSxGive
import Derived.Test.YtoeacadacnnoeaaGreatDoorJnDf
import Derived.Lib.SmallJoins
import Derived.WalkKit
import Derived.ProofKit
import Derived.OpenShut
namespace Go.Jn
open Go Go.Sx Go.Mg Go.Proofs Go.ChangeShapes Go.WideShapes Go.ChangeAt Go.RowKit Go.Joins Go.Deep

set_option maxRecDepth 100000
theorem cells103 : Tryz.prog.cellsOf 103 = 7 := by kernel_rfl
theorem cells23 : Tryz.prog.cellsOf 23 = 5 := by kernel_rfl
theorem cells50 : Tryz.prog.cellsOf 50 = 2 := by kernel_rfl
theorem cells85 : Tryz.prog.cellsOf 85 = 3 := by kernel_rfl
theorem cells86 : Tryz.prog.cellsOf 86 = 1 := by kernel_rfl
theorem cells88 : Tryz.prog.cellsOf 88 = 4 := by kernel_rfl
theorem cells2 : Tryz.prog.cellsOf 2 = 1 := by kernel_rfl
theorem cells3 : Tryz.prog.cellsOf 3 = 1 := by kernel_rfl
theorem cells46 : Tryz.prog.cellsOf 46 = 1 := by kernel_rfl
theorem types88 : Tryz.prog.cellTypes Tryz.prog.depth 88 = some [3, 2, 3, 86] := by kernel_rfl

variable {H : Type} {enc : TypeId × Value → H} {W : World} {base : Nat}

theorem list7 {α : Type} {l : List α} (h : l.length = 7) : ∃ a b c d e f g, l = [a, b, c, d, e, f, g] := by
  rcases l with _ | ⟨a, _ | ⟨b, _ | ⟨c, _ | ⟨d, _ | ⟨e, _ | ⟨f, _ | ⟨g, _ | ⟨x, l⟩⟩⟩⟩⟩⟩⟩⟩
  · cases h
  · cases h
  · cases h
  · cases h
  · cases h
  · cases h
  · cases h
  · exact ⟨a, b, c, d, e, f, g, rfl⟩
  · simp only [List.length_cons] at h; omega
theorem lt_ne {a b : Int} (h : a < b) : BO.ev .lt a b ≠ 0 := by
  show (if a < b then (1 : Int) else 0) ≠ 0
  rw [if_pos h]; decide
theorem le_ne {a b : Int} (h : a ≤ b) : BO.ev .le a b ≠ 0 := by
  show (if a ≤ b then (1 : Int) else 0) ≠ 0
  rw [if_pos h]; decide
theorem wf_i64 {k : Int} (h : (Lit.int .i64 k).wf = true) : -9223372036854775808 ≤ k ∧ k ≤ 9223372036854775807 := by
  simp only [Lit.wf, Bool.and_eq_true, decide_eq_true_eq] at h
  simpa [IntKind.min, IntKind.max, IntKind.signed, IntKind.bits] using h
theorem trod_struct5 {P : Program} {w : World} {base : Nat} {spare : Nat → Bool} {held : Bool} {t : TypeId} {f0 f1 f2 f3 f4 : Field} {fuel : Nat} {cs : List Value} {x : DataW H × List MemPlace} (ht : P.underlying t = some (.struct #[f0, f1, f2, f3, f4])) (h : DataW.trod enc P w base spare held fuel t cs = some x) :
    ∃ y0 y1 y2 y3 y4 n, cs.length = P.cellsOf t ∧ DataW.trod enc P w base spare held n f0.type ((cs.drop f0.offset).take (P.cellsOf f0.type)) = some y0 ∧
      DataW.trod enc P w base spare held n f1.type ((cs.drop f1.offset).take (P.cellsOf f1.type)) = some y1 ∧ DataW.trod enc P w base spare held n f2.type ((cs.drop f2.offset).take (P.cellsOf f2.type)) = some y2 ∧
      DataW.trod enc P w base spare held n f3.type ((cs.drop f3.offset).take (P.cellsOf f3.type)) = some y3 ∧ DataW.trod enc P w base spare held n f4.type ((cs.drop f4.offset).take (P.cellsOf f4.type)) = some y4 := by
  obtain ⟨xs, n, _, rfl, hl, hlen, hf⟩ := DataW.trod_struct ht h
  match xs, hlen with
  | [y0, y1, y2, y3, y4], _ => exact ⟨y0, y1, y2, y3, y4, n, hl, by simpa using hf 0 f0 rfl, by simpa using hf 1 f1 rfl, by simpa using hf 2 f2 rfl, by simpa using hf 3 f3 rfl, by simpa using hf 4 f4 rfl⟩

/-- An entry's cells. -/
theorem entry_open {fuel : Nat} {cs : List Value} {x : DataW H × List MemPlace} (hl : cs.length = 7) (h : DataW.trod enc Tryz.prog W base (fun _ => true) true fuel 103 cs = some x) :
    ∃ q : Nat → Int, ∀ j, j < 7 → cs[j]? = some (.int .i64 (q j)) ∧ -9223372036854775808 ≤ q j ∧ q j ≤ 9223372036854775807 := by
  obtain ⟨v0, v1, v2, v3, v4, v5, v6, rfl⟩ := list7 hl
  obtain ⟨y0, y1, n, _, _, g0, g1⟩ := trod_struct2 Tryz.underlying103 h
  simp only [cells23, cells50, List.drop_zero, List.drop_succ_cons, List.take_succ_cons, List.take_zero] at g0 g1
  obtain ⟨_, _, _, _, _, k, _, a0, a1, a2, a3, a4⟩ := trod_struct5 Tryz.underlying23 g0
  obtain ⟨_, _, k', _, _, a5, a6⟩ := trod_struct2 Tryz.underlying50 g1
  simp only [cells3, cells2, cells46, List.drop_zero, List.drop_succ_cons, List.take_succ_cons, List.take_zero] at a0 a1 a2 a3 a4 a5 a6
  obtain ⟨k0, e0, _, w0⟩ := DataW.trod_int Tryz.underlying3 a0
  obtain ⟨k1, e1, _, w1⟩ := DataW.trod_int Tryz.underlying2 a1
  obtain ⟨k2, e2, _, w2⟩ := DataW.trod_int Tryz.underlying2 a2
  obtain ⟨k3, e3, _, w3⟩ := DataW.trod_int Tryz.underlying2 a3
  obtain ⟨k4, e4, _, w4⟩ := DataW.trod_int Tryz.underlying2 a4
  obtain ⟨k5, e5, _, w5⟩ := DataW.trod_int Tryz.underlying2 a5
  obtain ⟨k6, e6, _, w6⟩ := DataW.trod_int Tryz.underlying46 a6
  simp at e0 e1 e2 e3 e4 e5 e6
  subst e0 e1 e2 e3 e4 e5 e6
  refine ⟨fun j => if j = 0 then k0 else if j = 1 then k1 else if j = 2 then k2 else if j = 3 then k3 else if j = 4 then k4 else if j = 5 then k5 else k6, fun j hj => ?_⟩
  match j, hj with
  | 0, _ => exact ⟨rfl, wf_i64 w0⟩
  | 1, _ => exact ⟨rfl, wf_i64 w1⟩
  | 2, _ => exact ⟨rfl, wf_i64 w2⟩
  | 3, _ => exact ⟨rfl, wf_i64 w3⟩
  | 4, _ => exact ⟨rfl, wf_i64 w4⟩
  | 5, _ => exact ⟨rfl, wf_i64 w5⟩
  | 6, _ => exact ⟨rfl, wf_i64 w6⟩

/-- A slice's spot, from its cell. -/
theorem spot_open {r : Reach} {b0 : Nat} {t e : TypeId} (ht : Tryz.prog.underlying t = some (.slice e)) {a : Addr} {len cap : Nat} (hv : Cell.okWide Tryz.prog W r b0 t (.slice (some a) len cap)) :
    a.spot = none ∧ ∃ c T fr, W.heap[a.block]? = some (.cells c T fr) := by
  simp only [Cell.okWide, ht, Cell.ok] at hv
  obtain ⟨_, _, _, hspot, row, cells, hshape, _⟩ := hv
  refine ⟨hspot, ?_⟩
  unfold World.shape? at hshape
  split at hshape
  · rename_i c T fr hb; exact ⟨c, T, fr, hb⟩
  · cases hshape

theorem cells5 : Tryz.prog.cellsOf 5 = 1 := by kernel_rfl
theorem wf_u8 {k : Int} (h : (Lit.int .u8 k).wf = true) : 0 ≤ k ∧ k ≤ 255 := by
  simp only [Lit.wf, Bool.and_eq_true, decide_eq_true_eq] at h
  simpa [IntKind.min, IntKind.max, IntKind.signed, IntKind.bits] using h
theorem bytes_open {r : Reach} {b0 : Nat} {v : Value} {d : DataW H} {p : List MemPlace} (hv0 : Value.okWide Tryz.prog W r b0 92 v) (h : DataW.Trod enc Tryz.prog W base (fun _ => true) true 92 v d p) :
    ∃ (m : Int) (T : Int → Nat → Int), RowsV W u8K v m T ∧ 0 ≤ m ∧ ∀ r : Nat, (r : Int) < m → 0 ≤ T r 0 ∧ T r 0 ≤ 255 := by
  obtain ⟨fuel, hf⟩ := h
  simp only [Value.okWide, Tryz.underlying92] at hv0
  rcases open_slice Tryz.underlying92 hf with ⟨hc, _⟩ | ⟨a, len, cap, m, n, D, Pl, hc, _, hl, _, hm, _, hx⟩
  · have : v = .slice none 0 0 := by
      cases v <;> simp [Value.cells] at hc <;> simp [hc] <;> try simp [Cell.okWide, Cell.ok, Tryz.underlying92] at hv0
    subst this
    exact ⟨0, fun _ _ => 0, .none _, Int.le_refl _, fun r a => by omega⟩
  · have hv' : v = .slice (some a) len cap := by
      cases v <;> simp [Value.cells] at hc <;> simp [hc] <;> try simp [Cell.okWide, Cell.ok, Tryz.underlying92] at hv0
    subst hv'
    obtain ⟨hspot, c, T, fr, hb⟩ := spot_open Tryz.underlying92 hv0
    obtain ⟨blk, off, spot⟩ := a
    simp only at hspot hb
    subst hspot
    simp only [if_true] at hm
    subst hm
    have each : ∀ i, i < len → ∃ q : Int, c[off + i]? = some (.int .u8 q) ∧ 0 ≤ q ∧ q ≤ 255 := by
      intro i hi
      obtain ⟨cs', h1, h2⟩ := hx i (by omega)
      rw [cells5] at h1
      obtain ⟨_, hlen, hcell⟩ := World.cells?_some h1
      obtain ⟨k, e, _, w⟩ := DataW.trod_int Tryz.underlying5 h2
      subst e
      refine ⟨k, ?_, wf_u8 w⟩
      have := hcell 0 (by decide)
      rw [add_add] at this
      unfold Addr.add World.cell? at this
      by_cases z : i * 1 + 0 = 0
      · rw [if_pos z] at this; simp only [hb, Option.isSome_none] at this
        have hi0 : i = 0 := by omega
        subst hi0
        simpa using this
      · rw [if_neg z] at this; simp only [hb, Option.isSome_none] at this
        simpa [Nat.add_assoc] using this
    obtain ⟨q, hq⟩ := choose_lt each
    refine ⟨len, fun r _ => q r.toNat, .some blk off len m c T fr _ hl hb ?_, Int.natCast_nonneg _, fun r a => (hq r (by omega)).2⟩
    intro r j kk hr hj
    have h1 : j < 1 := by
      have := (List.getElem?_eq_some_iff.1 hj).1
      simpa [u8K] using this
    obtain rfl : j = 0 := by omega
    simp [u8K] at hj
    subst hj
    have := (hq r hr).1
    simpa [u8K, CK.val] using this

theorem log_open {r : Reach} {b0 : Nat} {v : Value} {d : DataW H} {p : List MemPlace} (hv0 : Value.okWide Tryz.prog W r b0 88 v) (h : DataW.Trod enc Tryz.prog W base (fun _ => true) true 88 v d p) :
    ∃ (x : Value) (a0 a1 a2 m : Int) (T : Int → Nat → Int), v = .agg #[.int .i64 a0, .int .i64 a1, .int .i64 a2, x] ∧ RowsV W k7 x m T ∧ 0 ≤ m ∧
      (-9223372036854775808 ≤ a0 ∧ a0 ≤ 9223372036854775807) ∧ (-9223372036854775808 ≤ a1 ∧ a1 ≤ 9223372036854775807) ∧ (-9223372036854775808 ≤ a2 ∧ a2 ≤ 9223372036854775807) ∧
      ∀ r : Int, 0 ≤ r → r < m → ∀ j, j < 7 → -9223372036854775808 ≤ T r j ∧ T r j ≤ 9223372036854775807 := by
  obtain ⟨fuel, hf⟩ := h
  simp only [Value.okWide, Tryz.underlying88] at hv0
  obtain ⟨cs, rfl, hsz, ts, ht, _, hrow⟩ := hv0
  rw [types88] at ht
  cases ht
  obtain ⟨l⟩ := cs
  rw [cells88] at hsz
  match l, hsz with
  | [c0, c1, c2, x], _ =>
  obtain ⟨u, hu, hv⟩ := hrow 3 x rfl
  simp at hu
  subst hu
  obtain ⟨y0, y1, n0, _, _, g0, g⟩ := trod_struct2 Tryz.underlying88 hf
  simp only [cells85, cells86, Value.cells, List.drop_zero, List.drop_succ_cons, List.take_succ_cons, List.take_zero] at g0 g
  obtain ⟨_, _, _, k, _, _, a0, a1, a2⟩ := trod_struct3 Tryz.underlying85 g0
  simp only [cells3, cells2, List.drop_zero, List.drop_succ_cons, List.take_succ_cons, List.take_zero] at a0 a1 a2
  obtain ⟨k0, e0, _, w0⟩ := DataW.trod_int Tryz.underlying3 a0
  obtain ⟨k1, e1, _, w1⟩ := DataW.trod_int Tryz.underlying2 a1
  obtain ⟨k2, e2, _, w2⟩ := DataW.trod_int Tryz.underlying3 a2
  simp at e0 e1 e2
  subst e0 e1 e2
  rcases open_slice Tryz.underlying86 g with ⟨hc, _⟩ | ⟨a, len, cap, m, n, D, Pl, hc, _, hl, _, hm, _, hx⟩
  · simp at hc
    subst hc
    exact ⟨_, k0, k1, k2, 0, fun _ _ => 0, rfl, .none _, Int.le_refl _, wf_i64 w0, wf_i64 w1, wf_i64 w2, fun r a b => by omega⟩
  · simp at hc
    subst hc
    obtain ⟨hspot, c, T, fr, hb⟩ := spot_open Tryz.underlying86 hv
    obtain ⟨blk, off, spot⟩ := a
    simp only at hspot hb
    subst hspot
    simp only [if_true] at hm
    subst hm
    have each : ∀ i, i < len → ∃ q : Nat → Int, ∀ j, j < 7 → c[off + i * 7 + j]? = some (.int .i64 (q j)) ∧ -9223372036854775808 ≤ q j ∧ q j ≤ 9223372036854775807 := by
      intro i hi
      obtain ⟨cs', h1, h2⟩ := hx i (by omega)
      rw [cells103] at h1
      obtain ⟨_, hlen, hcell⟩ := World.cells?_some h1
      obtain ⟨q, hq⟩ := entry_open hlen h2
      have cell : ∀ j, j < 7 → cs'[j]? = c[off + i * 7 + j]? := fun j hj => by
        rw [← hcell j hj, add_add]
        unfold Addr.add World.cell?
        by_cases z : i * 7 + j = 0
        · rw [if_pos z]; simp only [hb, Option.isSome_none]; simp [show off + i * 7 + j = off by omega]
        · rw [if_neg z]; simp only [hb, Option.isSome_none]; simp [Nat.add_assoc]
      exact ⟨q, fun j hj => ⟨by rw [← cell j hj]; exact (hq j hj).1, (hq j hj).2⟩⟩
    obtain ⟨q, hq⟩ := choose_lt each
    refine ⟨_, k0, k1, k2, len, fun r j => q r.toNat j, rfl, .some blk off len m c T fr _ hl hb ?_, Int.natCast_nonneg _, wf_i64 w0, wf_i64 w1, wf_i64 w2, fun r a b j hj => (hq r.toNat (by omega) j hj).2⟩
    intro r j kk hr hj
    have h7 : j < 7 := by
      have := (List.getElem?_eq_some_iff.1 hj).1
      simpa [k7] using this
    have hk : kk = .int .i64 := by
      match j, h7 with
      | 0, _ => simpa [k7] using hj.symm
      | 1, _ => simpa [k7] using hj.symm
      | 2, _ => simpa [k7] using hj.symm
      | 3, _ => simpa [k7] using hj.symm
      | 4, _ => simpa [k7] using hj.symm
      | 5, _ => simpa [k7] using hj.symm
      | 6, _ => simpa [k7] using hj.symm
    subst hk
    have := (hq r hr j h7).1
    simpa [k7, CK.val] using this
end Go.Jn
