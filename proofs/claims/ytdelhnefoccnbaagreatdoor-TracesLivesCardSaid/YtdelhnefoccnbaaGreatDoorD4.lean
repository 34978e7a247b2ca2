/-
  What a row's listed variables give the executor: the two tables' cells. Conditions: none.
-/
import Derived.Test.YtdelhnefoccnbaaGreatDoorRows
import Derived.Test.YtdelhnefoccnbaaGreatDoorB1
import Derived.ProofKit
import Derived.LaidMore
import Derived.OpenShut
import Derived.MakeChecks
import Derived.Stop.Joined
import Derived.Test.YtdelhnefoccnbaaGreatDoorA5
import Derived.Test.YtdelhnefoccnbaaGreatDoorC1
import Derived.Lib.SmallJoins
import Derived.WalkKit
namespace Go.Mg
open Go Go.Sx Go.Proofs Go.ChangeShapes Go.WideShapes Go.ChangeAt
section
variable {H : Type} {enc : TypeId × Value → H} {P : Program} {w : World} {base : Nat} {sp : Nat → Bool} {held : Bool}
theorem tab_cells {t e : TypeId} {n fuel : Nat} {k : IntKind} {cs : List Value} {l : List Int} {p : List MemPlace} (ht : P.underlying t = some (.array n e)) (he : P.underlying e = some (.int k)) (hce : P.cellsOf e = 1)
    (h : DataW.trod enc P w base sp held fuel t cs = some (.agg (l.map fun n => .lit (.int k n)), p)) : ∀ (i : Nat) (x : Int), l[i]? = some x → cs[i]? = some (.int k x) := by
  intro i x hi
  obtain ⟨xs, m, _, hx, _, hlen, hel⟩ := DataW.trod_array ht h
  simp only [Prod.mk.injEq, DataW.agg.injEq] at hx
  obtain ⟨hx, _⟩ := hx
  have hlt : i < n := by
    have h1 := (List.getElem?_eq_some_iff.1 hi).1
    have h2 := congrArg List.length hx
    simp at h2
    omega
  have h1 := hel i hlt
  rw [hce, Nat.mul_one] at h1
  have h2 : (l.map fun n => (DataW.lit (.int k n) : DataW H))[i]? = some (.lit (.int k x)) := by rw [List.getElem?_map, hi]; rfl
  rw [hx, List.getElem?_map] at h2
  cases hy : xs[i]? with
  | none => rw [hy] at h2; cases h2
  | some y =>
    rw [hy] at h1 h2
    obtain ⟨r, e1, e2, _⟩ := DataW.trod_int he h1
    rw [e2] at h2
    simp only [Option.map_some, Option.some.injEq, DataW.lit.injEq, Lit.int.injEq, true_and] at h2
    subst h2
    have e3 : ((cs.drop i).take 1)[0]? = some (.int k r) := by rw [e1]; rfl
    rw [List.getElem?_take_of_lt (by omega), List.getElem?_drop] at e3
    simpa using e3
end
theorem g32 : Tryz.prog.globalNamed "math/bits.deBruijn32tab" = some 0 := by kernel_rfl
theorem g64 : Tryz.prog.globalNamed "math/bits.deBruijn64tab" = some 1 := by kernel_rfl
abbrev laid2 : List (String × DataW Unit) := [("math/bits.deBruijn32tab", YtdelhnefoccnbaaGreatDoor.Rows.laid_math_bits_deBruijn32tab), ("math/bits.deBruijn64tab", YtdelhnefoccnbaaGreatDoor.Rows.laid_math_bits_deBruijn64tab)]
theorem var_cells {P : Program} {W : World} {s : String} {g : Nat} {cs : Array Value} (hg : P.globalNamed s = some g) (h : W.var? P s = some cs) : ∃ T fr, W.heap[g]? = some (.cells cs T fr) := by
  simp only [World.var?, hg, Option.bind_some] at h
  split at h
  · rename_i c T fr hh
    simp at h; subst h
    exact ⟨T, fr, hh⟩
  · cases h
theorem tabs_ok {W : World} (h : laidMetH Tryz.prog laid2 W) : GOk gls { w0 := W, X := fun _ => False } := by
  rw [MakeChecks.laidMetH_plain _ _ _ (by kernel_rfl)] at h
  obtain ⟨ps, ⟨g0, t0, cs0, f0, p0, q0, hg0, ht0, hv0, hd0, ⟨g1, t1, cs1, f1, p1, q1, hg1, ht1, hv1, hd1, _, _⟩, _⟩, _, _⟩ := h
  obtain rfl := Option.some.inj (g32.symm.trans hg0)
  obtain rfl := Option.some.inj (g64.symm.trans hg1)
  have e0 : ((Tryz.prog.globals[0]?).map (·.type)).bind (fun t => Tryz.prog.underlying t) = some (.array 32 5) := by kernel_rfl
  have e1 : ((Tryz.prog.globals[1]?).map (·.type)).bind (fun t => Tryz.prog.underlying t) = some (.array 64 5) := by kernel_rfl
  rw [ht0] at e0
  rw [ht1] at e1
  have u5 : Tryz.prog.underlying 5 = some (.int .u8) := by kernel_rfl
  have c5 : Tryz.prog.cellsOf 5 = 1 := by kernel_rfl
  obtain ⟨T0, r0, k0⟩ := var_cells hg0 hv0
  obtain ⟨T1, r1, k1⟩ := var_cells hg1 hv1
  have d0 := tab_cells (l := tab32) (by simpa using e0) u5 c5 hd0
  have d1 := tab_cells (l := tab64) (by simpa using e1) u5 c5 hd1
  have lt : ∀ {i : Nat} {b : Obj}, W.heap[i]? = some b → i < W.heap.size := fun h => (Array.getElem?_eq_some_iff.1 h).1
  intro x hx
  simp only [gls, List.mem_cons, List.not_mem_nil, or_false] at hx
  rcases hx with rfl | rfl
  · exact ⟨lt k1, fun h => h, cs1, T1, r1, k1, fun k n hn => by rw [← Array.getElem?_toList]; exact d1 k n hn, fun h => (by cases h), fun h => (by cases h), fun h => (by cases h)⟩
  · exact ⟨lt k0, fun h => h, cs0, T0, r0, k0, fun k n hn => by rw [← Array.getElem?_toList]; exact d0 k n hn, fun h => (by cases h), fun h => (by cases h), fun h => (by cases h)⟩
theorem door_met (os : Os) (args : Array Value) : laidMetH Tryz.prog laid2 ((World.doorLaid Tryz.prog 19 os).forCall (fun _ _ => 0) ⟨#[], args, []⟩).memory :=
  laidMetH_of_parts3 (fuel := 8) (laidMet_of_run' 8 (by kernel_rfl) (by kernel_rfl)) (by kernel_rfl) (by kernel_rfl)
end Go.Mg
namespace Go.Tt
open Go Go.Sx Go.Mg Go.Proofs Go.ChangeShapes Go.WideShapes Go.ChangeAt Go.RowKit Go.Joins Go.Deep
set_option maxRecDepth 100000
theorem cells2 : Tryz.prog.cellsOf 2 = 1 := by kernel_rfl
theorem cells3 : Tryz.prog.cellsOf 3 = 1 := by kernel_rfl
theorem cells9 : Tryz.prog.cellsOf 9 = 1 := by kernel_rfl
theorem cells34 : Tryz.prog.cellsOf 34 = 8 := by kernel_rfl
theorem cells22 : Tryz.prog.cellsOf 22 = 1 := by kernel_rfl
theorem cells24 : Tryz.prog.cellsOf 24 = 4 := by kernel_rfl
theorem types24 : Tryz.prog.cellTypes Tryz.prog.depth 24 = some [3, 2, 3, 22] := by kernel_rfl
variable {H : Type} {enc : TypeId × Value → H} {W : World} {base : Nat}
theorem list8 {α : Type} {l : List α} (h : l.length = 8) : ∃ a b c d e f g i, l = [a, b, c, d, e, f, g, i] := by
  match l, h with
  | [a, b, c, d, e, f, g, i], _ => exact ⟨a, b, c, d, e, f, g, i, rfl⟩
theorem wf_i64 {k : Int} (h : (Lit.int .i64 k).wf = true) : I64 k := by
  simp only [Lit.wf, Bool.and_eq_true, decide_eq_true_eq] at h
  simpa [I64, IntKind.min, IntKind.max, IntKind.signed, IntKind.bits] using h
theorem str_val (b : ByteArray) : Value.string b = Value.string ⟨(sdec (senc b.data.toList)).toArray⟩ := by rw [sdec_senc]
theorem trod_struct8' {P : Program} {w : World} {base : Nat} {spare : Nat → Bool} {held : Bool} {t : TypeId} {f0 f1 f2 f3 f4 f5 f6 f7 : Field} {fuel : Nat} {cs : List Value} {x : DataW H × List MemPlace} (ht : P.underlying t = some (.struct #[f0, f1, f2, f3, f4, f5, f6, f7])) (h : DataW.trod enc P w base spare held fuel t cs = some x) :
    ∃ y0 y1 y2 y3 y4 y5 y6 y7 n, cs.length = P.cellsOf t ∧ DataW.trod enc P w base spare held n f0.type ((cs.drop f0.offset).take (P.cellsOf f0.type)) = some y0 ∧ DataW.trod enc P w base spare held n f1.type ((cs.drop f1.offset).take (P.cellsOf f1.type)) = some y1 ∧ DataW.trod enc P w base spare held n f2.type ((cs.drop f2.offset).take (P.cellsOf f2.type)) = some y2 ∧ DataW.trod enc P w base spare held n f3.type ((cs.drop f3.offset).take (P.cellsOf f3.type)) = some y3 ∧ DataW.trod enc P w base spare held n f4.type ((cs.drop f4.offset).take (P.cellsOf f4.type)) = some y4 ∧ DataW.trod enc P w base spare held n f5.type ((cs.drop f5.offset).take (P.cellsOf f5.type)) = some y5 ∧ DataW.trod enc P w base spare held n f6.type ((cs.drop f6.offset).take (P.cellsOf f6.type)) = some y6 ∧ DataW.trod enc P w base spare held n f7.type ((cs.drop f7.offset).take (P.cellsOf f7.type)) = some y7 := by
  obtain ⟨xs, n, _, rfl, hl, hlen, hf⟩ := DataW.trod_struct ht h
  match xs, hlen with
  | [y0, y1, y2, y3, y4, y5, y6, y7], _ => exact ⟨y0, y1, y2, y3, y4, y5, y6, y7, n, hl, by simpa using hf 0 f0 rfl, by simpa using hf 1 f1 rfl, by simpa using hf 2 f2 rfl, by simpa using hf 3 f3 rfl, by simpa using hf 4 f4 rfl, by simpa using hf 5 f5 rfl, by simpa using hf 6 f6 rfl, by simpa using hf 7 f7 rfl⟩
theorem trod_struct4' {P : Program} {w : World} {base : Nat} {spare : Nat → Bool} {held : Bool} {t : TypeId} {f0 f1 f2 f3 : Field} {fuel : Nat} {cs : List Value} {x : DataW H × List MemPlace} (ht : P.underlying t = some (.struct #[f0, f1, f2, f3])) (h : DataW.trod enc P w base spare held fuel t cs = some x) :
    ∃ y0 y1 y2 y3 n, cs.length = P.cellsOf t ∧ DataW.trod enc P w base spare held n f0.type ((cs.drop f0.offset).take (P.cellsOf f0.type)) = some y0 ∧ DataW.trod enc P w base spare held n f1.type ((cs.drop f1.offset).take (P.cellsOf f1.type)) = some y1 ∧ DataW.trod enc P w base spare held n f2.type ((cs.drop f2.offset).take (P.cellsOf f2.type)) = some y2 ∧ DataW.trod enc P w base spare held n f3.type ((cs.drop f3.offset).take (P.cellsOf f3.type)) = some y3 := by
  obtain ⟨xs, n, _, rfl, hl, hlen, hf⟩ := DataW.trod_struct ht h
  match xs, hlen with
  | [y0, y1, y2, y3], _ => exact ⟨y0, y1, y2, y3, n, hl, by simpa using hf 0 f0 rfl, by simpa using hf 1 f1 rfl, by simpa using hf 2 f2 rfl, by simpa using hf 3 f3 rfl⟩
theorem step_open {fuel : Nat} {cs : List Value} {x : DataW H × List MemPlace} (hl : cs.length = 8) (h : DataW.trod enc Tryz.prog W base (fun _ => true) true fuel 34 cs = some x) :
    ∃ q : Nat → Int, (∀ (j : Nat) (k : CK), stK[j]? = some k → cs[j]? = some (k.val (q j))) ∧ I64 (q 0) ∧ I64 (q 3) ∧ I64 (q 4) ∧ I64 (q 5) ∧ I64 (q 6) ∧ I64 (q 7) := by
  obtain ⟨v0, v1, v2, v3, v4, v5, v6, v7, rfl⟩ := list8 hl
  obtain ⟨_, _, _, _, _, _, _, _, n, _, a0, a1, a2, a3, a4, a5, a6, a7⟩ := trod_struct8' Tryz.underlying34 h
  simp only [cells3, cells2, cells9, List.drop_zero, List.drop_succ_cons, List.take_succ_cons, List.take_zero] at a0 a1 a2 a3 a4 a5 a6 a7
  obtain ⟨k0, e0, _, w0⟩ := DataW.trod_int Tryz.underlying3 a0
  obtain ⟨b1, e1, _, _⟩ := DataW.trod_string Tryz.underlying9 a1
  obtain ⟨b2, e2, _, _⟩ := DataW.trod_string Tryz.underlying9 a2
  obtain ⟨k3, e3, _, w3⟩ := DataW.trod_int Tryz.underlying2 a3
  obtain ⟨k4, e4, _, w4⟩ := DataW.trod_int Tryz.underlying2 a4
  obtain ⟨k5, e5, _, w5⟩ := DataW.trod_int Tryz.underlying2 a5
  obtain ⟨k6, e6, _, w6⟩ := DataW.trod_int Tryz.underlying3 a6
  obtain ⟨k7, e7, _, w7⟩ := DataW.trod_int Tryz.underlying2 a7
  simp at e0 e1 e2 e3 e4 e5 e6 e7
  subst e0 e1 e2 e3 e4 e5 e6 e7
  refine ⟨fun j => if j = 0 then k0 else if j = 1 then senc b1.data.toList else if j = 2 then senc b2.data.toList else if j = 3 then k3 else if j = 4 then k4 else if j = 5 then k5 else if j = 6 then k6 else k7, fun j k hj => ?_, wf_i64 w0, wf_i64 w3, wf_i64 w4, wf_i64 w5, wf_i64 w6, wf_i64 w7⟩
  have h8 : j < 8 := (List.getElem?_eq_some_iff.1 hj).1
  match j, h8 with
  | 0, _ => obtain rfl := Option.some.inj hj; rfl
  | 1, _ => obtain rfl := Option.some.inj hj; exact congrArg some (str_val b1)
  | 2, _ => obtain rfl := Option.some.inj hj; exact congrArg some (str_val b2)
  | 3, _ => obtain rfl := Option.some.inj hj; rfl
  | 4, _ => obtain rfl := Option.some.inj hj; rfl
  | 5, _ => obtain rfl := Option.some.inj hj; rfl
  | 6, _ => obtain rfl := Option.some.inj hj; rfl
  | 7, _ => obtain rfl := Option.some.inj hj; rfl
theorem spot_open {r : Reach} {b0 : Nat} {t e : TypeId} (ht : Tryz.prog.underlying t = some (.slice e)) {a : Addr} {len cap : Nat} (hv : Cell.okWide Tryz.prog W r b0 t (.slice (some a) len cap)) :
    a.spot = none ∧ ∃ c T fr, W.heap[a.block]? = some (.cells c T fr) := by
  simp only [Cell.okWide, ht, Cell.ok] at hv
  obtain ⟨_, _, _, hspot, row, cells, hshape, _⟩ := hv
  refine ⟨hspot, ?_⟩
  unfold World.shape? at hshape
  split at hshape
  · rename_i c T fr hb; exact ⟨c, T, fr, hb⟩
  · cases hshape
theorem prog_open {r : Reach} {b0 : Nat} {v : Value} {d : DataW H} {p : List MemPlace} (hv0 : Value.okWide Tryz.prog W r b0 24 v) (h : DataW.Trod enc Tryz.prog W base (fun _ => true) true 24 v d p) :
    ∃ (x : Value) (a0 a1 a2 m : Int) (T : Int → Nat → Int), v = .agg #[.int .i64 a0, .int .i64 a1, .int .i64 a2, x] ∧ RowsV W stK x m T ∧ 0 ≤ m ∧ m ≤ 9223372036854775807 ∧ I64 a0 ∧ I64 a1 ∧ I64 a2 ∧ TbR T m := by
  obtain ⟨fuel, hf⟩ := h
  simp only [Value.okWide, Tryz.underlying24] at hv0
  obtain ⟨cs, rfl, hsz, ts, ht, _, hrow⟩ := hv0
  rw [types24] at ht
  cases ht
  obtain ⟨l⟩ := cs
  rw [cells24] at hsz
  match l, hsz with
  | [c0, c1, c2, x], _ =>
  obtain ⟨u, hu, hv⟩ := hrow 3 x rfl
  simp at hu
  subst hu
  obtain ⟨_, _, _, _, n0, _, a0, a1, a2, g⟩ := trod_struct4' Tryz.underlying24 hf
  simp only [cells3, cells2, cells22, Value.cells, List.drop_zero, List.drop_succ_cons, List.take_succ_cons, List.take_zero] at a0 a1 a2 g
  obtain ⟨k0, e0, _, w0⟩ := DataW.trod_int Tryz.underlying3 a0
  obtain ⟨k1, e1, _, w1⟩ := DataW.trod_int Tryz.underlying2 a1
  obtain ⟨k2, e2, _, w2⟩ := DataW.trod_int Tryz.underlying3 a2
  simp at e0 e1 e2
  subst e0 e1 e2
  rcases open_slice Tryz.underlying22 g with ⟨hc, _⟩ | ⟨a, len, cap, m, n, D, Pl, hc, _, hl, hmax, hm, _, hx⟩
  · simp at hc
    subst hc
    exact ⟨_, k0, k1, k2, 0, fun _ _ => 0, rfl, .none _, Int.le_refl _, by decide, wf_i64 w0, wf_i64 w1, wf_i64 w2, fun r a b => by omega⟩
  · simp at hc
    subst hc
    obtain ⟨hspot, c, T, fr, hb⟩ := spot_open Tryz.underlying22 hv
    obtain ⟨blk, off, spot⟩ := a
    simp only at hspot hb
    subst hspot
    simp only [if_true] at hm
    subst hm
    have each : ∀ i, i < len → ∃ q : Nat → Int, (∀ (j : Nat) (k : CK), stK[j]? = some k → c[off + i * 8 + j]? = some (k.val (q j))) ∧ I64 (q 0) ∧ I64 (q 3) ∧ I64 (q 4) ∧ I64 (q 5) ∧ I64 (q 6) ∧ I64 (q 7) := by
      intro i hi
      obtain ⟨cs', h1, h2⟩ := hx i (by omega)
      rw [cells34] at h1
      obtain ⟨_, hlen, hcell⟩ := World.cells?_some h1
      obtain ⟨q, hq, hr⟩ := step_open hlen h2
      have cell : ∀ j, j < 8 → cs'[j]? = c[off + i * 8 + j]? := fun j hj => by
        rw [← hcell j hj, add_add]
        unfold Addr.add World.cell?
        by_cases z : i * 8 + j = 0
        · rw [if_pos z]; simp only [hb, Option.isSome_none]; simp [show off + i * 8 + j = off by omega]
        · rw [if_neg z]; simp only [hb, Option.isSome_none]; simp [Nat.add_assoc]
      exact ⟨q, fun j k hj => by rw [← cell j (List.getElem?_eq_some_iff.1 hj).1]; exact hq j k hj, hr⟩
    obtain ⟨q, hq⟩ := choose_lt each
    refine ⟨_, k0, k1, k2, len, fun r j => q r.toNat j, rfl, .some blk off len m c T fr _ hl hb ?_, Int.natCast_nonneg _, ?_, wf_i64 w0, wf_i64 w1, wf_i64 w2, fun r a b => (hq r.toNat (by omega)).2⟩
    · intro r j kk hr hj
      exact (hq r hr).1 j kk hj
    · unfold maxLen at hmax
      omega
theorem gives_some {I : Itp} {P : Program} {ks : List CK} {b off len cap : Nat} {c : Array Value} {T : TypeId} {fr : Nat × Nat} {f : Int → Nat → Int} (hl : len ≤ cap) (hb : W.heap[b]? = some (.cells c T fr))
    (hc : ∀ r j : Nat, ∀ k : CK, r < len → ks[j]? = some k → c[off + r * ks.length + j]? = some (k.val (f r j))) (env : List D) (iT iN : Nat) (hT : env[iT]? = some (.t f)) (hN : env[iN]? = some (.i (len : Nat))) :
    ∃ g : G, g.env = env ∧ g.nb = 1 ∧ (∀ c : Contract, c.mem = [(0, .rows ks (.var iT) (.var iN) false false)] → MRel (c.amb g W) I P g c.mem W ∧ ∀ i, ¬ (c.amb g W).X i) ∧
      Rel I g (.slice 0 (.lit 0) (.var iN) ks.length false) (.slice (some ⟨b, off, none⟩) len cap) := by
  let p : PB := { blk := b, base := off, tot := cap * ks.length }
  let g : G := { env := env, φ := fun i => if i = 0 then some p else none, nb := 1 }
  have hφ : g.φ 0 = some p := rfl
  have hφ' : ∀ i q, g.φ i = some q → i = 0 ∧ q = p := fun i q h => by
    by_cases hi : i = 0
    · subst hi; rw [hφ] at h; cases h; exact ⟨rfl, rfl⟩
    · simp [g, hi] at h
  refine ⟨g, rfl, rfl, fun k hk => ?_, ?_⟩
  · have hget : ∀ i x, Sx.get k.mem i = some x → i = 0 ∧ x = .rows ks (.var iT) (.var iN) false false := by
      intro i x hx
      rw [hk] at hx
      simp only [get_cons, get_nil] at hx
      split at hx
      · rename_i e; cases hx; exact ⟨e.symm, rfl⟩
      · cases hx
    have hX : ∀ i, ¬ (k.amb g W).X i := by
      rintro i ⟨j, x, q, h1, h2, _⟩
      obtain ⟨_, rfl⟩ := hget j x h1
      cases h2
    refine ⟨⟨fun i hi => ?_, fun i x hx => ?_, fun i x hx => ?_, fun i j x y q r hx hy hw => ?_, fun i q hq => ?_, fun i x q hx hw => ?_, Nat.le_refl _, fun _ _ _ => rfl, ⟨rfl, rfl⟩, fun i x o hx hr => ?_⟩, hX⟩
    · have : i ≠ 0 := by have : 1 ≤ i := hi; omega
      simp [g, this]
    · obtain ⟨rfl, rfl⟩ := hget i x hx
      exact ⟨f, len, hT, hN, Int.natCast_nonneg _, .inl ⟨p, c, T, fr, hφ, hb, fun r j k hr hj => hc r j k (by simpa using hr) hj, fun h => by cases h⟩⟩
    · obtain ⟨rfl, _⟩ := hget i x hx; exact Nat.zero_lt_one
    · obtain ⟨_, rfl⟩ := hget i x hx; cases hw
    · obtain ⟨_, rfl⟩ := hφ' i q hq
      exact (Array.getElem?_eq_some_iff.1 hb).1
    · obtain ⟨_, rfl⟩ := hget i x hx; cases hw
    · obtain ⟨_, rfl⟩ := hget i x hx; exact hr.elim
  · exact ⟨0, len, rfl, hN, Int.le_refl _, by omega, .inl ⟨p, cap, hφ, by simp [p], by simpa using hl, by simp [p]⟩⟩
end Go.Tt
