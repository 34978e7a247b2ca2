/-
  What the rows' listed variables, and the world's shape, give the executor. Conditions: none.
-/
import Derived.Test.YtmlimaopoghcmaaGreatDoorRows
import Derived.Test.YtmlimaopoghcmaaGreatDoorB1
import Derived.ProofKit
import Derived.LaidMore
import Derived.LaidLaws
import Derived.Stop.LaidErr
import Derived.OpenShut
import Derived.MakeChecks
import Derived.Lib.LaidTab
import Derived.Lay
import Derived.Shelf.Vars
import Derived.HandedShaped
import Derived.KernelRfl
import Derived.Test.YtmlimaopoghcmaaGreatDoorA4
import Derived.Lib.SmallJoins
import Derived.WalkKit
namespace Go.Mg
open Go Go.Sx Go.Proofs Go.ChangeShapes Go.WideShapes Go.ChangeAt
abbrev laid3 : List (String × DataW Unit) := [("math/bits.deBruijn32tab", YtmlimaopoghcmaaGreatDoor.Rows.laid_math_bits_deBruijn32tab), ("math/bits.deBruijn64tab", YtmlimaopoghcmaaGreatDoor.Rows.laid_math_bits_deBruijn64tab), ("internal/strconv.uint64pow10", YtmlimaopoghcmaaGreatDoor.Rows.laid_internal_strconv_uint64pow10)]
theorem var_cells {P : Program} {W : World} {s : String} {g : Nat} {cs : Array Value} (hg : P.globalNamed s = some g) (h : W.var? P s = some cs) : ∃ T fr, W.heap[g]? = some (.cells cs T fr) := by
  simp only [World.var?, hg, Option.bind_some] at h
  split at h
  · rename_i c T fr hh
    simp at h; subst h
    exact ⟨T, fr, hh⟩
  · cases h
theorem glob_tab {W : World} {s : String} {g : Nat} {k : IntKind} {l : List Int} {full : Bool} (hg : Tryz.prog.globalNamed s = some g) (h : Lib.TabIs Tryz.prog W s k l) : GOk [{ g := g, k := .int k, l := l, full := full }] { w0 := W, X := fun _ => False } := by
  intro x hx
  rw [List.mem_singleton] at hx
  subst hx
  obtain ⟨T, fr, hh⟩ := var_cells hg h
  refine ⟨(Array.getElem?_eq_some_iff.1 hh).1, fun h => h, _, T, fr, hh, fun k n hn => ?_, fun h => (by cases h), fun _ => rfl, fun h => (by cases h)⟩
  rw [List.getElem?_toArray, List.getElem?_map, hn]
  rfl
theorem g32 : Tryz.prog.globalNamed "math/bits.deBruijn32tab" = some 1 := by kernel_rfl
theorem g64 : Tryz.prog.globalNamed "math/bits.deBruijn64tab" = some 2 := by kernel_rfl
theorem gp10 : Tryz.prog.globalNamed "internal/strconv.uint64pow10" = some 0 := by kernel_rfl
theorem gok_cons {x : Glob} {gl : List Glob} {A : Amb} (h : GOk [x] A) (hr : GOk gl A) : GOk (x :: gl) A := fun y hy => by
  rcases List.mem_cons.1 hy with rfl | hy
  · exact h _ (List.mem_singleton.2 rfl)
  · exact hr y hy
theorem tabs_ok {W : World} (h : laidMetH Tryz.prog laid3 W) : GOk gls { w0 := W, X := fun _ => False } := by
  rw [MakeChecks.laidMetH_plain _ _ _ (by kernel_rfl)] at h
  have u5 : Tryz.prog.underlying 5 = some (.int .u8) := by kernel_rfl
  have c5 : Tryz.prog.cellsOf 5 = 1 := by kernel_rfl
  have h1 := h.tail
  have h2 := h1.tail
  have t32 : Lib.TabIs Tryz.prog W "math/bits.deBruijn32tab" .u8 tab32 := Lib.tabIs_of_head (t := 434) (e := 5) (n := 32) g32 (by kernel_rfl) (by kernel_rfl) u5 c5 (by kernel_rfl) h
  have t64 : Lib.TabIs Tryz.prog W "math/bits.deBruijn64tab" .u8 tab64 := Lib.tabIs_of_head (t := 202) (e := 5) (n := 64) g64 (by kernel_rfl) (by kernel_rfl) u5 c5 (by kernel_rfl) h1
  have t10 : Lib.TabIs Tryz.prog W "internal/strconv.uint64pow10" .u64 pow10 := Lib.tabIs_of_head (t := 292) (e := 209) (n := 20) gp10 (by kernel_rfl) (by kernel_rfl) (by kernel_rfl) (by kernel_rfl) (by kernel_rfl) h2
  exact gok_cons (glob_tab g64 t64) (gok_cons (glob_tab g32 t32) (gok_cons (glob_tab gp10 t10) fun x hx => by cases hx))
theorem door_met (os : Os) (args : Array Value) : laidMetH Tryz.prog laid3 ((World.laidAll Tryz.prog os laid3).forCall (fun _ _ => 0) ⟨#[], args, []⟩).memory := by
  rw [MakeChecks.laidMetH_plain _ _ _ (by kernel_rfl)]
  exact laidMet_laidAll _ (by kernel_rfl) (by kernel_rfl)
end Go.Mg
namespace Go.Au
open Go Go.Sx Go.Mg Go.Proofs Go.ChangeShapes Go.WideShapes Go.ChangeAt Go.RowKit Go.Joins Go.Deep
set_option maxRecDepth 100000
theorem cells2 : Tryz.prog.cellsOf 2 = 1 := by kernel_rfl
theorem cells3 : Tryz.prog.cellsOf 3 = 1 := by kernel_rfl
theorem cells81 : Tryz.prog.cellsOf 81 = 4 := by kernel_rfl
variable {H : Type} {enc : TypeId × Value → H} {W : World} {base : Nat}
theorem list4 {α : Type} {l : List α} (h : l.length = 4) : ∃ a b c d, l = [a, b, c, d] := by
  match l, h with
  | [a, b, c, d], _ => exact ⟨a, b, c, d, rfl⟩
theorem wf_i64 {k : Int} (h : (Lit.int .i64 k).wf = true) : I64 k := by
  simp only [Lit.wf, Bool.and_eq_true, decide_eq_true_eq] at h
  simpa [I64, IntKind.min, IntKind.max, IntKind.signed, IntKind.bits] using h
theorem trod_struct4' {P : Program} {w : World} {base : Nat} {spare : Nat → Bool} {held : Bool} {t : TypeId} {f0 f1 f2 f3 : Field} {fuel : Nat} {cs : List Value} {x : DataW H × List MemPlace} (ht : P.underlying t = some (.struct #[f0, f1, f2, f3])) (h : DataW.trod enc P w base spare held fuel t cs = some x) :
    ∃ y0 y1 y2 y3 n, cs.length = P.cellsOf t ∧ DataW.trod enc P w base spare held n f0.type ((cs.drop f0.offset).take (P.cellsOf f0.type)) = some y0 ∧ DataW.trod enc P w base spare held n f1.type ((cs.drop f1.offset).take (P.cellsOf f1.type)) = some y1 ∧ DataW.trod enc P w base spare held n f2.type ((cs.drop f2.offset).take (P.cellsOf f2.type)) = some y2 ∧ DataW.trod enc P w base spare held n f3.type ((cs.drop f3.offset).take (P.cellsOf f3.type)) = some y3 := by
  obtain ⟨xs, n, _, rfl, hl, hlen, hf⟩ := DataW.trod_struct ht h
  match xs, hlen with
  | [y0, y1, y2, y3], _ => exact ⟨y0, y1, y2, y3, n, hl, by simpa using hf 0 f0 rfl, by simpa using hf 1 f1 rfl, by simpa using hf 2 f2 rfl, by simpa using hf 3 f3 rfl⟩
theorem fault_open {fuel : Nat} {cs : List Value} {x : DataW H × List MemPlace} (hl : cs.length = 4) (h : DataW.trod enc Tryz.prog W base (fun _ => true) true fuel 81 cs = some x) :
    ∃ q : Nat → Int, (∀ (j : Nat) (k : CK), flK[j]? = some k → cs[j]? = some (k.val (q j))) ∧ I64 (q 0) ∧ I64 (q 1) ∧ I64 (q 2) ∧ I64 (q 3) := by
  obtain ⟨v0, v1, v2, v3, rfl⟩ := list4 hl
  obtain ⟨_, _, _, _, n, _, a0, a1, a2, a3⟩ := trod_struct4' Tryz.underlying81 h
  simp only [cells3, cells2, List.drop_zero, List.drop_succ_cons, List.take_succ_cons, List.take_zero] at a0 a1 a2 a3
  obtain ⟨k0, e0, _, w0⟩ := DataW.trod_int Tryz.underlying3 a0
  obtain ⟨k1, e1, _, w1⟩ := DataW.trod_int Tryz.underlying3 a1
  obtain ⟨k2, e2, _, w2⟩ := DataW.trod_int Tryz.underlying2 a2
  obtain ⟨k3, e3, _, w3⟩ := DataW.trod_int Tryz.underlying2 a3
  simp at e0 e1 e2 e3
  subst e0 e1 e2 e3
  refine ⟨fun j => if j = 0 then k0 else if j = 1 then k1 else if j = 2 then k2 else k3, fun j k hj => ?_, wf_i64 w0, wf_i64 w1, wf_i64 w2, wf_i64 w3⟩
  have h4 : j < 4 := (List.getElem?_eq_some_iff.1 hj).1
  match j, h4 with
  | 0, _ => obtain rfl := Option.some.inj hj; rfl
  | 1, _ => obtain rfl := Option.some.inj hj; rfl
  | 2, _ => obtain rfl := Option.some.inj hj; rfl
  | 3, _ => obtain rfl := Option.some.inj hj; rfl
theorem spot_open {r : Reach} {b0 : Nat} {t e : TypeId} (ht : Tryz.prog.underlying t = some (.slice e)) {a : Addr} {len cap : Nat} (hv : Cell.okWide Tryz.prog W r b0 t (.slice (some a) len cap)) :
    a.spot = none ∧ ∃ c T fr, W.heap[a.block]? = some (.cells c T fr) := by
  simp only [Cell.okWide, ht, Cell.ok] at hv
  obtain ⟨_, _, _, hspot, row, cells, hshape, _⟩ := hv
  refine ⟨hspot, ?_⟩
  unfold World.shape? at hshape
  split at hshape
  · rename_i c T fr hb; exact ⟨c, T, fr, hb⟩
  · cases hshape
theorem faults_open {r : Reach} {b0 : Nat} {v : Value} {d : DataW H} {p : List MemPlace} (hv0 : Value.okWide Tryz.prog W r b0 22 v) (h : DataW.Trod enc Tryz.prog W base (fun _ => true) true 22 v d p) :
    ∃ (m : Int) (T : Int → Nat → Int), RowsV W flK v m T ∧ 0 ≤ m ∧ m ≤ 9223372036854775807 ∧ Nums T m := by
  obtain ⟨fuel, hf⟩ := h
  simp only [Value.okWide, Tryz.underlying22] at hv0
  rcases open_slice Tryz.underlying22 hf with ⟨hc, _⟩ | ⟨a, len, cap, m, n, D, Pl, hc, _, hl, hmax, hm, _, hx⟩
  · have : v = .slice none 0 0 := by
      cases v <;> simp [Value.cells] at hc <;> simp [hc] <;> try simp [Cell.okWide, Cell.ok, Tryz.underlying22] at hv0
    subst this
    exact ⟨0, fun _ _ => 0, .none _, Int.le_refl _, by decide, fun r a b => by omega⟩
  · have hv' : v = .slice (some a) len cap := by
      cases v <;> simp [Value.cells] at hc <;> simp [hc] <;> try simp [Cell.okWide, Cell.ok, Tryz.underlying22] at hv0
    subst hv'
    obtain ⟨hspot, c, T, fr, hb⟩ := spot_open Tryz.underlying22 hv0
    obtain ⟨blk, off, spot⟩ := a
    simp only at hspot hb
    subst hspot
    simp only [if_true] at hm
    subst hm
    have each : ∀ i, i < len → ∃ q : Nat → Int, (∀ (j : Nat) (k : CK), flK[j]? = some k → c[off + i * 4 + j]? = some (k.val (q j))) ∧ I64 (q 0) ∧ I64 (q 1) ∧ I64 (q 2) ∧ I64 (q 3) := by
      intro i hi
      obtain ⟨cs', h1, h2⟩ := hx i (by omega)
      rw [cells81] at h1
      obtain ⟨_, hlen, hcell⟩ := World.cells?_some h1
      obtain ⟨q, hq, hr⟩ := fault_open hlen h2
      have cell : ∀ j, j < 4 → cs'[j]? = c[off + i * 4 + j]? := fun j hj => by
        rw [← hcell j hj, add_add]
        unfold Addr.add World.cell?
        by_cases z : i * 4 + j = 0
        · rw [if_pos z]; simp only [hb, Option.isSome_none]; simp [show off + i * 4 + j = off by omega]
        · rw [if_neg z]; simp only [hb, Option.isSome_none]; simp [Nat.add_assoc]
      exact ⟨q, fun j k hj => by rw [← cell j (List.getElem?_eq_some_iff.1 hj).1]; exact hq j k hj, hr⟩
    obtain ⟨q, hq⟩ := choose_lt each
    refine ⟨len, fun r j => q r.toNat j, .some blk off len m c T fr _ hl hb ?_, Int.natCast_nonneg _, ?_, fun r a b => (hq r.toNat (by omega)).2⟩
    · intro r j kk hr hj
      exact (hq r hr).1 j kk hj
    · unfold maxLen at hmax
      omega
end Go.Au
