/-
  What the rows' listed variables, and the world's shape, give the executor. Conditions: none.
-/
import Derived.Test.YtiehemggplndcaaGreatDoorRows
import Derived.Test.YtiehemggplndcaaGreatDoorB1
import Derived.ProofKit
import Derived.LaidMore
import Derived.LaidLaws
import Derived.Stop.LaidErr
import Derived.OpenShut
import Derived.MakeChecks
import Derived.Lib.LaidTab
import Derived.Lay
import Derived.Shelf.Vars
import Derived.HandedShaped
import Derived.KernelRfl
import Derived.Test.YtiehemggplndcaaGreatDoorA4
import Derived.Test.YtiehemggplndcaaGreatDoorC1
import Derived.Lib.SmallJoins
import Derived.WalkKit
namespace Go.Mg
open Go Go.Sx Go.Proofs Go.ChangeShapes Go.WideShapes Go.ChangeAt
abbrev Ze : List (String × DataW Unit) := [("math/bits.deBruijn32tab", YtiehemggplndcaaGreatDoor.Rows.laid_math_bits_deBruijn32tab), ("math/bits.deBruijn64tab", YtiehemggplndcaaGreatDoor.Rows.laid_math_bits_deBruijn64tab), ("internal/strconv.uint64pow10", YtiehemggplndcaaGreatDoor.Rows.laid_internal_strconv_uint64pow10), ("unicode/utf8.acceptRanges", YtiehemggplndcaaGreatDoor.Rows.laid_unicode_utf8_acceptRanges), ("strconv.ErrRange", YtiehemggplndcaaGreatDoor.Rows.laid_strconv_ErrRange), ("strconv.ErrSyntax", YtiehemggplndcaaGreatDoor.Rows.laid_strconv_ErrSyntax), ("unicode/utf8.first", YtiehemggplndcaaGreatDoor.Rows.laid_unicode_utf8_first)]
theorem J8 {P : Program} {W : World} {s : String} {g : Nat} {cs : Array Value} (hg : P.globalNamed s = some g) (h : W.var? P s = some cs) : ∃ T fr, W.heap[g]? = some (.cells cs T fr) := by
 simp only [World.var?, hg, Option.bind_some] at h
 split at h
 · rename_i c T fr hh
   simp at h; subst h
   exact ⟨T, fr, hh⟩
 · cases h
theorem ZI {W : World} {s : String} {g : Nat} {k : IntKind} {l : List Int} {full : Bool} (hg : Tryz.prog.globalNamed s = some g) (h : Lib.TabIs Tryz.prog W s k l) : GOk [{ g := g, k := .int k, l := l, full := full }] { w0 := W, X := fun _ => False } := by
 intro x hx
 rw [List.mem_singleton] at hx
 subst hx
 obtain ⟨T, fr, hh⟩ := J8 hg h
 refine ⟨(Array.getElem?_eq_some_iff.1 hh).1, fun h => h, _, T, fr, hh, fun k n hn => ?_, fun h => (by cases h), fun _ => rfl, fun h => (by cases h)⟩
 rw [List.getElem?_toArray, List.getElem?_map, hn]
 rfl
theorem Gn {W : World} {s nm : String} {d : DataW Unit} {r : List (String × DataW Unit)} {g ti : Nat} (hg : Tryz.prog.globalNamed s = some g) (ht : (Tryz.prog.globals[g]?).map (·.type) = some ti) (hb : (match Tryz.prog.underlying ti with | some (.interface _) => true | _ => false) = true)
   (h : laidMet Tryz.prog ((s, .iface nm d) :: r) W) : GOk [{ g := g, k := .int .i64, l := [], ifc := true }] { w0 := W, X := fun _ => False } := by
 obtain ⟨ps, ⟨g0, t0, cs0, f0, p0, q0, hg0, ht0, hv0, hd0, _, _⟩, _, _⟩ := h
 obtain rfl := Option.some.inj (hg.symm.trans hg0)
 obtain rfl := Option.some.inj (ht.symm.trans ht0)
 obtain ⟨l0⟩ := cs0
 obtain ⟨ms, hi⟩ : ∃ ms, Tryz.prog.underlying ti = some (.interface ms) := by
   generalize Tryz.prog.underlying ti = u at hb ⊢
   split at hb
   · exact ⟨_, rfl⟩
   · cases hb
 obtain ⟨f1, u, v, rfl, _, _⟩ := iface_of_trod hi hd0
 obtain ⟨T, fr, hh⟩ := J8 hg hv0
 intro x hx
 rw [List.mem_singleton] at hx
 subst hx
 exact ⟨(Array.getElem?_eq_some_iff.1 hh).1, fun h => h, _, T, fr, hh, fun k n hn => (by cases hn), fun _ => ⟨_, rfl, .inr ⟨u, v, rfl⟩⟩, fun h => (by cases h), fun h => (by cases h)⟩
theorem g32 : Tryz.prog.globalNamed "math/bits.deBruijn32tab" = some 4 := by kernel_rfl
theorem g64 : Tryz.prog.globalNamed "math/bits.deBruijn64tab" = some 5 := by kernel_rfl
theorem qv0 : Tryz.prog.globalNamed "internal/strconv.uint64pow10" = some 1 := by kernel_rfl
theorem qbT : Tryz.prog.globalNamed "strconv.ErrSyntax" = some 2 := by kernel_rfl
theorem qbC : Tryz.prog.globalNamed "strconv.ErrRange" = some 3 := by kernel_rfl
theorem UF {W : World} (h : W.ShapedOpen Tryz.prog) : GOk [{ g := 0, k := .int .i64, l := [], ity := true }] { w0 := W, X := fun _ => False } := by
 obtain ⟨m, hm⟩ := cell_of_shapedOpen_int (P := Tryz.prog) (g := 0) (t := 3) (zero := #[.int .i64 0]) h (of_decide_eq_true (by kernel_rfl)) (by kernel_rfl) rfl (by kernel_rfl) (by kernel_rfl) Tryz.underlying3
 intro x hx
 rw [List.mem_singleton] at hx
 subst hx
 unfold World.cell? at hm
 split at hm
 · rename_i cs T fr hh
   have hh : W.heap[0]? = some (.cells cs T fr) := hh
   exact ⟨(Array.getElem?_eq_some_iff.1 hh).1, fun h => h, cs, T, fr, hh, fun k n hn => (by cases hn), fun h => (by cases h), fun h => (by cases h), fun _ => ⟨m, hm⟩⟩
 · cases hm
theorem dZ {x : Glob} {gl : List Glob} {A : Amb} (h : GOk [x] A) (hr : GOk gl A) : GOk (x :: gl) A := fun y hy => by
 rcases List.mem_cons.1 hy with rfl | hy
 · exact h _ (List.mem_singleton.2 rfl)
 · exact hr y hy
theorem Oq {W : World} (h : laidMetH Tryz.prog Ze W) (hs : W.ShapedOpen Tryz.prog) : GOk gls { w0 := W, X := fun _ => False } := by
 rw [MakeChecks.laidMetH_plain _ _ _ (by kernel_rfl)] at h
 have u5 : Tryz.prog.underlying 5 = some (.int .u8) := by kernel_rfl
 have c5 : Tryz.prog.cellsOf 5 = 1 := by kernel_rfl
 have h1 := h.tail
 have h2 := h1.tail
 have h3 := h2.tail
 have h4 := h3.tail
 have h5 := h4.tail
 have t32 : Lib.TabIs Tryz.prog W "math/bits.deBruijn32tab" .u8 qq0 := Lib.tabIs_of_head (t := 415) (e := 5) (n := 32) g32 (by kernel_rfl) (by kernel_rfl) u5 c5 (by kernel_rfl) h
 have t64 : Lib.TabIs Tryz.prog W "math/bits.deBruijn64tab" .u8 qqE := Lib.tabIs_of_head (t := 248) (e := 5) (n := 64) g64 (by kernel_rfl) (by kernel_rfl) u5 c5 (by kernel_rfl) h1
 have t10 : Lib.TabIs Tryz.prog W "internal/strconv.uint64pow10" .u64 TU := Lib.tabIs_of_head (t := 276) (e := 215) (n := 20) qv0 (by kernel_rfl) (by kernel_rfl) (by kernel_rfl) (by kernel_rfl) (by kernel_rfl) h2
 exact dZ (ZI g64 t64) (dZ (ZI g32 t32) (dZ (ZI qv0 t10) (dZ (UF hs) (dZ (Gn (ti := 119) qbT (by kernel_rfl) (by kernel_rfl) h5)
   (dZ (Gn (ti := 119) qbC (by kernel_rfl) (by kernel_rfl) h4) fun x hx => by cases hx)))))
theorem UO (os : Os) (args : Array Value) : laidMetH Tryz.prog Ze ((World.laidAll Tryz.prog os Ze).forCall (fun _ _ => 0) ⟨#[], args, []⟩).memory := by
 rw [MakeChecks.laidMetH_plain _ _ _ (by kernel_rfl)]
 exact laidMet_laidAll _ (by kernel_rfl) (by kernel_rfl)
end Go.Mg
namespace Go
variable {H : Type} {enc : TypeId × Value → H}
theorem ng {a : Assume} {C : Checked} {os : Os} {f : FuncId} {fn : Func} {s : ChangeSpec} {conds : List PathCond} {apart fresh handsOn again : Bool} {X : World → Array Value → Prop}
   (hX : ∀ (w w' : World) (args : Array Value), w.heap = w'.heap → X w args → X w' args)
   (own : ownKnob C.prog.godebug = none) (started : os.Started) (noInit : C.prog.inits.idxOf? f = none) (hfn : C.prog.funcs[f]? = some fn)
   (witness : ∃ (w : World) (tape : Tape) (i : Input), w.os = os ∧ (w.forCall tape i).Shaped C.prog ∧ i.vars = [] ∧ Input.okWide C.prog (w.forCall tape i) .any w.heap.size f i ∧
     ((s.pre enc C.prog fn conds apart (w.forCall tape i).memory i.args ∧ X (w.forCall tape i).memory i.args) ∧ sizedMet enc C.prog fn (OpenSpec.ofChange s) apart (w.forCall tape i).memory i.args) ∧ a.holds C.prog (lone (Frame.enter C.prog f i.args .normal) [] (w.forCall tape i)))
   (contract : ∀ (W : World) (base : Nat) (args : Array Value) (ds gs : List (DataW H)) (before : List MemPlace),
     (∀ (j : Nat) t v, fn.params[j]? = some t → args[j]? = some v → Value.okWide C.prog W .any base t v) →
     DataW.Whole enc C.prog fn.params.toList s.vars apart W args.toList ds gs before →
     conds.all (PathCond.test C.prog ⟨fn.params.toList, ds, s.plain.varTypes C.prog, gs⟩) = true →
     (DataW.weightsEach C.prog (fn.params.toList ++ s.plain.varTypes C.prog) (ds ++ gs)).all (· ≤ reachBytes) = true → X W args → W.ShapedOpen C.prog →
     a.holds C.prog (lone (Frame.enter C.prog f args .normal) [] W) →
     Calls C.prog f args W fun e W' => ∃ v, e = .returned v ∧ s.post enc C.prog fn apart fresh handsOn again W args v W') :
   ReturnsInHanded a C os f .any (fun w args => (s.pre enc C.prog fn conds apart w args ∧ X w args) ∧ sizedMet enc C.prog fn (OpenSpec.ofChange s) apart w args) (s.post enc C.prog fn apart fresh handsOn again) := by
 refine returnsInHanded_of_calls own started noInit witness ?_
 intro w tape i _ hsh _ hok hpre hholds
 obtain ⟨_, _, _, fn', hfn', _, _, _, _, hval⟩ := hok
 have e : fn' = fn := Option.some.inj (hfn'.symm.trans hfn)
 subst e
 obtain ⟨⟨⟨ds, gs, before, hw, hc⟩, hx⟩, hz⟩ := hpre
 have hw' := DataW.Whole.of_heap (w' := w.forCall tape i) (by rfl) hw
 refine (contract (w.forCall tape i) w.heap.size i.args ds gs before hval hw' hc (hz.weights hw) (hX _ _ _ (by rfl) hx) hsh hholds).mono fun e W' ⟨v, he, hp⟩ => ?_
 subst he
 exact ChangeSpec.post_blind hp
end Go
namespace Go.Tt
open Go Go.Sx Go.Mg Go.Proofs Go.ChangeShapes Go.WideShapes Go.ChangeAt Go.RowKit Go.Joins Go.Deep
set_option maxRecDepth 100000
theorem U7 : Tryz.prog.cellsOf 2 = 1 := by kernel_rfl
theorem cells3 : Tryz.prog.cellsOf 3 = 1 := by kernel_rfl
theorem qyf : Tryz.prog.cellsOf 9 = 1 := by kernel_rfl
theorem M6 : Tryz.prog.cellsOf 23 = 8 := by kernel_rfl
theorem qqu : Tryz.prog.cellsOf 31 = 1 := by kernel_rfl
theorem qql : Tryz.prog.cellsOf 33 = 4 := by kernel_rfl
theorem I8 : Tryz.prog.cellTypes Tryz.prog.depth 33 = some [3, 2, 3, 31] := by kernel_rfl
variable {H : Type} {enc : TypeId × Value → H} {W : World} {base : Nat}
theorem qvz {α : Type} {l : List α} (h : l.length = 8) : ∃ a b c d e f g i, l = [a, b, c, d, e, f, g, i] := by
 match l, h with
 | [a, b, c, d, e, f, g, i], _ => exact ⟨a, b, c, d, e, f, g, i, rfl⟩
theorem wf_i64 {k : Int} (h : (Lit.int .i64 k).wf = true) : I64 k := by
 simp only [Lit.wf, Bool.and_eq_true, decide_eq_true_eq] at h
 simpa [I64, IntKind.min, IntKind.max, IntKind.signed, IntKind.bits] using h
theorem Hu (b : ByteArray) : Value.string b = Value.string ⟨(qj (qZ b.data.toList)).toArray⟩ := by rw [qm]
theorem Je {P : Program} {w : World} {base : Nat} {spare : Nat → Bool} {held : Bool} {t : TypeId} {f0 f1 f2 f3 f4 f5 f6 f7 : Field} {fuel : Nat} {cs : List Value} {x : DataW H × List MemPlace} (ht : P.underlying t = some (.struct #[f0, f1, f2, f3, f4, f5, f6, f7])) (h : DataW.trod enc P w base spare held fuel t cs = some x) :
   ∃ y0 y1 y2 y3 y4 y5 y6 y7 n, cs.length = P.cellsOf t ∧ DataW.trod enc P w base spare held n f0.type ((cs.drop f0.offset).take (P.cellsOf f0.type)) = some y0 ∧ DataW.trod enc P w base spare held n f1.type ((cs.drop f1.offset).take (P.cellsOf f1.type)) = some y1 ∧ DataW.trod enc P w base spare held n f2.type ((cs.drop f2.offset).take (P.cellsOf f2.type)) = some y2 ∧ DataW.trod enc P w base spare held n f3.type ((cs.drop f3.offset).take (P.cellsOf f3.type)) = some y3 ∧ DataW.trod enc P w base spare held n f4.type ((cs.drop f4.offset).take (P.cellsOf f4.type)) = some y4 ∧ DataW.trod enc P w base spare held n f5.type ((cs.drop f5.offset).take (P.cellsOf f5.type)) = some y5 ∧ DataW.trod enc P w base spare held n f6.type ((cs.drop f6.offset).take (P.cellsOf f6.type)) = some y6 ∧ DataW.trod enc P w base spare held n f7.type ((cs.drop f7.offset).take (P.cellsOf f7.type)) = some y7 := by
 obtain ⟨xs, n, _, rfl, hl, hlen, hf⟩ := DataW.trod_struct ht h
 match xs, hlen with
 | [y0, y1, y2, y3, y4, y5, y6, y7], _ => exact ⟨y0, y1, y2, y3, y4, y5, y6, y7, n, hl, by simpa using hf 0 f0 rfl, by simpa using hf 1 f1 rfl, by simpa using hf 2 f2 rfl, by simpa using hf 3 f3 rfl, by simpa using hf 4 f4 rfl, by simpa using hf 5 f5 rfl, by simpa using hf 6 f6 rfl, by simpa using hf 7 f7 rfl⟩
theorem JQ {P : Program} {w : World} {base : Nat} {spare : Nat → Bool} {held : Bool} {t : TypeId} {f0 f1 f2 f3 : Field} {fuel : Nat} {cs : List Value} {x : DataW H × List MemPlace} (ht : P.underlying t = some (.struct #[f0, f1, f2, f3])) (h : DataW.trod enc P w base spare held fuel t cs = some x) :
   ∃ y0 y1 y2 y3 n, cs.length = P.cellsOf t ∧ DataW.trod enc P w base spare held n f0.type ((cs.drop f0.offset).take (P.cellsOf f0.type)) = some y0 ∧ DataW.trod enc P w base spare held n f1.type ((cs.drop f1.offset).take (P.cellsOf f1.type)) = some y1 ∧ DataW.trod enc P w base spare held n f2.type ((cs.drop f2.offset).take (P.cellsOf f2.type)) = some y2 ∧ DataW.trod enc P w base spare held n f3.type ((cs.drop f3.offset).take (P.cellsOf f3.type)) = some y3 := by
 obtain ⟨xs, n, _, rfl, hl, hlen, hf⟩ := DataW.trod_struct ht h
 match xs, hlen with
 | [y0, y1, y2, y3], _ => exact ⟨y0, y1, y2, y3, n, hl, by simpa using hf 0 f0 rfl, by simpa using hf 1 f1 rfl, by simpa using hf 2 f2 rfl, by simpa using hf 3 f3 rfl⟩
theorem NY {fuel : Nat} {cs : List Value} {x : DataW H × List MemPlace} (hl : cs.length = 8) (h : DataW.trod enc Tryz.prog W base (fun _ => true) true fuel 23 cs = some x) :
   ∃ q : Nat → Int, (∀ (j : Nat) (k : CK), stK[j]? = some k → cs[j]? = some (k.val (q j))) ∧ I64 (q 0) ∧ I64 (q 3) ∧ I64 (q 4) ∧ I64 (q 5) ∧ I64 (q 6) ∧ I64 (q 7) := by
 obtain ⟨v0, v1, v2, v3, v4, v5, v6, v7, rfl⟩ := qvz hl
 obtain ⟨_, _, _, _, _, _, _, _, n, _, a0, a1, a2, a3, a4, a5, a6, a7⟩ := Je Tryz.underlying23 h
 simp only [cells3, U7, qyf, List.drop_zero, List.drop_succ_cons, List.take_succ_cons, List.take_zero] at a0 a1 a2 a3 a4 a5 a6 a7
 obtain ⟨k0, e0, _, w0⟩ := DataW.trod_int Tryz.underlying3 a0
 obtain ⟨b1, e1, _, _⟩ := DataW.trod_string Tryz.underlying9 a1
 obtain ⟨b2, e2, _, _⟩ := DataW.trod_string Tryz.underlying9 a2
 obtain ⟨k3, e3, _, w3⟩ := DataW.trod_int Tryz.underlying2 a3
 obtain ⟨k4, e4, _, w4⟩ := DataW.trod_int Tryz.underlying2 a4
 obtain ⟨k5, e5, _, w5⟩ := DataW.trod_int Tryz.underlying2 a5
 obtain ⟨k6, e6, _, w6⟩ := DataW.trod_int Tryz.underlying3 a6
 obtain ⟨k7, e7, _, w7⟩ := DataW.trod_int Tryz.underlying2 a7
 simp at e0 e1 e2 e3 e4 e5 e6 e7
 subst e0 e1 e2 e3 e4 e5 e6 e7
 refine ⟨fun j => if j = 0 then k0 else if j = 1 then qZ b1.data.toList else if j = 2 then qZ b2.data.toList else if j = 3 then k3 else if j = 4 then k4 else if j = 5 then k5 else if j = 6 then k6 else k7, fun j k hj => ?_, wf_i64 w0, wf_i64 w3, wf_i64 w4, wf_i64 w5, wf_i64 w6, wf_i64 w7⟩
 have h8 : j < 8 := (List.getElem?_eq_some_iff.1 hj).1
 match j, h8 with
 | 0, _ => obtain rfl := Option.some.inj hj; rfl
 | 1, _ => obtain rfl := Option.some.inj hj; exact congrArg some (Hu b1)
 | 2, _ => obtain rfl := Option.some.inj hj; exact congrArg some (Hu b2)
 | 3, _ => obtain rfl := Option.some.inj hj; rfl
 | 4, _ => obtain rfl := Option.some.inj hj; rfl
 | 5, _ => obtain rfl := Option.some.inj hj; rfl
 | 6, _ => obtain rfl := Option.some.inj hj; rfl
 | 7, _ => obtain rfl := Option.some.inj hj; rfl
theorem NV {r : Reach} {b0 : Nat} {t e : TypeId} (ht : Tryz.prog.underlying t = some (.slice e)) {a : Addr} {len cap : Nat} (hv : Cell.okWide Tryz.prog W r b0 t (.slice (some a) len cap)) :
   a.spot = none ∧ ∃ c T fr, W.heap[a.block]? = some (.cells c T fr) := by
 simp only [Cell.okWide, ht, Cell.ok] at hv
 obtain ⟨_, _, _, hspot, row, cells, hshape, _⟩ := hv
 refine ⟨hspot, ?_⟩
 unfold World.shape? at hshape
 split at hshape
 · rename_i c T fr hb; exact ⟨c, T, fr, hb⟩
 · cases hshape
theorem PV {r : Reach} {b0 : Nat} {v : Value} {d : DataW H} {p : List MemPlace} (hv0 : Value.okWide Tryz.prog W r b0 33 v) (h : DataW.Trod enc Tryz.prog W base (fun _ => true) true 33 v d p) :
   ∃ (x : Value) (a0 a1 a2 m : Int) (T : Int → Nat → Int), v = .agg #[.int .i64 a0, .int .i64 a1, .int .i64 a2, x] ∧ Bc W stK x m T ∧ 0 ≤ m ∧ m ≤ 9223372036854775807 ∧ I64 a0 ∧ I64 a1 ∧ I64 a2 ∧ TbR T m := by
 obtain ⟨fuel, hf⟩ := h
 simp only [Value.okWide, Tryz.underlying33] at hv0
 obtain ⟨cs, rfl, hsz, ts, ht, _, hrow⟩ := hv0
 rw [I8] at ht
 cases ht
 obtain ⟨l⟩ := cs
 rw [qql] at hsz
 match l, hsz with
 | [c0, c1, c2, x], _ =>
 obtain ⟨u, hu, hv⟩ := hrow 3 x rfl
 simp at hu
 subst hu
 obtain ⟨_, _, _, _, n0, _, a0, a1, a2, g⟩ := JQ Tryz.underlying33 hf
 simp only [cells3, U7, qqu, Value.cells, List.drop_zero, List.drop_succ_cons, List.take_succ_cons, List.take_zero] at a0 a1 a2 g
 obtain ⟨k0, e0, _, w0⟩ := DataW.trod_int Tryz.underlying3 a0
 obtain ⟨k1, e1, _, w1⟩ := DataW.trod_int Tryz.underlying2 a1
 obtain ⟨k2, e2, _, w2⟩ := DataW.trod_int Tryz.underlying3 a2
 simp at e0 e1 e2
 subst e0 e1 e2
 rcases open_slice Tryz.underlying31 g with ⟨hc, _⟩ | ⟨a, len, cap, m, n, D, Pl, hc, _, hl, hmax, hm, _, hx⟩
 · simp at hc
   subst hc
   exact ⟨_, k0, k1, k2, 0, fun _ _ => 0, rfl, .none _, Int.le_refl _, by decide, wf_i64 w0, wf_i64 w1, wf_i64 w2, fun r a b => by omega⟩
 · simp at hc
   subst hc
   obtain ⟨hspot, c, T, fr, hb⟩ := NV Tryz.underlying31 hv
   obtain ⟨blk, off, spot⟩ := a
   simp only at hspot hb
   subst hspot
   simp only [if_true] at hm
   subst hm
   have each : ∀ i, i < len → ∃ q : Nat → Int, (∀ (j : Nat) (k : CK), stK[j]? = some k → c[off + i * 8 + j]? = some (k.val (q j))) ∧ I64 (q 0) ∧ I64 (q 3) ∧ I64 (q 4) ∧ I64 (q 5) ∧ I64 (q 6) ∧ I64 (q 7) := by
     intro i hi
     obtain ⟨cs', h1, h2⟩ := hx i (by omega)
     rw [M6] at h1
     obtain ⟨_, hlen, hcell⟩ := World.cells?_some h1
     obtain ⟨q, hq, hr⟩ := NY hlen h2
     have cell : ∀ j, j < 8 → cs'[j]? = c[off + i * 8 + j]? := fun j hj => by
       rw [← hcell j hj, add_add]
       unfold Addr.add World.cell?
       by_cases z : i * 8 + j = 0
       · rw [if_pos z]; simp only [hb, Option.isSome_none]; simp [show off + i * 8 + j = off by omega]
       · rw [if_neg z]; simp only [hb, Option.isSome_none]; simp [Nat.add_assoc]
     exact ⟨q, fun j k hj => by rw [← cell j (List.getElem?_eq_some_iff.1 hj).1]; exact hq j k hj, hr⟩
   obtain ⟨q, hq⟩ := choose_lt each
   refine ⟨_, k0, k1, k2, len, fun r j => q r.toNat j, rfl, .some blk off len m c T fr _ hl hb ?_, Int.natCast_nonneg _, ?_, wf_i64 w0, wf_i64 w1, wf_i64 w2, fun r a b => (hq r.toNat (by omega)).2⟩
   · intro r j kk hr hj
     exact (hq r hr).1 j kk hj
   · unfold maxLen at hmax
     omega
end Go.Tt
