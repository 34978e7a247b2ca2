/-
  What the rows' listed variables, and the world's shape, give the executor. Conditions: none.
-/
import Derived.Test.YtiehemggplndcaaGreatDoorRows
import Derived.Test.YtiehemggplndcaaGreatDoorB1
import Derived.ProofKit
import Derived.LaidMore
import Derived.LaidLaws
import Derived.Stop.LaidErr
import Derived.OpenShut
import Derived.MakeChecks
import Derived.Lib.LaidTab
import Derived.Lay
import Derived.Shelf.Vars
import Derived.HandedShaped
import Derived.KernelRfl
namespace Go.Mg
open Go Go.Sx Go.Proofs Go.ChangeShapes Go.WideShapes Go.ChangeAt
abbrev laid7 : List (String × DataW Unit) := [("math/bits.deBruijn32tab", YtiehemggplndcaaGreatDoor.Rows.laid_math_bits_deBruijn32tab), ("math/bits.deBruijn64tab", YtiehemggplndcaaGreatDoor.Rows.laid_math_bits_deBruijn64tab), ("internal/strconv.uint64pow10", YtiehemggplndcaaGreatDoor.Rows.laid_internal_strconv_uint64pow10), ("unicode/utf8.acceptRanges", YtiehemggplndcaaGreatDoor.Rows.laid_unicode_utf8_acceptRanges), ("strconv.ErrRange", YtiehemggplndcaaGreatDoor.Rows.laid_strconv_ErrRange), ("strconv.ErrSyntax", YtiehemggplndcaaGreatDoor.Rows.laid_strconv_ErrSyntax), ("unicode/utf8.first", YtiehemggplndcaaGreatDoor.Rows.laid_unicode_utf8_first)]
theorem var_cells {P : Program} {W : World} {s : String} {g : Nat} {cs : Array Value} (hg : P.globalNamed s = some g) (h : W.var? P s = some cs) : ∃ T fr, W.heap[g]? = some (.cells cs T fr) := by
  simp only [World.var?, hg, Option.bind_some] at h
  split at h
  · rename_i c T fr hh
    simp at h; subst h
    exact ⟨T, fr, hh⟩
  · cases h
theorem glob_tab {W : World} {s : String} {g : Nat} {k : IntKind} {l : List Int} {full : Bool} (hg : Tryz.prog.globalNamed s = some g) (h : Lib.TabIs Tryz.prog W s k l) : GOk [{ g := g, k := .int k, l := l, full := full }] { w0 := W, X := fun _ => False } := by
  intro x hx
  rw [List.mem_singleton] at hx
  subst hx
  obtain ⟨T, fr, hh⟩ := var_cells hg h
  refine ⟨(Array.getElem?_eq_some_iff.1 hh).1, fun h => h, _, T, fr, hh, fun k n hn => ?_, fun h => (by cases h), fun _ => rfl, fun h => (by cases h)⟩
  rw [List.getElem?_toArray, List.getElem?_map, hn]
  rfl
theorem glob_err {W : World} {s nm : String} {d : DataW Unit} {r : List (String × DataW Unit)} {g ti : Nat} (hg : Tryz.prog.globalNamed s = some g) (ht : (Tryz.prog.globals[g]?).map (·.type) = some ti) (hb : (match Tryz.prog.underlying ti with | some (.interface _) => true | _ => false) = true)
    (h : laidMet Tryz.prog ((s, .iface nm d) :: r) W) : GOk [{ g := g, k := .int .i64, l := [], ifc := true }] { w0 := W, X := fun _ => False } := by
  obtain ⟨ps, ⟨g0, t0, cs0, f0, p0, q0, hg0, ht0, hv0, hd0, _, _⟩, _, _⟩ := h
  obtain rfl := Option.some.inj (hg.symm.trans hg0)
  obtain rfl := Option.some.inj (ht.symm.trans ht0)
  obtain ⟨l0⟩ := cs0
  obtain ⟨ms, hi⟩ : ∃ ms, Tryz.prog.underlying ti = some (.interface ms) := by
    generalize Tryz.prog.underlying ti = u at hb ⊢
    split at hb
    · exact ⟨_, rfl⟩
    · cases hb
  obtain ⟨f1, u, v, rfl, _, _⟩ := iface_of_trod hi hd0
  obtain ⟨T, fr, hh⟩ := var_cells hg hv0
  intro x hx
  rw [List.mem_singleton] at hx
  subst hx
  exact ⟨(Array.getElem?_eq_some_iff.1 hh).1, fun h => h, _, T, fr, hh, fun k n hn => (by cases hn), fun _ => ⟨_, rfl, .inr ⟨u, v, rfl⟩⟩, fun h => (by cases h), fun h => (by cases h)⟩
theorem g32 : Tryz.prog.globalNamed "math/bits.deBruijn32tab" = some 4 := by kernel_rfl
theorem g64 : Tryz.prog.globalNamed "math/bits.deBruijn64tab" = some 5 := by kernel_rfl
theorem gp10 : Tryz.prog.globalNamed "internal/strconv.uint64pow10" = some 1 := by kernel_rfl
theorem gSyn : Tryz.prog.globalNamed "strconv.ErrSyntax" = some 2 := by kernel_rfl
theorem gRan : Tryz.prog.globalNamed "strconv.ErrRange" = some 3 := by kernel_rfl
theorem glob_max {W : World} (h : W.ShapedOpen Tryz.prog) : GOk [{ g := 0, k := .int .i64, l := [], ity := true }] { w0 := W, X := fun _ => False } := by
  obtain ⟨m, hm⟩ := cell_of_shapedOpen_int (P := Tryz.prog) (g := 0) (t := 3) (zero := #[.int .i64 0]) h (of_decide_eq_true (by kernel_rfl)) (by kernel_rfl) rfl (by kernel_rfl) (by kernel_rfl) Tryz.underlying3
  intro x hx
  rw [List.mem_singleton] at hx
  subst hx
  unfold World.cell? at hm
  split at hm
  · rename_i cs T fr hh
    have hh : W.heap[0]? = some (.cells cs T fr) := hh
    exact ⟨(Array.getElem?_eq_some_iff.1 hh).1, fun h => h, cs, T, fr, hh, fun k n hn => (by cases hn), fun h => (by cases h), fun h => (by cases h), fun _ => ⟨m, hm⟩⟩
  · cases hm
theorem gok_cons {x : Glob} {gl : List Glob} {A : Amb} (h : GOk [x] A) (hr : GOk gl A) : GOk (x :: gl) A := fun y hy => by
  rcases List.mem_cons.1 hy with rfl | hy
  · exact h _ (List.mem_singleton.2 rfl)
  · exact hr y hy
theorem tabs_ok {W : World} (h : laidMetH Tryz.prog laid7 W) (hs : W.ShapedOpen Tryz.prog) : GOk gls { w0 := W, X := fun _ => False } := by
  rw [MakeChecks.laidMetH_plain _ _ _ (by kernel_rfl)] at h
  have u5 : Tryz.prog.underlying 5 = some (.int .u8) := by kernel_rfl
  have c5 : Tryz.prog.cellsOf 5 = 1 := by kernel_rfl
  have h1 := h.tail
  have h2 := h1.tail
  have h3 := h2.tail
  have h4 := h3.tail
  have h5 := h4.tail
  have t32 : Lib.TabIs Tryz.prog W "math/bits.deBruijn32tab" .u8 tab32 := Lib.tabIs_of_head (t := 415) (e := 5) (n := 32) g32 (by kernel_rfl) (by kernel_rfl) u5 c5 (by kernel_rfl) h
  have t64 : Lib.TabIs Tryz.prog W "math/bits.deBruijn64tab" .u8 tab64 := Lib.tabIs_of_head (t := 248) (e := 5) (n := 64) g64 (by kernel_rfl) (by kernel_rfl) u5 c5 (by kernel_rfl) h1
  have t10 : Lib.TabIs Tryz.prog W "internal/strconv.uint64pow10" .u64 pow10 := Lib.tabIs_of_head (t := 276) (e := 215) (n := 20) gp10 (by kernel_rfl) (by kernel_rfl) (by kernel_rfl) (by kernel_rfl) (by kernel_rfl) h2
  exact gok_cons (glob_tab g64 t64) (gok_cons (glob_tab g32 t32) (gok_cons (glob_tab gp10 t10) (gok_cons (glob_max hs) (gok_cons (glob_err (ti := 119) gSyn (by kernel_rfl) (by kernel_rfl) h5)
    (gok_cons (glob_err (ti := 119) gRan (by kernel_rfl) (by kernel_rfl) h4) fun x hx => by cases hx)))))
theorem door_met (os : Os) (args : Array Value) : laidMetH Tryz.prog laid7 ((World.laidAll Tryz.prog os laid7).forCall (fun _ _ => 0) ⟨#[], args, []⟩).memory := by
  rw [MakeChecks.laidMetH_plain _ _ _ (by kernel_rfl)]
  exact laidMet_laidAll _ (by kernel_rfl) (by kernel_rfl)
end Go.Mg
namespace Go
variable {H : Type} {enc : TypeId × Value → H}
theorem returnsIn_and_shaped {a : Assume} {C : Checked} {os : Os} {f : FuncId} {fn : Func} {s : ChangeSpec} {conds : List PathCond} {apart fresh handsOn again : Bool} {X : World → Array Value → Prop}
    (hX : ∀ (w w' : World) (args : Array Value), w.heap = w'.heap → X w args → X w' args)
    (own : ownKnob C.prog.godebug = none) (started : os.Started) (noInit : C.prog.inits.idxOf? f = none) (hfn : C.prog.funcs[f]? = some fn)
    (witness : ∃ (w : World) (tape : Tape) (i : Input), w.os = os ∧ (w.forCall tape i).Shaped C.prog ∧ i.vars = [] ∧ Input.okWide C.prog (w.forCall tape i) .any w.heap.size f i ∧
      ((s.pre enc C.prog fn conds apart (w.forCall tape i).memory i.args ∧ X (w.forCall tape i).memory i.args) ∧ sizedMet enc C.prog fn (OpenSpec.ofChange s) apart (w.forCall tape i).memory i.args) ∧ a.holds C.prog (lone (Frame.enter C.prog f i.args .normal) [] (w.forCall tape i)))
    (contract : ∀ (W : World) (base : Nat) (args : Array Value) (ds gs : List (DataW H)) (before : List MemPlace),
      (∀ (j : Nat) t v, fn.params[j]? = some t → args[j]? = some v → Value.okWide C.prog W .any base t v) →
      DataW.Whole enc C.prog fn.params.toList s.vars apart W args.toList ds gs before →
      conds.all (PathCond.test C.prog ⟨fn.params.toList, ds, s.plain.varTypes C.prog, gs⟩) = true →
      (DataW.weightsEach C.prog (fn.params.toList ++ s.plain.varTypes C.prog) (ds ++ gs)).all (· ≤ reachBytes) = true → X W args → W.ShapedOpen C.prog →
      a.holds C.prog (lone (Frame.enter C.prog f args .normal) [] W) →
      Calls C.prog f args W fun e W' => ∃ v, e = .returned v ∧ s.post enc C.prog fn apart fresh handsOn again W args v W') :
    ReturnsInHanded a C os f .any (fun w args => (s.pre enc C.prog fn conds apart w args ∧ X w args) ∧ sizedMet enc C.prog fn (OpenSpec.ofChange s) apart w args) (s.post enc C.prog fn apart fresh handsOn again) := by
  refine returnsInHanded_of_calls own started noInit witness ?_
  intro w tape i _ hsh _ hok hpre hholds
  obtain ⟨_, _, _, fn', hfn', _, _, _, _, hval⟩ := hok
  have e : fn' = fn := Option.some.inj (hfn'.symm.trans hfn)
  subst e
  obtain ⟨⟨⟨ds, gs, before, hw, hc⟩, hx⟩, hz⟩ := hpre
  have hw' := DataW.Whole.of_heap (w' := w.forCall tape i) (by rfl) hw
  refine (contract (w.forCall tape i) w.heap.size i.args ds gs before hval hw' hc (hz.weights hw) (hX _ _ _ (by rfl) hx) hsh hholds).mono fun e W' ⟨v, he, hp⟩ => ?_
  subst he
  exact ChangeSpec.post_blind hp
end Go
