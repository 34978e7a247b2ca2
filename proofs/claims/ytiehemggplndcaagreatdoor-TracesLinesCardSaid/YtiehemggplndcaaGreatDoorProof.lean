/-
  TracesLines returns true for each step and each text, and its arguments read as they did; the tied card. Conditions: none.
-/
import Derived.Test.YtiehemggplndcaaGreatDoorCards
import Derived.Test.YtiehemggplndcaaGreatDoorTie
import Derived.Test.YtiehemggplndcaaGreatDoorD0
import Derived.Test.YtiehemggplndcaaGreatDoorD3
import Derived.Test.YtiehemggplndcaaGreatDoorD4
import Derived.Test.YtiehemggplndcaaGreatDoorA4
import Derived.Lib.SmallJoins
import Derived.WalkKit
import Derived.ProofKit
import Derived.OpenShut
import Derived.ChangeMaps5
import Derived.SevenTiedAt
namespace Go.Proofs.YtiehemggplndcaaGreatDoor.tracesLines
open Go.ChangeShapes Go.WideShapes Go.ChangeAt Go.RowKit Go.Joins Go.Deep Go.Sx
open Go.ChangeMaps (open_string)
theorem own : ownKnob Tryz.prog.godebug = none := by kernel_rfl
theorem laidOut : laidOutB Tryz.prog = true := by kernel_rfl
theorem cells23 : Tryz.prog.cellsOf 23 = 8 := by kernel_rfl
theorem reads : ∀ t ∈ ([23, 9] : List TypeId), Tryz.prog.readableRec t = true ∧ t < Tryz.prog.types.size := by
  intro t ht
  simp only [List.mem_cons, List.not_mem_nil, or_false] at ht
  rcases ht with rfl | rfl
  · exact ⟨by kernel_rfl, of_decide_eq_true (by kernel_rfl)⟩
  · exact ⟨by kernel_rfl, of_decide_eq_true (by kernel_rfl)⟩
theorem open_agg8 {H : Type} {enc : TypeId × Value → H} {P : Program} {w : World} {base : Nat} {spare : Nat → Bool} {held : Bool} {r : Reach} {b0 : Nat} {t : TypeId} {f0 f1 f2 f3 f4 f5 f6 f7 : Field} {v : Value} {d : DataW H} {p : List MemPlace} (hs : P.underlying t = some (.struct #[f0, f1, f2, f3, f4, f5, f6, f7])) (hone : oneCellFields P #[f0, f1, f2, f3, f4, f5, f6, f7] = true) (hC : P.cellsOf t = 8)
    (hv : Value.okWide P w r b0 t v) (h : DataW.Trod enc P w base spare held t v d p) :
    ∃ (v0 v1 v2 v3 v4 v5 v6 v7 : Value) (y0 y1 y2 y3 y4 y5 y6 y7 : DataW H × List MemPlace) (n : Nat), v = .agg #[v0, v1, v2, v3, v4, v5, v6, v7] ∧ d = .agg [y0.1, y1.1, y2.1, y3.1, y4.1, y5.1, y6.1, y7.1] ∧ p = y0.2 ++ (y1.2 ++ (y2.2 ++ (y3.2 ++ (y4.2 ++ (y5.2 ++ (y6.2 ++ (y7.2))))))) ∧
      DataW.trod enc P w base spare held n f0.type [v0] = some y0 ∧ DataW.trod enc P w base spare held n f1.type [v1] = some y1 ∧ DataW.trod enc P w base spare held n f2.type [v2] = some y2 ∧ DataW.trod enc P w base spare held n f3.type [v3] = some y3 ∧ DataW.trod enc P w base spare held n f4.type [v4] = some y4 ∧ DataW.trod enc P w base spare held n f5.type [v5] = some y5 ∧ DataW.trod enc P w base spare held n f6.type [v6] = some y6 ∧ DataW.trod enc P w base spare held n f7.type [v7] = some y7 := by
  obtain ⟨cs, rfl, hsz⟩ := okWide_struct hs hv
  obtain ⟨l⟩ := cs
  match l, hsz.trans hC with
  | [c0, c1, c2, c3, c4, c5, c6, c7], _ =>
    obtain ⟨fuel, hf⟩ := h
    obtain ⟨xs, n, _, hx, hl, hlen, hg⟩ := DataW.trod_struct hs hf
    obtain ⟨o0, k0⟩ := hone_of hone 0 f0 rfl
    obtain ⟨o1, k1⟩ := hone_of hone 1 f1 rfl
    obtain ⟨o2, k2⟩ := hone_of hone 2 f2 rfl
    obtain ⟨o3, k3⟩ := hone_of hone 3 f3 rfl
    obtain ⟨o4, k4⟩ := hone_of hone 4 f4 rfl
    obtain ⟨o5, k5⟩ := hone_of hone 5 f5 rfl
    obtain ⟨o6, k6⟩ := hone_of hone 6 f6 rfl
    obtain ⟨o7, k7⟩ := hone_of hone 7 f7 rfl
    match xs, hlen with
    | [y0, y1, y2, y3, y4, y5, y6, y7], _ =>
      simp only [Prod.mk.injEq] at hx
      exact ⟨c0, c1, c2, c3, c4, c5, c6, c7, y0, y1, y2, y3, y4, y5, y6, y7, n, rfl, hx.1, by simpa using hx.2, by simpa [Value.cells, o0, k0] using hg 0 f0 rfl, by simpa [Value.cells, o1, k1] using hg 1 f1 rfl, by simpa [Value.cells, o2, k2] using hg 2 f2 rfl, by simpa [Value.cells, o3, k3] using hg 3 f3 rfl, by simpa [Value.cells, o4, k4] using hg 4 f4 rfl, by simpa [Value.cells, o5, k5] using hg 5 f5 rfl, by simpa [Value.cells, o6, k6] using hg 6 f6 rfl, by simpa [Value.cells, o7, k7] using hg 7 f7 rfl⟩
theorem wf64 {n : Int} (h : (Lit.int .i64 n).wf = true) : IntKind.i64.min ≤ n ∧ n ≤ IntKind.i64.max := by
  simpa [Lit.wf] using h
theorem walk (a0 a3 a4 a5 a6 a7 : Int) (b1 b2 s : ByteArray) (h0 : (Lit.int .i64 a0).wf = true) (h3 : (Lit.int .i64 a3).wf = true) (h4 : (Lit.int .i64 a4).wf = true) (h5 : (Lit.int .i64 a5).wf = true) (h6 : (Lit.int .i64 a6).wf = true) (h7 : (Lit.int .i64 a7).wf = true) (w : World) (hG : GOk Go.Mg.gls { w0 := w, X := fun _ => False }) :
    Calls Tryz.prog 3 #[.agg #[.int .i64 a0, .string b1, .string b2, .int .i64 a3, .int .i64 a4, .int .i64 a5, .int .i64 a6, .int .i64 a7], .string s] w fun e w' => e = .returned (.bool true) ∧ Kept w w' := by
  have h := COk.bare Go.Tt.okLns rfl rfl (ds := [.i a0, .i (senc b1.data.toList), .i (senc b2.data.toList), .i a3, .i a4, .i a5, .i a6, .i a7, .i (senc s.data.toList)]) (by exact trivial) (xs := [.agg #[.int .i64 a0, .string b1, .string b2, .int .i64 a3, .int .i64 a4, .int .i64 a5, .int .i64 a6, .int .i64 a7], .string s]) w hG
    ⟨⟨_, rfl, ⟨a0, rfl, rfl⟩, ⟨_, rfl, by rw [sdec_senc]⟩, ⟨_, rfl, by rw [sdec_senc]⟩, ⟨a3, rfl, rfl⟩, ⟨a4, rfl, rfl⟩, ⟨a5, rfl, rfl⟩, ⟨a6, rfl, rfl⟩, ⟨a7, rfl, rfl⟩, trivial⟩, ⟨_, rfl, by rw [sdec_senc]⟩, trivial⟩ (by
      intro p hp
      simp only [Go.Tt.cLns, Go.Tt.stRng, List.mem_cons, List.not_mem_nil, or_false] at hp
      rcases hp with rfl | rfl | rfl | rfl | rfl | rfl
      · exact ⟨_, rfl, wf64 h0⟩
      · exact ⟨_, rfl, wf64 h3⟩
      · exact ⟨_, rfl, wf64 h4⟩
      · exact ⟨_, rfl, wf64 h5⟩
      · exact ⟨_, rfl, wf64 h6⟩
      · exact ⟨_, rfl, wf64 h7⟩)
  refine h.mono fun e w' he => ?_
  obtain ⟨v, outs, g', rfl, _, _, ⟨n, hn, rfl⟩, _, h1, h2, h3, h4⟩ := he
  simp only [E.den, Option.some.injEq, D.i.injEq] at hn
  subst hn
  exact ⟨rfl, h1, h2, h3, h4⟩
set_option maxRecDepth 100000 in
theorem lifted (os : Os) (started : os.Started) (H : Type) (enc : TypeId × Value → H) :
    ReturnsInHanded {} Tryz.checked os 3 .any (fun w args => (Rows.tracesLinesSpec.pre enc Tryz.prog Tryz.f3 [] false w args ∧ laidMetH Tryz.prog Go.Mg.laid7 w) ∧ sizedMet enc Tryz.prog Tryz.f3 (OpenSpec.ofChange Rows.tracesLinesSpec) false w args)
      (Rows.tracesLinesSpec.post enc Tryz.prog Tryz.f3 false true false false) := by
  refine returnsIn_and_shaped (C := Tryz.checked) (X := fun w _ => laidMetH Tryz.prog Go.Mg.laid7 w) (fun _ _ _ hh h => h.of_heap hh) own started (by kernel_rfl) Tryz.func3
    (ChangeSpec.witness_shaped (enc := enc) (C := Tryz.checked) (os := os) (X := fun w _ => laidMetH Tryz.prog Go.Mg.laid7 w) false (World.laidAll Tryz.prog os Go.Mg.laid7) #[.agg #[.int .i64 0, .string ⟨#[]⟩, .string ⟨#[]⟩, .int .i64 0, .int .i64 0, .int .i64 0, .int .i64 0, .int .i64 0], .string ⟨#[]⟩] 8 (World.laidAll_os _ _ _)
      (World.shaped_of_ZipB (by kernel_rfl) (by kernel_rfl)) (by kernel_rfl) (by kernel_rfl) (by kernel_rfl) (Go.Mg.door_met os _)) ?_
  intro W base args ds gs before hval0 hW _ _ hL hS _
  have hval : ∀ (j : Nat) t v, Tryz.f3.params[j]? = some t → args[j]? = some v → Value.okWide Tryz.prog W .any base t v := hval0
  have hW' := hW
  obtain ⟨p, q, hA0, hV, rfl, hfz, hnd⟩ := hW
  have hA : DataW.TrodAll enc Tryz.prog W 0 (fun _ => true) true Tryz.f3.params.toList args.toList ds p := hA0
  rw [Tryz.params3] at hA hval
  obtain ⟨v0, v1, d0, d1, p0, p1, rfl, rfl, rfl, h0, h1⟩ := trodAll_two hA
  obtain ⟨rfl, rfl⟩ := trodVars_none hV
  obtain ⟨c0, c1, c2, c3, c4, c5, c6, c7, y0, y1, y2, y3, y4, y5, y6, y7, m, rfl, rfl, rfl, hy0, hy1, hy2, hy3, hy4, hy5, hy6, hy7⟩ := open_agg8 Tryz.underlying23 (by kernel_rfl) cells23 (hval 0 23 v0 rfl rfl) h0
  obtain ⟨a0, e0, rfl, w0⟩ := DataW.trod_int Tryz.underlying3 hy0
  obtain ⟨b1, e1, rfl, _⟩ := DataW.trod_string Tryz.underlying9 hy1
  obtain ⟨b2, e2, rfl, _⟩ := DataW.trod_string Tryz.underlying9 hy2
  obtain ⟨a3, e3, rfl, w3⟩ := DataW.trod_int Tryz.underlying2 hy3
  obtain ⟨a4, e4, rfl, w4⟩ := DataW.trod_int Tryz.underlying2 hy4
  obtain ⟨a5, e5, rfl, w5⟩ := DataW.trod_int Tryz.underlying2 hy5
  obtain ⟨a6, e6, rfl, w6⟩ := DataW.trod_int Tryz.underlying3 hy6
  obtain ⟨a7, e7, rfl, w7⟩ := DataW.trod_int Tryz.underlying2 hy7
  simp at e0 e1 e2 e3 e4 e5 e6 e7
  subst e0 e1 e2 e3 e4 e5 e6 e7
  obtain ⟨s, rfl, rfl, rfl, _⟩ := open_string Tryz.underlying9 (hval 1 9 v1 rfl rfl) h1
  refine (walk a0 a3 a4 a5 a6 a7 b1 b2 s w0 w3 w4 w5 w6 w7 W (Go.Mg.tabs_ok hL hS)).mono fun e W' ⟨he, hk⟩ => ?_
  subst he
  exact ⟨_, rfl, law_post laidOut (by kernel_rfl) Tryz.underlying4 rfl (by rw [Tryz.params3]; exact reads) rfl rfl rfl hW' hk⟩
theorem holds : Rows.TracesLinesSaid :=
  OpenClaim.holds_of_wide 3 Tryz.f3 rfl rfl rfl rfl rfl rfl rfl ⟨rfl, rfl, rfl, rfl, rfl⟩ rfl rfl rfl rfl rfl (by as_aux_lemma => kernel_rfl) Tryz.func3 Go.Mg.joined3
    (of_decide_eq_true (by as_aux_lemma => kernel_rfl)) (by unfold Func.isWrapper; first | (rw [if_pos (by decide +kernel)]; kernel_rfl) | (rw [if_neg (by decide +kernel)]; exact ⟨rfl, rfl⟩))
    (fun os started H enc _ => lifted os started H enc)
theorem proved : Rows.TracesLinesCardSaid :=
  Claim7.holds_tied_plain_at .later [] [.data, .data, .data, .data, .sentinel, .sentinel, .pinned] true (true, "a1ddcbd8e5fd72cde377d1646b46f2af9914c1c670380b027608b93f3ae5ea07") true
    holds (fun _ h => by cases h) (by as_aux_lemma => kernel_rfl) (fun _ h => by cases h) tracesLines_row_tie rfl ⟨rfl, rfl⟩ (by as_aux_lemma => kernel_rfl) rfl
    (fun f fn hf hfn => by
      obtain rfl : f = 3 := Option.some.inj ((show Tryz.prog.funcNamed "polder/polderlaw32.TracesLines" = some 3 by as_aux_lemma => kernel_rfl).symm.trans hf) |>.symm
      obtain rfl : fn = Tryz.f3 := (Option.some.inj (Tryz.func3.symm.trans hfn)).symm
      exact ⟨by as_aux_lemma => kernel_rfl, fun j t ht => by
        rw [Tryz.params3] at ht
        have hm : t ∈ [23, 9] := by simpa using Array.mem_of_getElem? ht
        have hall : ([23, 9].all fun u => !Tryz.prog.wantsStandIn u) = true := by kernel_rfl
        exact (show Tryz.prog.wantsStandIn t = false by simpa using List.all_eq_true.1 hall t hm)⟩)
    Go.Mg.goesBy3
#print axioms proved
end Go.Proofs.YtiehemggplndcaaGreatDoor.tracesLines
