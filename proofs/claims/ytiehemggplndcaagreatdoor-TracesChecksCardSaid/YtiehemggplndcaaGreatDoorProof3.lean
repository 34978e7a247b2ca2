/-
  TracesChecks returns true for each program, step and text, and its arguments read as they did; the tied card. Conditions: none.
-/
import Derived.Test.YtiehemggplndcaaGreatDoorCards
import Derived.Test.YtiehemggplndcaaGreatDoorTie
import Derived.Test.YtiehemggplndcaaGreatDoorD0
import Derived.Test.YtiehemggplndcaaGreatDoorD3
import Derived.Test.YtiehemggplndcaaGreatDoorD4
import Derived.Test.YtiehemggplndcaaGreatDoorA4
import Derived.Lib.SmallJoins
import Derived.WalkKit
import Derived.ProofKit
import Derived.OpenShut
import Derived.ChangeMaps5
import Derived.SevenTiedAt
namespace Go.Proofs.YtiehemggplndcaaGreatDoor.tracesChecks
open Go.ChangeShapes Go.WideShapes Go.ChangeAt Go.RowKit Go.Joins Go.Deep Go.Sx
open Go.ChangeMaps (open_string)
theorem own : ownKnob Tryz.prog.godebug = none := by kernel_rfl
theorem laidOut : laidOutB Tryz.prog = true := by kernel_rfl
theorem reads : ∀ t ∈ ([33, 23, 9] : List TypeId), Tryz.prog.readableRec t = true ∧ t < Tryz.prog.types.size := by
 intro t ht
 simp only [List.mem_cons, List.not_mem_nil, or_false] at ht
 rcases ht with rfl | rfl | rfl
 · exact ⟨by kernel_rfl, of_decide_eq_true (by kernel_rfl)⟩
 · exact ⟨by kernel_rfl, of_decide_eq_true (by kernel_rfl)⟩
 · exact ⟨by kernel_rfl, of_decide_eq_true (by kernel_rfl)⟩
theorem Rw {H : Type} {enc : TypeId × Value → H} {P : Program} {w : World} {base : Nat} {spare : Nat → Bool} {held : Bool} {r : Reach} {b0 : Nat} {t : TypeId} {f0 f1 f2 f3 f4 f5 f6 f7 : Field} {v : Value} {d : DataW H} {p : List MemPlace} (hs : P.underlying t = some (.struct #[f0, f1, f2, f3, f4, f5, f6, f7])) (hone : oneCellFields P #[f0, f1, f2, f3, f4, f5, f6, f7] = true) (hC : P.cellsOf t = 8)
   (hv : Value.okWide P w r b0 t v) (h : DataW.Trod enc P w base spare held t v d p) :
   ∃ (v0 v1 v2 v3 v4 v5 v6 v7 : Value) (y0 y1 y2 y3 y4 y5 y6 y7 : DataW H × List MemPlace) (n : Nat), v = .agg #[v0, v1, v2, v3, v4, v5, v6, v7] ∧ d = .agg [y0.1, y1.1, y2.1, y3.1, y4.1, y5.1, y6.1, y7.1] ∧ p = y0.2 ++ (y1.2 ++ (y2.2 ++ (y3.2 ++ (y4.2 ++ (y5.2 ++ (y6.2 ++ (y7.2))))))) ∧
     DataW.trod enc P w base spare held n f0.type [v0] = some y0 ∧ DataW.trod enc P w base spare held n f1.type [v1] = some y1 ∧ DataW.trod enc P w base spare held n f2.type [v2] = some y2 ∧ DataW.trod enc P w base spare held n f3.type [v3] = some y3 ∧ DataW.trod enc P w base spare held n f4.type [v4] = some y4 ∧ DataW.trod enc P w base spare held n f5.type [v5] = some y5 ∧ DataW.trod enc P w base spare held n f6.type [v6] = some y6 ∧ DataW.trod enc P w base spare held n f7.type [v7] = some y7 := by
 obtain ⟨cs, rfl, hsz⟩ := okWide_struct hs hv
 obtain ⟨l⟩ := cs
 match l, hsz.trans hC with
 | [c0, c1, c2, c3, c4, c5, c6, c7], _ =>
   obtain ⟨fuel, hf⟩ := h
   obtain ⟨xs, n, _, hx, hl, hlen, hg⟩ := DataW.trod_struct hs hf
   obtain ⟨o0, k0⟩ := hone_of hone 0 f0 rfl
   obtain ⟨o1, k1⟩ := hone_of hone 1 f1 rfl
   obtain ⟨o2, k2⟩ := hone_of hone 2 f2 rfl
   obtain ⟨o3, k3⟩ := hone_of hone 3 f3 rfl
   obtain ⟨o4, k4⟩ := hone_of hone 4 f4 rfl
   obtain ⟨o5, k5⟩ := hone_of hone 5 f5 rfl
   obtain ⟨o6, k6⟩ := hone_of hone 6 f6 rfl
   obtain ⟨o7, k7⟩ := hone_of hone 7 f7 rfl
   match xs, hlen with
   | [y0, y1, y2, y3, y4, y5, y6, y7], _ =>
     simp only [Prod.mk.injEq] at hx
     exact ⟨c0, c1, c2, c3, c4, c5, c6, c7, y0, y1, y2, y3, y4, y5, y6, y7, n, rfl, hx.1, by simpa using hx.2, by simpa [Value.cells, o0, k0] using hg 0 f0 rfl, by simpa [Value.cells, o1, k1] using hg 1 f1 rfl, by simpa [Value.cells, o2, k2] using hg 2 f2 rfl, by simpa [Value.cells, o3, k3] using hg 3 f3 rfl, by simpa [Value.cells, o4, k4] using hg 4 f4 rfl, by simpa [Value.cells, o5, k5] using hg 5 f5 rfl, by simpa [Value.cells, o6, k6] using hg 6 f6 rfl, by simpa [Value.cells, o7, k7] using hg 7 f7 rfl⟩
theorem walk {W : World} {x : Value} {a0 a1 a2 m c0 c3 c4 c5 c6 c7 : Int} {T : Int → Nat → Int} {b1 b2 s : ByteArray} (hx : Bc W Go.Tt.stK x m T) (hm : 0 ≤ m) (hm2 : m ≤ 9223372036854775807) (h0 : Go.Tt.I64 a0) (h1 : Go.Tt.I64 a1) (h2 : Go.Tt.I64 a2) (hT : Go.Tt.TbR T m)
   (g0 : (Lit.int .i64 c0).wf = true) (g3 : (Lit.int .i64 c3).wf = true) (g4 : (Lit.int .i64 c4).wf = true) (g5 : (Lit.int .i64 c5).wf = true) (g6 : (Lit.int .i64 c6).wf = true) (g7 : (Lit.int .i64 c7).wf = true) (hG : GOk Go.Mg.gls { w0 := W, X := fun _ => False }) :
   Calls Tryz.prog 5 #[.agg #[.int .i64 a0, .int .i64 a1, .int .i64 a2, x], .agg #[.int .i64 c0, .string b1, .string b2, .int .i64 c3, .int .i64 c4, .int .i64 c5, .int .i64 c6, .int .i64 c7], .string s] W fun e w' => e = .returned (.bool true) ∧ Kept W w' := by
 obtain ⟨g, e1, e2, hM, hR⟩ := RG (W := W) (I := Go.Tt.TI 40) (P := Tryz.prog) [⟨Go.Tt.stK, x, m, T, 3, 4⟩] [.i a0, .i a1, .i a2, .t T, .i m, .i c0, .i (qZ b1.data.toList), .i (qZ b2.data.toList), .i c3, .i c4, .i c5, .i c6, .i c7, .i (qZ s.data.toList)] (by
   intro z hz
   simp only [List.mem_cons, List.not_mem_nil, or_false] at hz
   subst hz
   exact ⟨hx, rfl, rfl⟩)
 obtain ⟨hmr, hX⟩ := hM Go.Tt.Ib rfl
 have := Go.Tt.qzz g W [.agg #[.int .i64 a0, .int .i64 a1, .int .i64 a2, x], .agg #[.int .i64 c0, .string b1, .string b2, .int .i64 c3, .int .i64 c4, .int .i64 c5, .int .i64 c6, .int .i64 c7], .string s] (by rw [e1]; exact trivial) e2 (fun z hz => let ⟨h1, _, h3⟩ := hG z hz; ⟨h1, hX _, h3⟩) hmr
   ⟨⟨_, rfl, ⟨a0, by rw [e1]; rfl, rfl⟩, ⟨a1, by rw [e1]; rfl, rfl⟩, ⟨a2, by rw [e1]; rfl, rfl⟩, hR 0 _ rfl, trivial⟩, ⟨_, rfl, ⟨c0, by rw [e1]; rfl, rfl⟩, ⟨_, by rw [e1]; rfl, by rw [qm]⟩, ⟨_, by rw [e1]; rfl, by rw [qm]⟩, ⟨c3, by rw [e1]; rfl, rfl⟩, ⟨c4, by rw [e1]; rfl, rfl⟩, ⟨c5, by rw [e1]; rfl, rfl⟩, ⟨c6, by rw [e1]; rfl, rfl⟩, ⟨c7, by rw [e1]; rfl, rfl⟩, trivial⟩, ⟨_, by rw [e1]; rfl, by rw [qm]⟩, trivial⟩
   (fun p hp => by
     rw [e1]
     simp only [Go.Tt.Ib, List.mem_cons, List.not_mem_nil, or_false] at hp
     rcases hp with rfl | rfl | rfl | rfl | rfl | rfl | rfl | rfl | rfl | rfl | rfl | rfl
     · exact ⟨_, rfl, by show (if (0 : Int) ≤ m then (1 : Int) else 0) ≠ 0; rw [if_pos hm]; decide⟩
     · exact ⟨m, rfl, by show IntKind.i64.min ≤ m ∧ m ≤ IntKind.i64.max; exact ⟨by have : IntKind.i64.min = -9223372036854775808 := rfl; omega, by have : IntKind.i64.max = 9223372036854775807 := rfl; omega⟩⟩
     · exact ⟨[.t T, .i m], rfl, hT⟩
     · exact ⟨a0, rfl, h0⟩
     · exact ⟨a1, rfl, h1⟩
     · exact ⟨a2, rfl, h2⟩
     · exact ⟨c0, rfl, Go.Tt.wf_i64 g0⟩
     · exact ⟨c3, rfl, Go.Tt.wf_i64 g3⟩
     · exact ⟨c4, rfl, Go.Tt.wf_i64 g4⟩
     · exact ⟨c5, rfl, Go.Tt.wf_i64 g5⟩
     · exact ⟨c6, rfl, Go.Tt.wf_i64 g6⟩
     · exact ⟨c7, rfl, Go.Tt.wf_i64 g7⟩)
 refine this.mono fun e w' he => ?_
 obtain ⟨v, outs, g', rfl, _, _, _, _, ⟨n, hn, rfl⟩, h6, _⟩ := he
 simp only [E.den, Option.some.injEq, D.i.injEq] at hn
 subst hn
 exact ⟨rfl, h6.same.1, h6.same.2, h6.size, fun i hi => h6.keep i hi (hX i)⟩
set_option maxRecDepth 100000 in
theorem lifted (os : Os) (started : os.Started) (H : Type) (enc : TypeId × Value → H) :
   ReturnsInHanded {} Tryz.checked os 5 .any (fun w args => (Rows.tracesChecksSpec.pre enc Tryz.prog Tryz.f5 [] false w args ∧ laidMetH Tryz.prog Go.Mg.Ze w) ∧ sizedMet enc Tryz.prog Tryz.f5 (OpenSpec.ofChange Rows.tracesChecksSpec) false w args)
     (Rows.tracesChecksSpec.post enc Tryz.prog Tryz.f5 false true false false) := by
 refine ng (C := Tryz.checked) (X := fun w _ => laidMetH Tryz.prog Go.Mg.Ze w) (fun _ _ _ hh h => h.of_heap hh) own started (by kernel_rfl) Tryz.func5
   (ChangeSpec.witness_shaped (enc := enc) (C := Tryz.checked) (os := os) (X := fun w _ => laidMetH Tryz.prog Go.Mg.Ze w) false (World.laidAll Tryz.prog os Go.Mg.Ze) #[.agg #[.int .i64 0, .int .i64 0, .int .i64 0, .slice none 0 0], .agg #[.int .i64 0, .string ⟨#[]⟩, .string ⟨#[]⟩, .int .i64 0, .int .i64 0, .int .i64 0, .int .i64 0, .int .i64 0], .string ⟨#[]⟩] 8 (World.laidAll_os _ _ _)
     (World.shaped_of_ZipB (by kernel_rfl) (by kernel_rfl)) (by kernel_rfl) (by kernel_rfl) (by kernel_rfl) (Go.Mg.UO os _)) ?_
 intro W base args ds gs before hval0 hW _ _ hL hS _
 have hval : ∀ (j : Nat) t v, Tryz.f5.params[j]? = some t → args[j]? = some v → Value.okWide Tryz.prog W .any base t v := hval0
 have hW' := hW
 obtain ⟨p, q, hA0, hV, rfl, hfz, hnd⟩ := hW
 have hA : DataW.TrodAll enc Tryz.prog W 0 (fun _ => true) true Tryz.f5.params.toList args.toList ds p := hA0
 rw [Tryz.params5] at hA hval
 obtain ⟨v0, v1, v2, d0, d1, d2, p0, p1, p2, rfl, rfl, rfl, h0, h1, h2⟩ := trodAll_three hA
 obtain ⟨rfl, rfl⟩ := trodVars_none hV
 obtain ⟨x, a0, a1, a2, m, T, rfl, hx, hm, hm2, g0, g1, g2, hT⟩ := Go.Tt.PV (hval 0 33 v0 rfl rfl) h0
 obtain ⟨c0, c1, c2, c3, c4, c5, c6, c7, y0, y1, y2, y3, y4, y5, y6, y7, mm, rfl, rfl, rfl, hy0, hy1, hy2, hy3, hy4, hy5, hy6, hy7⟩ := Rw Tryz.underlying23 (by kernel_rfl) Go.Tt.M6 (hval 1 23 v1 rfl rfl) h1
 obtain ⟨k0, e0, rfl, w0⟩ := DataW.trod_int Tryz.underlying3 hy0
 obtain ⟨b1, e1, rfl, _⟩ := DataW.trod_string Tryz.underlying9 hy1
 obtain ⟨b2, e2, rfl, _⟩ := DataW.trod_string Tryz.underlying9 hy2
 obtain ⟨k3, e3, rfl, w3⟩ := DataW.trod_int Tryz.underlying2 hy3
 obtain ⟨k4, e4, rfl, w4⟩ := DataW.trod_int Tryz.underlying2 hy4
 obtain ⟨k5, e5, rfl, w5⟩ := DataW.trod_int Tryz.underlying2 hy5
 obtain ⟨k6, e6, rfl, w6⟩ := DataW.trod_int Tryz.underlying3 hy6
 obtain ⟨k7, e7, rfl, w7⟩ := DataW.trod_int Tryz.underlying2 hy7
 simp at e0 e1 e2 e3 e4 e5 e6 e7
 subst e0 e1 e2 e3 e4 e5 e6 e7
 obtain ⟨s, rfl, rfl, rfl, _⟩ := open_string Tryz.underlying9 (hval 2 9 v2 rfl rfl) h2
 refine (walk hx hm hm2 g0 g1 g2 hT w0 w3 w4 w5 w6 w7 (Go.Mg.Oq hL hS)).mono fun e W' ⟨he, hk⟩ => ?_
 subst he
 exact ⟨_, rfl, LB laidOut (by kernel_rfl) Tryz.underlying4 rfl (by rw [Tryz.params5]; exact reads) rfl rfl rfl hW' hk⟩
theorem holds : Rows.TracesChecksSaid :=
 OpenClaim.holds_of_wide 5 Tryz.f5 rfl rfl rfl rfl rfl rfl rfl ⟨rfl, rfl, rfl, rfl, rfl⟩ rfl rfl rfl rfl rfl (by as_aux_lemma => kernel_rfl) Tryz.func5 Go.Mg.EN
   (of_decide_eq_true (by as_aux_lemma => kernel_rfl)) (by unfold Func.isWrapper; first | (rw [if_pos (by decide +kernel)]; kernel_rfl) | (rw [if_neg (by decide +kernel)]; exact ⟨rfl, rfl⟩))
   (fun os started H enc _ => lifted os started H enc)
theorem proved : Rows.TracesChecksCardSaid :=
 Claim7.holds_tied_plain_at .later [] [.data, .data, .data, .data, .sentinel, .sentinel, .pinned] true (true, "a1ddcbd8e5fd72cde377d1646b46f2af9914c1c670380b027608b93f3ae5ea07") true
   holds (fun _ h => by cases h) (by as_aux_lemma => kernel_rfl) (fun _ h => by cases h) tracesChecks_row_tie rfl ⟨rfl, rfl⟩ (by as_aux_lemma => kernel_rfl) rfl
   (fun f fn hf hfn => by
     obtain rfl : f = 5 := Option.some.inj ((show Tryz.prog.funcNamed "polder/polderlaw32.TracesChecks" = some 5 by as_aux_lemma => kernel_rfl).symm.trans hf) |>.symm
     obtain rfl : fn = Tryz.f5 := (Option.some.inj (Tryz.func5.symm.trans hfn)).symm
     exact ⟨by as_aux_lemma => kernel_rfl, fun j t ht => by
       rw [Tryz.params5] at ht
       have hm : t ∈ [33, 23, 9] := by simpa using Array.mem_of_getElem? ht
       have hall : ([33, 23, 9].all fun u => !Tryz.prog.wantsStandIn u) = true := by kernel_rfl
       exact (show Tryz.prog.wantsStandIn t = false by simpa using List.all_eq_true.1 hall t hm)⟩)
   Go.Mg.EI
#print axioms proved
end Go.Proofs.YtiehemggplndcaaGreatDoor.tracesChecks
