/-
  TracesNested returns true for each program, and it reads as it did; the tied card. Conditions: none.
-/
import Derived.Test.YtdelhnefoccnbaaGreatDoorCards
import Derived.Test.YtdelhnefoccnbaaGreatDoorTie
import Derived.Test.YtdelhnefoccnbaaGreatDoorD3
import Derived.Test.YtdelhnefoccnbaaGreatDoorD4
import Derived.Test.YtdelhnefoccnbaaGreatDoorD5
import Derived.Test.YtdelhnefoccnbaaGreatDoorA5
import Derived.Lib.SmallJoins
import Derived.WalkKit
import Derived.ProofKit
import Derived.OpenShut
import Derived.SevenTiedAt
namespace Go.Proofs.YtdelhnefoccnbaaGreatDoor.tracesNested
open Go.ChangeShapes Go.WideShapes Go.ChangeAt Go.RowKit Go.Joins Go.Deep Go.Sx
theorem own : ownKnob Tryz.prog.godebug = none := by kernel_rfl
theorem laidOut : laidOutB Tryz.prog = true := by kernel_rfl
theorem reads : ∀ t ∈ ([24] : List TypeId), Tryz.prog.readableRec t = true ∧ t < Tryz.prog.types.size := by
  intro t ht
  simp only [List.mem_cons, List.not_mem_nil, or_false] at ht
  subst ht
  exact ⟨by kernel_rfl, of_decide_eq_true (by kernel_rfl)⟩
theorem walk {W : World} {x : Value} {a0 a1 a2 m : Int} {T : Int → Nat → Int} (hx : RowsV W Go.Tt.stK x m T) (hm : 0 ≤ m) (hm2 : m ≤ 9223372036854775807) (h0 : Go.Tt.I64 a0) (h1 : Go.Tt.I64 a1) (h2 : Go.Tt.I64 a2) (hT : Go.Tt.TbR T m) (hG : GOk Go.Mg.gls { w0 := W, X := fun _ => False }) :
    Calls Tryz.prog 3 #[.agg #[.int .i64 a0, .int .i64 a1, .int .i64 a2, x]] W fun e w' => e = .returned (.bool true) ∧ Kept W w' := by
  obtain ⟨g, e1, e2, hM, hR⟩ := gives_rel (W := W) (I := Go.Tt.TI 0) (P := Tryz.prog) [⟨Go.Tt.stK, x, m, T, 3, 4⟩] [.i a0, .i a1, .i a2, .t T, .i m] (by
    intro z hz
    simp only [List.mem_cons, List.not_mem_nil, or_false] at hz
    subst hz
    exact ⟨hx, rfl, rfl⟩)
  obtain ⟨hmr, hX⟩ := hM Go.Tt.cNes rfl
  have := Go.Tt.okNes g W [.agg #[.int .i64 a0, .int .i64 a1, .int .i64 a2, x]] (by rw [e1]; exact trivial) e2 (fun z hz => let ⟨h1, _, h3⟩ := hG z hz; ⟨h1, hX _, h3⟩) hmr
    ⟨⟨_, rfl, ⟨a0, by rw [e1]; rfl, rfl⟩, ⟨a1, by rw [e1]; rfl, rfl⟩, ⟨a2, by rw [e1]; rfl, rfl⟩, hR 0 _ rfl, trivial⟩, trivial⟩
    (fun p hp => by
      rw [e1]
      simp only [Go.Tt.cNes, Go.Tt.lawP, List.mem_cons, List.not_mem_nil, or_false] at hp
      rcases hp with rfl | rfl | rfl | rfl | rfl | rfl
      · exact ⟨_, rfl, by show (if (0 : Int) ≤ m then (1 : Int) else 0) ≠ 0; rw [if_pos hm]; decide⟩
      · exact ⟨m, rfl, by show IntKind.i64.min ≤ m ∧ m ≤ IntKind.i64.max; exact ⟨by have : IntKind.i64.min = -9223372036854775808 := rfl; omega, by have : IntKind.i64.max = 9223372036854775807 := rfl; omega⟩⟩
      · exact ⟨[.t T, .i m], rfl, hT⟩
      · exact ⟨a0, rfl, h0⟩
      · exact ⟨a1, rfl, h1⟩
      · exact ⟨a2, rfl, h2⟩)
  refine this.mono fun e w' he => ?_
  obtain ⟨v, outs, g', rfl, _, _, _, _, ⟨n, hn, rfl⟩, h6, _⟩ := he
  simp only [E.den, Option.some.injEq, D.i.injEq] at hn
  subst hn
  exact ⟨rfl, h6.same.1, h6.same.2, h6.size, fun i hi => h6.keep i hi (hX i)⟩
set_option maxRecDepth 100000 in
theorem lifted (os : Os) (started : os.Started) (H : Type) (enc : TypeId × Value → H) :
    ReturnsInHanded {} Tryz.checked os 3 .any (fun w args => (Rows.tracesNestedSpec.pre enc Tryz.prog Tryz.f3 [] false w args ∧ laidMetH Tryz.prog Go.Mg.laid2 w) ∧ sizedMet enc Tryz.prog Tryz.f3 (OpenSpec.ofChange Rows.tracesNestedSpec) false w args)
      (Rows.tracesNestedSpec.post enc Tryz.prog Tryz.f3 false true false false) := by
  refine returnsInHanded_of_change_and (C := Tryz.checked) (X := fun w _ => laidMetH Tryz.prog Go.Mg.laid2 w) (fun _ _ _ hh h => h.of_heap hh) own started (by kernel_rfl) Tryz.func3
    (ChangeSpec.witness_shaped (enc := enc) (C := Tryz.checked) (os := os) (X := fun w _ => laidMetH Tryz.prog Go.Mg.laid2 w) false (World.doorLaid Tryz.prog 19 os) #[.agg #[.int .i64 0, .int .i64 0, .int .i64 0, .slice none 0 0]] 8 rfl (World.shaped_of_RefB (by kernel_rfl) (by kernel_rfl)) (by kernel_rfl) (by kernel_rfl) (by kernel_rfl) (Go.Mg.door_met os _)) ?_
  intro W base args ds gs before hval0 hW _ _ hL _
  have hval : ∀ (j : Nat) t v, Tryz.f3.params[j]? = some t → args[j]? = some v → Value.okWide Tryz.prog W .any base t v := hval0
  have hW' := hW
  obtain ⟨p, q, hA0, hV, rfl, hfz, hnd⟩ := hW
  have hA : DataW.TrodAll enc Tryz.prog W 0 (fun _ => true) true Tryz.f3.params.toList args.toList ds p := hA0
  rw [Tryz.params3] at hA hval
  obtain ⟨v0, d0, rfl, rfl, h0⟩ := trodAll_one hA
  obtain ⟨rfl, rfl⟩ := trodVars_none hV
  obtain ⟨x, a0, a1, a2, m, T, rfl, hx, hm, hm2, g0, g1, g2, hT⟩ := Go.Tt.prog_open (hval 0 24 v0 rfl rfl) h0
  refine (walk hx hm hm2 g0 g1 g2 hT (Go.Mg.tabs_ok hL)).mono fun e W' ⟨he, hk⟩ => ?_
  subst he
  exact ⟨_, rfl, law_post laidOut (by kernel_rfl) Tryz.underlying4 rfl (by rw [Tryz.params3]; exact reads) rfl rfl rfl hW' hk⟩
theorem holds : Rows.TracesNestedSaid :=
  OpenClaim.holds_of_wide 3 Tryz.f3 rfl rfl rfl rfl rfl rfl rfl ⟨rfl, rfl, rfl, rfl, rfl⟩ rfl rfl rfl rfl rfl (by as_aux_lemma => kernel_rfl) Tryz.func3 Go.Mg.joined3
    (of_decide_eq_true (by as_aux_lemma => kernel_rfl)) (by unfold Func.isWrapper; first | (rw [if_pos (by decide +kernel)]; kernel_rfl) | (rw [if_neg (by decide +kernel)]; exact ⟨rfl, rfl⟩))
    (fun os started H enc _ => lifted os started H enc)
theorem proved : Rows.TracesNestedCardSaid :=
  Claim7.holds_tied_plain_at .later [] [.data, .data] true (true, "dc551535c70ee476743a44e06c2ecb6a3e8dc77a5ab67976e11bc1010ec543c5") false
    holds (fun _ h => by cases h) (by as_aux_lemma => kernel_rfl) (fun _ h => by cases h) tracesNested_row_tie rfl ⟨rfl, rfl⟩ (by as_aux_lemma => kernel_rfl) rfl
    (fun f fn hf hfn => by
      obtain rfl : f = 3 := Option.some.inj ((show Tryz.prog.funcNamed "polder/polderlaw32.TracesNested" = some 3 by as_aux_lemma => kernel_rfl).symm.trans hf) |>.symm
      obtain rfl : fn = Tryz.f3 := (Option.some.inj (Tryz.func3.symm.trans hfn)).symm
      exact ⟨by as_aux_lemma => kernel_rfl, fun j t ht => by
        rw [Tryz.params3] at ht
        have hm : t ∈ [24] := by simpa using Array.mem_of_getElem? ht
        have hall : ([24].all fun u => !Tryz.prog.wantsStandIn u) = true := by kernel_rfl
        exact (show Tryz.prog.wantsStandIn t = false by simpa using List.all_eq_true.1 hall t hm)⟩)
    Go.Mg.goesBy3
#print axioms proved
end Go.Proofs.YtdelhnefoccnbaaGreatDoor.tracesNested
