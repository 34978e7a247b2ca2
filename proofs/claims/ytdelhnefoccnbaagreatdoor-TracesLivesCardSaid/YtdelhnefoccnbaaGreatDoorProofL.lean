/-
  TracesLives returns true for each program and two texts, and they read as they did; the tied card. Conditions: none.
-/
import Derived.Test.YtdelhnefoccnbaaGreatDoorCards
import Derived.Test.YtdelhnefoccnbaaGreatDoorTie
import Derived.Test.YtdelhnefoccnbaaGreatDoorD3
import Derived.Test.YtdelhnefoccnbaaGreatDoorD4
import Derived.Test.YtdelhnefoccnbaaGreatDoorD6
import Derived.Test.YtdelhnefoccnbaaGreatDoorA5
import Derived.Lib.SmallJoins
import Derived.WalkKit
import Derived.ProofKit
import Derived.OpenShut
import Derived.ChangeMaps5
import Derived.SevenTiedAt
namespace Go.Proofs.YtdelhnefoccnbaaGreatDoor.tracesLives
open Go.ChangeMaps (open_string)
open Go.ChangeShapes Go.WideShapes Go.ChangeAt Go.RowKit Go.Joins Go.Deep Go.Sx
theorem own : ownKnob Tryz.prog.godebug = none := by kernel_rfl
theorem laidOut : laidOutB Tryz.prog = true := by kernel_rfl
theorem reads : ∀ t ∈ ([24, 9, 9] : List TypeId), Tryz.prog.readableRec t = true ∧ t < Tryz.prog.types.size := by
  intro t ht
  simp only [List.mem_cons, List.not_mem_nil, or_false] at ht
  rcases ht with rfl | rfl | rfl
  · exact ⟨by kernel_rfl, of_decide_eq_true (by kernel_rfl)⟩
  · exact ⟨by kernel_rfl, of_decide_eq_true (by kernel_rfl)⟩
  · exact ⟨by kernel_rfl, of_decide_eq_true (by kernel_rfl)⟩
theorem walk {W : World} {x : Value} {a0 a1 a2 m : Int} {T : Int → Nat → Int} {b1 b2 : ByteArray} (hx : RowsV W Go.Tt.stK x m T) (hm : 0 ≤ m) (hm2 : m ≤ 9223372036854775807) (h0 : Go.Tt.I64 a0) (h1 : Go.Tt.I64 a1) (h2 : Go.Tt.I64 a2) (hT : Go.Tt.TbR T m) (hG : GOk Go.Mg.gls { w0 := W, X := fun _ => False }) :
    Calls Tryz.prog 4 #[.agg #[.int .i64 a0, .int .i64 a1, .int .i64 a2, x], .string b1, .string b2] W fun e w' => e = .returned (.bool true) ∧ Kept W w' := by
  have pres : ∀ p ∈ Go.Tt.lawP, PE.den (Go.Tt.TI 0) [.i a0, .i a1, .i a2, .t T, .i m, .i (senc b1.data.toList), .i (senc b2.data.toList)] p := fun p hp => by
    simp only [Go.Tt.lawP, List.mem_cons, List.not_mem_nil, or_false] at hp
    rcases hp with rfl | rfl | rfl | rfl | rfl | rfl
    · exact ⟨_, rfl, by show (if (0 : Int) ≤ m then (1 : Int) else 0) ≠ 0; rw [if_pos hm]; decide⟩
    · exact ⟨m, rfl, by show IntKind.i64.min ≤ m ∧ m ≤ IntKind.i64.max; exact ⟨by have : IntKind.i64.min = -9223372036854775808 := rfl; omega, by have : IntKind.i64.max = 9223372036854775807 := rfl; omega⟩⟩
    · exact ⟨[.t T, .i m], rfl, hT⟩
    · exact ⟨a0, rfl, h0⟩
    · exact ⟨a1, rfl, h1⟩
    · exact ⟨a2, rfl, h2⟩
  cases hx with
  | none T =>
    obtain ⟨g, e1, e2, hM, _⟩ := gives_rel (W := W) (I := Go.Tt.TI 0) (P := Tryz.prog) [⟨Go.Tt.stK, .slice none 0 0, 0, T, 3, 4⟩] [.i a0, .i a1, .i a2, .t T, .i 0, .i (senc b1.data.toList), .i (senc b2.data.toList)] (by
      intro z hz
      simp only [List.mem_cons, List.not_mem_nil, or_false] at hz
      subst hz
      exact ⟨.none T, rfl, rfl⟩)
    obtain ⟨hmr, hX⟩ := hM Go.Tt.cLivN rfl
    have := Go.Tt.okLivN g W [.agg #[.int .i64 a0, .int .i64 a1, .int .i64 a2, .slice none 0 0], .string b1, .string b2] (by rw [e1]; exact trivial) e2 (fun z hz => let ⟨h1, _, h3⟩ := hG z hz; ⟨h1, hX _, h3⟩) hmr
      ⟨⟨_, rfl, ⟨a0, by rw [e1]; rfl, rfl⟩, ⟨a1, by rw [e1]; rfl, rfl⟩, ⟨a2, by rw [e1]; rfl, rfl⟩, rfl, trivial⟩, ⟨_, by rw [e1]; rfl, by rw [sdec_senc]⟩, ⟨_, by rw [e1]; rfl, by rw [sdec_senc]⟩, trivial⟩
      (fun p hp => by
        rw [e1]
        rcases List.mem_append.1 (show p ∈ Go.Tt.lawP ++ [Go.Mg.eLe (Go.Mg.v 4) Go.Tt.z0] from hp) with hp | hp
        · exact pres p hp
        · simp only [List.mem_cons, List.not_mem_nil, or_false] at hp
          subst hp
          exact ⟨_, rfl, by decide⟩)
    refine this.mono fun e w' he => ?_
    obtain ⟨v, outs, g', rfl, _, _, _, _, ⟨n, hn, rfl⟩, h6, _⟩ := he
    simp only [E.den, Option.some.injEq, D.i.injEq] at hn
    subst hn
    exact ⟨rfl, h6.same.1, h6.same.2, h6.size, fun i hi => h6.keep i hi (hX i)⟩
  | some b' off len cap c T' fr f hl hb hc =>
    obtain ⟨g, e1, e2, hM, hR⟩ := Go.Tt.gives_some (I := Go.Tt.TI 0) (P := Tryz.prog) hl hb (fun r j k hr hj => hc r j k hr hj) [.i a0, .i a1, .i a2, .t T, .i len, .i (senc b1.data.toList), .i (senc b2.data.toList)] 3 4 rfl rfl
    obtain ⟨hmr, hX⟩ := hM Go.Tt.cLivF rfl
    have := Go.Tt.okLivF g W [.agg #[.int .i64 a0, .int .i64 a1, .int .i64 a2, .slice (some ⟨b', off, none⟩) len cap], .string b1, .string b2] (by rw [e1]; exact trivial) e2 (fun z hz => let ⟨h1, _, h3⟩ := hG z hz; ⟨h1, hX _, h3⟩) hmr
      ⟨⟨_, rfl, ⟨a0, by rw [e1]; rfl, rfl⟩, ⟨a1, by rw [e1]; rfl, rfl⟩, ⟨a2, by rw [e1]; rfl, rfl⟩, hR, trivial⟩, ⟨_, by rw [e1]; rfl, by rw [sdec_senc]⟩, ⟨_, by rw [e1]; rfl, by rw [sdec_senc]⟩, trivial⟩
      (fun p hp => by rw [e1]; exact pres p hp)
    refine this.mono fun e w' he => ?_
    obtain ⟨v, outs, g', rfl, _, _, _, _, ⟨n, hn, rfl⟩, h6, _⟩ := he
    simp only [E.den, Option.some.injEq, D.i.injEq] at hn
    subst hn
    exact ⟨rfl, h6.same.1, h6.same.2, h6.size, fun i hi => h6.keep i hi (hX i)⟩
set_option maxRecDepth 100000 in
theorem lifted (os : Os) (started : os.Started) (H : Type) (enc : TypeId × Value → H) :
    ReturnsInHanded {} Tryz.checked os 4 .any (fun w args => (Rows.tracesLivesSpec.pre enc Tryz.prog Tryz.f4 [] false w args ∧ laidMetH Tryz.prog Go.Mg.laid2 w) ∧ sizedMet enc Tryz.prog Tryz.f4 (OpenSpec.ofChange Rows.tracesLivesSpec) false w args)
      (Rows.tracesLivesSpec.post enc Tryz.prog Tryz.f4 false true false false) := by
  refine returnsInHanded_of_change_and (C := Tryz.checked) (X := fun w _ => laidMetH Tryz.prog Go.Mg.laid2 w) (fun _ _ _ hh h => h.of_heap hh) own started (by kernel_rfl) Tryz.func4
    (ChangeSpec.witness_shaped (enc := enc) (C := Tryz.checked) (os := os) (X := fun w _ => laidMetH Tryz.prog Go.Mg.laid2 w) false (World.doorLaid Tryz.prog 19 os) #[.agg #[.int .i64 0, .int .i64 0, .int .i64 0, .slice none 0 0], .string ⟨#[]⟩, .string ⟨#[]⟩] 8 rfl (World.shaped_of_RefB (by kernel_rfl) (by kernel_rfl)) (by kernel_rfl) (by kernel_rfl) (by kernel_rfl) (Go.Mg.door_met os _)) ?_
  intro W base args ds gs before hval0 hW _ _ hL _
  have hval : ∀ (j : Nat) t v, Tryz.f4.params[j]? = some t → args[j]? = some v → Value.okWide Tryz.prog W .any base t v := hval0
  have hW' := hW
  obtain ⟨p, q, hA0, hV, rfl, hfz, hnd⟩ := hW
  have hA : DataW.TrodAll enc Tryz.prog W 0 (fun _ => true) true Tryz.f4.params.toList args.toList ds p := hA0
  rw [Tryz.params4] at hA hval
  obtain ⟨v0, v1, v2, d0, d1, d2, p0, p1, p2, rfl, rfl, rfl, h0, h1, h2⟩ := trodAll_three hA
  obtain ⟨rfl, rfl⟩ := trodVars_none hV
  obtain ⟨x, a0, a1, a2, m, T, rfl, hx, hm, hm2, g0, g1, g2, hT⟩ := Go.Tt.prog_open (hval 0 24 v0 rfl rfl) h0
  obtain ⟨b1, rfl, rfl, rfl, _⟩ := open_string Tryz.underlying9 (hval 1 9 v1 rfl rfl) h1
  obtain ⟨b2, rfl, rfl, rfl, _⟩ := open_string Tryz.underlying9 (hval 2 9 v2 rfl rfl) h2
  refine (walk hx hm hm2 g0 g1 g2 hT (Go.Mg.tabs_ok hL)).mono fun e W' ⟨he, hk⟩ => ?_
  subst he
  exact ⟨_, rfl, law_post laidOut (by kernel_rfl) Tryz.underlying4 rfl (by rw [Tryz.params4]; exact reads) rfl rfl rfl hW' hk⟩
theorem holds : Rows.TracesLivesSaid :=
  OpenClaim.holds_of_wide 4 Tryz.f4 rfl rfl rfl rfl rfl rfl rfl ⟨rfl, rfl, rfl, rfl, rfl⟩ rfl rfl rfl rfl rfl (by as_aux_lemma => kernel_rfl) Tryz.func4 Go.Mg.joined4
    (of_decide_eq_true (by as_aux_lemma => kernel_rfl)) (by unfold Func.isWrapper; first | (rw [if_pos (by decide +kernel)]; kernel_rfl) | (rw [if_neg (by decide +kernel)]; exact ⟨rfl, rfl⟩))
    (fun os started H enc _ => lifted os started H enc)
theorem proved : Rows.TracesLivesCardSaid :=
  Claim7.holds_tied_plain_at .later [] [.data, .data] true (true, "dc551535c70ee476743a44e06c2ecb6a3e8dc77a5ab67976e11bc1010ec543c5") false
    holds (fun _ h => by cases h) (by as_aux_lemma => kernel_rfl) (fun _ h => by cases h) tracesLives_row_tie rfl ⟨rfl, rfl⟩ (by as_aux_lemma => kernel_rfl) rfl
    (fun f fn hf hfn => by
      obtain rfl : f = 4 := Option.some.inj ((show Tryz.prog.funcNamed "polder/polderlaw32.TracesLives" = some 4 by as_aux_lemma => kernel_rfl).symm.trans hf) |>.symm
      obtain rfl : fn = Tryz.f4 := (Option.some.inj (Tryz.func4.symm.trans hfn)).symm
      exact ⟨by as_aux_lemma => kernel_rfl, fun j t ht => by
        rw [Tryz.params4] at ht
        have hm : t ∈ [24, 9, 9] := by simpa using Array.mem_of_getElem? ht
        have hall : ([24, 9, 9].all fun u => !Tryz.prog.wantsStandIn u) = true := by kernel_rfl
        exact (show Tryz.prog.wantsStandIn t = false by simpa using List.all_eq_true.1 hall t hm)⟩)
    Go.Mg.goesBy4
#print axioms proved
end Go.Proofs.YtdelhnefoccnbaaGreatDoor.tracesLives
