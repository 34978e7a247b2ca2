/-
  JournalDiffs returns true for each two logs, and they read as they did; the tied card. Conditions: none.
-/
import Derived.Test.YtoeacadacnnoeaaGreatDoorCards
import Derived.Test.YtoeacadacnnoeaaGreatDoorTie
import Derived.Test.YtoeacadacnnoeaaGreatDoorJnDfOk
import Derived.Test.YtoeacadacnnoeaaGreatDoorJnLog
import Derived.Test.YtoeacadacnnoeaaGreatDoorMgLaid
import Derived.Test.YtoeacadacnnoeaaGreatDoorJnJoin4
import Derived.SevenTiedAt
namespace Go.Proofs.YtoeacadacnnoeaaGreatDoor.journalDiffs
open Go.ChangeShapes Go.WideShapes Go.ChangeAt Go.RowKit Go.Joins Go.Deep Go.Sx Go.Jn

theorem own : ownKnob Tryz.prog.godebug = none := by kernel_rfl
theorem laidOut : laidOutB Tryz.prog = true := by kernel_rfl
theorem reads : ∀ t ∈ ([88, 88] : List TypeId), Tryz.prog.readableRec t = true ∧ t < Tryz.prog.types.size := by
  intro t ht
  simp only [List.mem_cons, List.not_mem_nil, or_false, or_self] at ht
  subst ht
  exact ⟨by kernel_rfl, of_decide_eq_true (by kernel_rfl)⟩

theorem walk {W : World} {x y : Value} {a0 a1 a2 m b0 b1 b2 k : Int} {A B : Int → Nat → Int} (hx : RowsV W k7 x m A) (hm : 0 ≤ m) (hy : RowsV W k7 y k B) (hk : 0 ≤ k) (hG : GOk Go.Mg.gls { w0 := W, X := fun _ => False }) :
    Calls Tryz.prog 4 #[.agg #[.int .i64 a0, .int .i64 a1, .int .i64 a2, x], .agg #[.int .i64 b0, .int .i64 b1, .int .i64 b2, y]] W fun e w' => e = .returned (.bool true) ∧ Kept W w' := by
  obtain ⟨g, e1, e2, hM, hR⟩ := gives_rel (W := W) (I := Idf) (P := Tryz.prog) [⟨k7, x, m, A, 3, 4⟩, ⟨k7, y, k, B, 8, 9⟩] [.i a0, .i a1, .i a2, .t A, .i m, .i b0, .i b1, .i b2, .t B, .i k] (by
    intro z hz
    simp only [List.mem_cons, List.not_mem_nil, or_false] at hz
    rcases hz with rfl | rfl
    · exact ⟨hx, rfl, rfl⟩
    · exact ⟨hy, rfl, rfl⟩)
  obtain ⟨hmr, hX⟩ := hM cDiffs rfl
  have := okDiffs g W [.agg #[.int .i64 a0, .int .i64 a1, .int .i64 a2, x], .agg #[.int .i64 b0, .int .i64 b1, .int .i64 b2, y]] (by rw [e1]; exact trivial) e2 (fun z hz => let ⟨h1, _, h3⟩ := hG z hz; ⟨h1, hX _, h3⟩) hmr
    ⟨⟨_, rfl, ⟨a0, by rw [e1]; rfl, rfl⟩, ⟨a1, by rw [e1]; rfl, rfl⟩, ⟨a2, by rw [e1]; rfl, rfl⟩, hR 0 _ rfl, trivial⟩, ⟨_, rfl, ⟨b0, by rw [e1]; rfl, rfl⟩, ⟨b1, by rw [e1]; rfl, rfl⟩, ⟨b2, by rw [e1]; rfl, rfl⟩, hR 1 _ rfl, trivial⟩, trivial⟩
    (fun p hp => by
      rw [e1]
      simp only [cDiffs, List.mem_cons, List.not_mem_nil, or_false] at hp
      rcases hp with rfl | rfl
      · exact ⟨_, rfl, by simp only [BO.ev]; rw [if_pos hm]; decide⟩
      · exact ⟨_, rfl, by simp only [BO.ev]; rw [if_pos hk]; decide⟩)
  refine this.mono fun e w' he => ?_
  obtain ⟨v, outs, g', rfl, _, _, _, _, ⟨n, hn, rfl⟩, h6, _⟩ := he
  simp only [E.den, Option.some.injEq, D.i.injEq] at hn
  subst hn
  exact ⟨rfl, h6.same.1, h6.same.2, h6.size, fun i hi => h6.keep i hi (hX i)⟩

set_option maxRecDepth 100000 in
theorem lifted (os : Os) (started : os.Started) (H : Type) (enc : TypeId × Value → H) :
    ReturnsInHanded {} Tryz.checked os 4 .any (fun w args => (Rows.journalDiffsSpec.pre enc Tryz.prog Tryz.f4 [] false w args ∧ laidMetH Tryz.prog Go.Mg.laid2 w) ∧ sizedMet enc Tryz.prog Tryz.f4 (OpenSpec.ofChange Rows.journalDiffsSpec) false w args)
      (Rows.journalDiffsSpec.post enc Tryz.prog Tryz.f4 false true false false) := by
  refine returnsInHanded_of_change_and (C := Tryz.checked) (X := fun w _ => laidMetH Tryz.prog Go.Mg.laid2 w) (fun _ _ _ hh h => h.of_heap hh) own started (by kernel_rfl) Tryz.func4
    (ChangeSpec.witness_shaped (enc := enc) (C := Tryz.checked) (os := os) (X := fun w _ => laidMetH Tryz.prog Go.Mg.laid2 w) false (World.doorLaid Tryz.prog 19 os) #[.agg #[.int .i64 0, .int .i64 0, .int .i64 0, .slice none 0 0], .agg #[.int .i64 0, .int .i64 0, .int .i64 0, .slice none 0 0]] 8 rfl (World.shaped_of_RefB (by kernel_rfl) (by kernel_rfl)) (by kernel_rfl) (by kernel_rfl) (by kernel_rfl) (Go.Mg.door_met os _)) ?_
  intro W base args ds gs before hval0 hW _ _ hL _
  have hval : ∀ (j : Nat) t v, Tryz.f4.params[j]? = some t → args[j]? = some v → Value.okWide Tryz.prog W .any base t v := hval0
  have hW' := hW
  obtain ⟨p, q, hA0, hV, rfl, hfz, hnd⟩ := hW
  have hA : DataW.TrodAll enc Tryz.prog W 0 (fun _ => true) true Tryz.f4.params.toList args.toList ds p := hA0
  rw [Tryz.params4] at hA hval
  obtain ⟨v0, v1, d0, d1, p0, p1, rfl, rfl, rfl, h0, h1⟩ := trodAll_two hA
  obtain ⟨rfl, rfl⟩ := trodVars_none hV
  obtain ⟨x, a0, a1, a2, m, A, rfl, hx, hm, _⟩ := log_open (hval 0 88 v0 rfl rfl) h0
  obtain ⟨y, b0, b1, b2, k, B, rfl, hy, hk, _⟩ := log_open (hval 1 88 v1 rfl rfl) h1
  refine (walk hx hm hy hk (Go.Mg.tabs_ok hL)).mono fun e W' ⟨he, hk⟩ => ?_
  subst he
  exact ⟨_, rfl, law_post laidOut (by kernel_rfl) Tryz.underlying4 rfl (by rw [Tryz.params4]; exact reads) rfl rfl rfl hW' hk⟩

theorem holds : Rows.JournalDiffsSaid :=
  OpenClaim.holds_of_wide 4 Tryz.f4 rfl rfl rfl rfl rfl rfl rfl ⟨rfl, rfl, rfl, rfl, rfl⟩ rfl rfl rfl rfl rfl (by as_aux_lemma => kernel_rfl) Tryz.func4 Go.Mg.joined4
    (of_decide_eq_true (by as_aux_lemma => kernel_rfl)) (by unfold Func.isWrapper; first | (rw [if_pos (by decide +kernel)]; kernel_rfl) | (rw [if_neg (by decide +kernel)]; exact ⟨rfl, rfl⟩))
    (fun os started H enc _ => lifted os started H enc)

/-- **The statement.** -/
theorem proved : Rows.JournalDiffsCardSaid :=
  Claim7.holds_tied_plain_at .later [] [.data, .data] true (true, "d907492b5b6e81a796dc237898b17cae18ac8c54b53fffe6e13dc50f6e663655") false
    holds (fun _ h => by cases h) (by as_aux_lemma => kernel_rfl) (fun _ h => by cases h) journalDiffs_row_tie rfl ⟨rfl, rfl⟩ (by as_aux_lemma => kernel_rfl) rfl
    (fun f fn hf hfn => by
      obtain rfl : f = 4 := Option.some.inj ((show Tryz.prog.funcNamed "polder/polderlaw27.JournalDiffs" = some 4 by as_aux_lemma => kernel_rfl).symm.trans hf) |>.symm
      obtain rfl : fn = Tryz.f4 := (Option.some.inj (Tryz.func4.symm.trans hfn)).symm
      exact ⟨by as_aux_lemma => kernel_rfl, fun j t ht => by
        rw [Tryz.params4] at ht
        have hm : t ∈ [88, 88] := by simpa using Array.mem_of_getElem? ht
        have hall : ([88, 88].all fun u => !Tryz.prog.wantsStandIn u) = true := by kernel_rfl
        exact (show Tryz.prog.wantsStandIn t = false by simpa using List.all_eq_true.1 hall t hm)⟩)
    Go.Mg.goesBy4
#print axioms proved
end Go.Proofs.YtoeacadacnnoeaaGreatDoor.journalDiffs
