/-
  JournalCodes returns true for each log, and it reads as it did; the tied card. Conditions: none.
-/
import Derived.Test.YtoeacadacnnoeaaGreatDoorCards
import Derived.Test.YtoeacadacnnoeaaGreatDoorTie
import Derived.Test.YtoeacadacnnoeaaGreatDoorJnOk3
import Derived.Test.YtoeacadacnnoeaaGreatDoorJnLog
import Derived.Test.YtoeacadacnnoeaaGreatDoorMgLaid
import Derived.Test.YtoeacadacnnoeaaGreatDoorJnJoin5
import Derived.SevenTiedAt
namespace Go.Proofs.YtoeacadacnnoeaaGreatDoor.journalCodes
open Go.ChangeShapes Go.WideShapes Go.ChangeAt Go.RowKit Go.Joins Go.Deep Go.Sx Go.Jn

theorem own : ownKnob Tryz.prog.godebug = none := by kernel_rfl
theorem laidOut : laidOutB Tryz.prog = true := by kernel_rfl
theorem reads : ∀ t ∈ ([88] : List TypeId), Tryz.prog.readableRec t = true ∧ t < Tryz.prog.types.size := by
  intro t ht
  simp only [List.mem_cons, List.not_mem_nil, or_false] at ht
  subst ht
  exact ⟨by kernel_rfl, of_decide_eq_true (by kernel_rfl)⟩
theorem walk1 {p : PE} (h : COk JI Tryz.prog Go.Mg.gls (cCodes p)) {W : World} {x : Value} {a0 a1 a2 m : Int} {A : Int → Nat → Int} (hx : RowsV W k7 x m A) (hm : 0 ≤ m)
    (r0 : -9223372036854775808 ≤ a0 ∧ a0 ≤ 9223372036854775807) (r1 : -9223372036854775808 ≤ a1 ∧ a1 ≤ 9223372036854775807) (r2 : -9223372036854775808 ≤ a2 ∧ a2 ≤ 9223372036854775807)
    (hr : ∀ r : Int, 0 ≤ r → r < m → ∀ j, j < 7 → -9223372036854775808 ≤ A r j ∧ A r j ≤ 9223372036854775807) (hp : p.den JI [.i a0, .i a1, .i a2, .t A, .i m])
    (hG : GOk Go.Mg.gls { w0 := W, X := fun _ => False }) :
    Calls Tryz.prog 5 #[.agg #[.int .i64 a0, .int .i64 a1, .int .i64 a2, x]] W fun e w' => e = .returned (.bool true) ∧ Kept W w' := by
  obtain ⟨g, e1, e2, hM, hR⟩ := gives_rel (W := W) (I := JI) (P := Tryz.prog) [⟨k7, x, m, A, 3, 4⟩] [.i a0, .i a1, .i a2, .t A, .i m] (by
    intro z hz
    simp only [List.mem_cons, List.not_mem_nil, or_false] at hz
    subst hz
    exact ⟨hx, rfl, rfl⟩)
  obtain ⟨hmr, hX⟩ := hM (cCodes p) rfl
  have := h g W [.agg #[.int .i64 a0, .int .i64 a1, .int .i64 a2, x]] (by rw [e1]; exact trivial) e2 (fun z hz => let ⟨h1, _, h3⟩ := hG z hz; ⟨h1, hX _, h3⟩) hmr
    ⟨⟨_, rfl, ⟨a0, by rw [e1]; rfl, rfl⟩, ⟨a1, by rw [e1]; rfl, rfl⟩, ⟨a2, by rw [e1]; rfl, rfl⟩, hR 0 _ rfl, trivial⟩, trivial⟩
    (fun q hq => by
      rw [e1]
      simp only [cCodes, List.mem_cons, List.not_mem_nil, or_false] at hq
      rcases hq with rfl | rfl | rfl | rfl | rfl | rfl
      · exact ⟨_, rfl, le_ne hm⟩
      · exact ⟨a0, rfl, r0⟩
      · exact ⟨a1, rfl, r1⟩
      · exact ⟨a2, rfl, r2⟩
      · exact ⟨[.t A, .i m], rfl, hr⟩
      · exact hp)
  refine this.mono fun e w' he => ?_
  obtain ⟨v, outs, g', rfl, _, _, _, _, ⟨n, hn, rfl⟩, h6, _⟩ := he
  simp only [E.den, Option.some.injEq, D.i.injEq] at hn
  subst hn
  exact ⟨rfl, h6.same.1, h6.same.2, h6.size, fun i hi => h6.keep i hi (hX i)⟩
theorem walk {W : World} {x : Value} {a0 a1 a2 m : Int} {A : Int → Nat → Int} (hx : RowsV W k7 x m A) (hm : 0 ≤ m)
    (r0 : -9223372036854775808 ≤ a0 ∧ a0 ≤ 9223372036854775807) (r1 : -9223372036854775808 ≤ a1 ∧ a1 ≤ 9223372036854775807) (r2 : -9223372036854775808 ≤ a2 ∧ a2 ≤ 9223372036854775807)
    (hr : ∀ r : Int, 0 ≤ r → r < m → ∀ j, j < 7 → -9223372036854775808 ≤ A r j ∧ A r j ≤ 9223372036854775807)
    (hG : GOk Go.Mg.gls { w0 := W, X := fun _ => False }) :
    Calls Tryz.prog 5 #[.agg #[.int .i64 a0, .int .i64 a1, .int .i64 a2, x]] W fun e w' => e = .returned (.bool true) ∧ Kept W w' := by
  by_cases hc : 501 ≤ m
  · exact walk1 okCodesLong hx hm r0 r1 r2 hr ⟨_, rfl, le_ne hc⟩ hG
  · exact walk1 okCodesOk hx hm r0 r1 r2 hr ⟨_, rfl, le_ne (show m ≤ 500 by omega)⟩ hG

set_option maxRecDepth 100000 in
theorem lifted (os : Os) (started : os.Started) (H : Type) (enc : TypeId × Value → H) :
    ReturnsInHanded {} Tryz.checked os 5 .any (fun w args => (Rows.journalCodesSpec.pre enc Tryz.prog Tryz.f5 [] false w args ∧ laidMetH Tryz.prog Go.Mg.laid2 w) ∧ sizedMet enc Tryz.prog Tryz.f5 (OpenSpec.ofChange Rows.journalCodesSpec) false w args)
      (Rows.journalCodesSpec.post enc Tryz.prog Tryz.f5 false true false false) := by
  refine returnsInHanded_of_change_and (C := Tryz.checked) (X := fun w _ => laidMetH Tryz.prog Go.Mg.laid2 w) (fun _ _ _ hh h => h.of_heap hh) own started (by kernel_rfl) Tryz.func5
    (ChangeSpec.witness_shaped (enc := enc) (C := Tryz.checked) (os := os) (X := fun w _ => laidMetH Tryz.prog Go.Mg.laid2 w) false (World.doorLaid Tryz.prog 19 os) #[.agg #[.int .i64 0, .int .i64 0, .int .i64 0, .slice none 0 0]] 8 rfl (World.shaped_of_RefB (by kernel_rfl) (by kernel_rfl)) (by kernel_rfl) (by kernel_rfl) (by kernel_rfl) (Go.Mg.door_met os _)) ?_
  intro W base args ds gs before hval0 hW _ _ hL _
  have hval : ∀ (j : Nat) t v, Tryz.f5.params[j]? = some t → args[j]? = some v → Value.okWide Tryz.prog W .any base t v := hval0
  have hW' := hW
  obtain ⟨p, q, hA0, hV, rfl, hfz, hnd⟩ := hW
  have hA : DataW.TrodAll enc Tryz.prog W 0 (fun _ => true) true Tryz.f5.params.toList args.toList ds p := hA0
  rw [Tryz.params5] at hA hval
  obtain ⟨v0, d0, rfl, rfl, h0⟩ := trodAll_one hA
  obtain ⟨rfl, rfl⟩ := trodVars_none hV
  obtain ⟨x, a0, a1, a2, m, A, rfl, hx, hm, r0, r1, r2, hr⟩ := log_open (hval 0 88 v0 rfl rfl) h0
  refine (walk hx hm r0 r1 r2 hr (Go.Mg.tabs_ok hL)).mono fun e W' ⟨he, hk⟩ => ?_
  subst he
  exact ⟨_, rfl, law_post laidOut (by kernel_rfl) Tryz.underlying4 rfl (by rw [Tryz.params5]; exact reads) rfl rfl rfl hW' hk⟩

theorem holds : Rows.JournalCodesSaid :=
  OpenClaim.holds_of_wide 5 Tryz.f5 rfl rfl rfl rfl rfl rfl rfl ⟨rfl, rfl, rfl, rfl, rfl⟩ rfl rfl rfl rfl rfl (by as_aux_lemma => kernel_rfl) Tryz.func5 Go.Mg.joined5
    (of_decide_eq_true (by as_aux_lemma => kernel_rfl)) (by unfold Func.isWrapper; first | (rw [if_pos (by decide +kernel)]; kernel_rfl) | (rw [if_neg (by decide +kernel)]; exact ⟨rfl, rfl⟩))
    (fun os started H enc _ => lifted os started H enc)

/-- **The statement.** -/
theorem proved : Rows.JournalCodesCardSaid :=
  Claim7.holds_tied_plain_at .later [] [.data, .data] true (true, "d907492b5b6e81a796dc237898b17cae18ac8c54b53fffe6e13dc50f6e663655") false
    holds (fun _ h => by cases h) (by as_aux_lemma => kernel_rfl) (fun _ h => by cases h) journalCodes_row_tie rfl ⟨rfl, rfl⟩ (by as_aux_lemma => kernel_rfl) rfl
    (fun f fn hf hfn => by
      obtain rfl : f = 5 := Option.some.inj ((show Tryz.prog.funcNamed "polder/polderlaw27.JournalCodes" = some 5 by as_aux_lemma => kernel_rfl).symm.trans hf) |>.symm
      obtain rfl : fn = Tryz.f5 := (Option.some.inj (Tryz.func5.symm.trans hfn)).symm
      exact ⟨by as_aux_lemma => kernel_rfl, fun j t ht => by
        rw [Tryz.params5] at ht
        have hm : t ∈ [88] := by simpa using Array.mem_of_getElem? ht
        have hall : ([88].all fun u => !Tryz.prog.wantsStandIn u) = true := by kernel_rfl
        exact (show Tryz.prog.wantsStandIn t = false by simpa using List.all_eq_true.1 hall t hm)⟩)
    Go.Mg.goesBy5
#print axioms proved
end Go.Proofs.YtoeacadacnnoeaaGreatDoor.journalCodes
