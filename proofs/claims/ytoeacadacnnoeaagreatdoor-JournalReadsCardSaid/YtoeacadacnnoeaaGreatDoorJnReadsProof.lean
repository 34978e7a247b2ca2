/-
  JournalReads returns true for each list of bytes and each entry, and they read as they did; the tied card. Conditions: none.
-/
import Derived.Test.YtoeacadacnnoeaaGreatDoorCards
import Derived.Test.YtoeacadacnnoeaaGreatDoorTie
import Derived.Test.YtoeacadacnnoeaaGreatDoorJnOk4
import Derived.Test.YtoeacadacnnoeaaGreatDoorJnLog
import Derived.Test.YtoeacadacnnoeaaGreatDoorMgLaid
import Derived.Test.YtoeacadacnnoeaaGreatDoorJnJoin8
import Derived.SevenTiedAt
namespace Go.Proofs.YtoeacadacnnoeaaGreatDoor.journalReads
open Go.ChangeShapes Go.WideShapes Go.ChangeAt Go.RowKit Go.Joins Go.Deep Go.Sx Go.Jn

theorem own : ownKnob Tryz.prog.godebug = none := by kernel_rfl
theorem laidOut : laidOutB Tryz.prog = true := by kernel_rfl
theorem reads : ∀ t ∈ ([92, 103] : List TypeId), Tryz.prog.readableRec t = true ∧ t < Tryz.prog.types.size := by
  intro t ht
  simp only [List.mem_cons, List.not_mem_nil, or_false] at ht
  rcases ht with rfl | rfl
  · exact ⟨by kernel_rfl, of_decide_eq_true (by kernel_rfl)⟩
  · exact ⟨by kernel_rfl, of_decide_eq_true (by kernel_rfl)⟩
theorem cells103 : Tryz.prog.cellsOf 103 = 7 := by kernel_rfl
def entV (q : Nat → Int) : Value := .agg #[.int .i64 (q 0), .int .i64 (q 1), .int .i64 (q 2), .int .i64 (q 3), .int .i64 (q 4), .int .i64 (q 5), .int .i64 (q 6)]
set_option maxRecDepth 100000 in
theorem entry_arg {H : Type} {enc : TypeId × Value → H} {W : World} {base : Nat} {r : Reach} {b0 : Nat} {v : Value} {d : DataW H} {p : List MemPlace} (hv : Value.okWide Tryz.prog W r b0 103 v) (h : DataW.Trod enc Tryz.prog W base (fun _ => true) true 103 v d p) :
    ∃ q : Nat → Int, v = entV q := by
  obtain ⟨cs, rfl, hsz⟩ := okWide_struct Tryz.underlying103 hv
  obtain ⟨fuel, hf⟩ := h
  obtain ⟨l⟩ := cs
  rw [cells103] at hsz
  obtain ⟨q, hq⟩ := entry_open (show l.length = 7 from hsz) hf
  obtain ⟨v0, v1, v2, v3, v4, v5, v6, rfl⟩ := list7 (show l.length = 7 from hsz)
  refine ⟨q, ?_⟩
  have e0 := (hq 0 (by decide)).1
  have e1 := (hq 1 (by decide)).1
  have e2 := (hq 2 (by decide)).1
  have e3 := (hq 3 (by decide)).1
  have e4 := (hq 4 (by decide)).1
  have e5 := (hq 5 (by decide)).1
  have e6 := (hq 6 (by decide)).1
  simp at e0 e1 e2 e3 e4 e5 e6
  rw [e0, e1, e2, e3, e4, e5, e6]
  rfl

/-- A list that is not empty is not nil. -/
theorem gives_one {W : World} {I : Itp} {P : Program} {ks : List CK} {v : Value} {n : Int} {T : Int → Nat → Int} (h : RowsV W ks v n T) (hn : 0 < n) (env : List D) (iT iN : Nat) (hT : env[iT]? = some (.t T)) (hN : env[iN]? = some (.i n)) :
    ∃ g : G, g.env = env ∧ g.nb = 1 ∧ (∀ c : Contract, c.mem = [(0, .rows ks (.var iT) (.var iN) false false)] → MRel (c.amb g W) I P g c.mem W ∧ ∀ i, ¬ (c.amb g W).X i) ∧ Rel I g (.slice 0 (.lit 0) (.var iN) ks.length false) v := by
  obtain ⟨g, e1, e2, hM, hR⟩ := gives_rel (W := W) (I := I) (P := P) [⟨ks, v, n, T, iT, iN⟩] env (by
    intro z hz
    simp only [List.mem_cons, List.not_mem_nil, or_false] at hz
    subst hz
    exact ⟨h, hT, hN⟩)
  refine ⟨g, e1, e2, fun c hc => ?_, ?_⟩
  · have hX : ∀ i, ¬ (c.amb g W).X i := by
      rintro i ⟨b, x, p, h1, h2, _⟩
      rw [hc] at h1
      simp only [Sx.get] at h1
      split at h1
      · cases h1; cases h2
      · cases h1
    refine ⟨?_, hX⟩
    obtain ⟨hm, _⟩ := hM { Go.Mg.c0 with mem := givesM 0 [⟨ks, v, n, T, iT, iN⟩] } rfl
    have hg : ∀ b x, Sx.get c.mem b = some x → b = 0 ∧ x = .rows ks (.var iT) (.var iN) false false := by
      intro b x hx
      rw [hc] at hx
      simp only [Sx.get] at hx
      split at hx
      · rename_i e; cases hx; exact ⟨e.symm, rfl⟩
      · cases hx
    refine ⟨hm.wf, fun b x hx => ?_, fun b x hx => ?_, fun b c' x y p q hx hy hw => ?_, hm.bnd, fun b x p hx hw => ?_, Nat.le_refl _, fun _ _ _ => rfl, rfl, rfl⟩
    · obtain ⟨rfl, rfl⟩ := hg b x hx
      obtain ⟨f, m, a1, a2, a3, a4⟩ := hm.blk 0 _ rfl
      refine ⟨f, m, a1, a2, a3, ?_⟩
      rcases a4 with ⟨p, c', T', fr, b1, b2, b3, _⟩ | ⟨_, b1, _⟩
      · exact .inl ⟨p, c', T', fr, b1, b2, b3, fun h => by cases h⟩
      · exfalso
        simp only [E.den, e1, hN, Option.some.injEq, D.i.injEq] at a2
        omega
    · obtain ⟨rfl, _⟩ := hg b x hx
      rw [e2]; exact Nat.zero_lt_one
    · obtain ⟨_, rfl⟩ := hg b x hx
      cases hw
    · obtain ⟨_, rfl⟩ := hg b x hx
      cases hw
  · obtain ⟨l, m, a1, a2, a3, a4, a5⟩ := hR 0 _ rfl
    refine ⟨l, m, a1, a2, a3, a4, ?_⟩
    rcases a5 with a5 | ⟨_, a5, _⟩
    · exact .inl a5
    · exfalso
      simp only [E.den, e1, hN, Option.some.injEq, D.i.injEq] at a2
      omega

theorem walk {W : World} {x : Value} {m : Int} {A : Int → Nat → Int} {q : Nat → Int} (hx : RowsV W u8K x m A) (hm : 0 ≤ m) (hb : ∀ r : Nat, (r : Int) < m → 0 ≤ A r 0 ∧ A r 0 ≤ 255) (hG : GOk Go.Mg.gls { w0 := W, X := fun _ => False }) :
    Calls Tryz.prog 8 #[x, entV q] W fun e w' => e = .returned (.bool true) ∧ Kept W w' := by
  have fin : ∀ {nl : Bool} {l : List PE}, COk JI Tryz.prog Go.Mg.gls (cReads nl l) → (∀ p ∈ l, p.den JI [.t A, .i m, .i (q 0), .i (q 1), .i (q 2), .i (q 3), .i (q 4), .i (q 5), .i (q 6)]) → (nl = false → 0 < m) →
      Calls Tryz.prog 8 #[x, entV q] W fun e w' => e = .returned (.bool true) ∧ Kept W w' := by
    intro nl l h hl hnl
    have hg : ∃ g : G, g.env = [.t A, .i m, .i (q 0), .i (q 1), .i (q 2), .i (q 3), .i (q 4), .i (q 5), .i (q 6)] ∧ g.nb = 1 ∧ (MRel ((cReads nl l).amb g W) JI Tryz.prog g (cReads nl l).mem W ∧ ∀ i, ¬ ((cReads nl l).amb g W).X i) ∧ Rel JI g (.slice 0 (.lit 0) (Go.Mg.v 1) 1 nl) x := by
      cases nl with
      | true =>
        obtain ⟨g, e1, e2, hM, hR⟩ := gives_rel (W := W) (I := JI) (P := Tryz.prog) [⟨u8K, x, m, A, 0, 1⟩] [.t A, .i m, .i (q 0), .i (q 1), .i (q 2), .i (q 3), .i (q 4), .i (q 5), .i (q 6)] (by
          intro z hz
          simp only [List.mem_cons, List.not_mem_nil, or_false] at hz
          subst hz
          exact ⟨hx, rfl, rfl⟩)
        exact ⟨g, e1, e2, hM (cReads true l) rfl, hR 0 _ rfl⟩
      | false =>
        obtain ⟨g, e1, e2, hM, hR⟩ := gives_one (I := JI) (P := Tryz.prog) hx (hnl rfl) [.t A, .i m, .i (q 0), .i (q 1), .i (q 2), .i (q 3), .i (q 4), .i (q 5), .i (q 6)] 0 1 rfl rfl
        exact ⟨g, e1, e2, hM (cReads false l) rfl, hR⟩
    obtain ⟨g, e1, e2, ⟨hmr, hX⟩, hR⟩ := hg
    have := h g W [x, entV q] (by rw [e1]; exact trivial) e2 (fun z hz => let ⟨h1, _, h3⟩ := hG z hz; ⟨h1, hX _, h3⟩) hmr
      ⟨hR, ⟨_, rfl, ⟨q 0, by rw [e1]; rfl, rfl⟩, ⟨q 1, by rw [e1]; rfl, rfl⟩, ⟨q 2, by rw [e1]; rfl, rfl⟩, ⟨q 3, by rw [e1]; rfl, rfl⟩, ⟨q 4, by rw [e1]; rfl, rfl⟩, ⟨q 5, by rw [e1]; rfl, rfl⟩, ⟨q 6, by rw [e1]; rfl, rfl⟩, trivial⟩, trivial⟩
      (fun p hp => by
        rw [e1]
        simp only [cReads, List.cons_append, List.nil_append, List.mem_cons] at hp
        rcases hp with rfl | rfl | hp
        · exact ⟨_, rfl, le_ne hm⟩
        · exact ⟨A, m, rfl, rfl, hb⟩
        · exact hl p hp)
    refine this.mono fun e w' he => ?_
    obtain ⟨v, outs, g', rfl, _, _, _, _, ⟨n, hn, rfl⟩, h6, _⟩ := he
    simp only [E.den, Option.some.injEq, D.i.injEq] at hn
    subst hn
    exact ⟨rfl, h6.same.1, h6.same.2, h6.size, fun i hi => h6.keep i hi (hX i)⟩
  by_cases hl : 30037 ≤ m
  · exact fin okReadsL (fun p hp => by
      simp only [List.mem_cons, List.not_mem_nil, or_false] at hp
      subst hp
      exact ⟨_, rfl, le_ne hl⟩) (fun h => by cases h)
  · by_cases hh : HeadOk A m.toNat
    · exact fin okReadsE (fun p hp => by
        simp only [List.mem_cons, List.not_mem_nil, or_false] at hp
        rcases hp with rfl | rfl
        · exact ⟨_, rfl, le_ne (show m ≤ 30036 by omega)⟩
        · exact ⟨[.t A, .i m], rfl, hh⟩) (fun _ => by have := hh.1; omega)
    · exact fin okReadsB (fun p hp => by
        simp only [List.mem_cons, List.not_mem_nil, or_false] at hp
        rcases hp with rfl | rfl
        · exact ⟨_, rfl, le_ne (show m ≤ 30036 by omega)⟩
        · exact ⟨[.t A, .i m], rfl, hh⟩) (fun h => by cases h)

set_option maxRecDepth 100000 in
theorem lifted (os : Os) (started : os.Started) (H : Type) (enc : TypeId × Value → H) :
    ReturnsInHanded {} Tryz.checked os 8 .any (fun w args => (Rows.journalReadsSpec.pre enc Tryz.prog Tryz.f8 [] false w args ∧ laidMetH Tryz.prog Go.Mg.laid2 w) ∧ sizedMet enc Tryz.prog Tryz.f8 (OpenSpec.ofChange Rows.journalReadsSpec) false w args)
      (Rows.journalReadsSpec.post enc Tryz.prog Tryz.f8 false true false false) := by
  refine returnsInHanded_of_change_and (C := Tryz.checked) (X := fun w _ => laidMetH Tryz.prog Go.Mg.laid2 w) (fun _ _ _ hh h => h.of_heap hh) own started (by kernel_rfl) Tryz.func8
    (ChangeSpec.witness_shaped (enc := enc) (C := Tryz.checked) (os := os) (X := fun w _ => laidMetH Tryz.prog Go.Mg.laid2 w) false (World.doorLaid Tryz.prog 19 os) #[.slice none 0 0, .agg #[.int .i64 0, .int .i64 0, .int .i64 0, .int .i64 0, .int .i64 0, .int .i64 0, .int .i64 0]] 8 rfl (World.shaped_of_RefB (by kernel_rfl) (by kernel_rfl)) (by kernel_rfl) (by kernel_rfl) (by kernel_rfl) (Go.Mg.door_met os _)) ?_
  intro W base args ds gs before hval0 hW _ _ hL _
  have hval : ∀ (j : Nat) t v, Tryz.f8.params[j]? = some t → args[j]? = some v → Value.okWide Tryz.prog W .any base t v := hval0
  have hW' := hW
  obtain ⟨p, q, hA0, hV, rfl, hfz, hnd⟩ := hW
  have hA : DataW.TrodAll enc Tryz.prog W 0 (fun _ => true) true Tryz.f8.params.toList args.toList ds p := hA0
  rw [Tryz.params8] at hA hval
  obtain ⟨v0, v1, d0, d1, p0, p1, rfl, rfl, rfl, h0, h1⟩ := trodAll_two hA
  obtain ⟨rfl, rfl⟩ := trodVars_none hV
  obtain ⟨m, A, hx, hm, hb⟩ := bytes_open (hval 0 92 v0 rfl rfl) h0
  obtain ⟨q, rfl⟩ := entry_arg (hval 1 103 v1 rfl rfl) h1
  refine (walk hx hm hb (Go.Mg.tabs_ok hL)).mono fun e W' ⟨he, hk⟩ => ?_
  subst he
  exact ⟨_, rfl, law_post laidOut (by kernel_rfl) Tryz.underlying4 rfl (by rw [Tryz.params8]; exact reads) rfl rfl rfl hW' hk⟩

theorem holds : Rows.JournalReadsSaid :=
  OpenClaim.holds_of_wide 8 Tryz.f8 rfl rfl rfl rfl rfl rfl rfl ⟨rfl, rfl, rfl, rfl, rfl⟩ rfl rfl rfl rfl rfl (by as_aux_lemma => kernel_rfl) Tryz.func8 Go.Mg.joined8
    (of_decide_eq_true (by as_aux_lemma => kernel_rfl)) (by unfold Func.isWrapper; first | (rw [if_pos (by decide +kernel)]; kernel_rfl) | (rw [if_neg (by decide +kernel)]; exact ⟨rfl, rfl⟩))
    (fun os started H enc _ => lifted os started H enc)

/-- **The statement.** -/
theorem proved : Rows.JournalReadsCardSaid :=
  Claim7.holds_tied_plain_at .later [] [.data, .data] true (true, "d907492b5b6e81a796dc237898b17cae18ac8c54b53fffe6e13dc50f6e663655") false
    holds (fun _ h => by cases h) (by as_aux_lemma => kernel_rfl) (fun _ h => by cases h) journalReads_row_tie rfl ⟨rfl, rfl⟩ (by as_aux_lemma => kernel_rfl) rfl
    (fun f fn hf hfn => by
      obtain rfl : f = 8 := Option.some.inj ((show Tryz.prog.funcNamed "polder/polderlaw27.JournalReads" = some 8 by as_aux_lemma => kernel_rfl).symm.trans hf) |>.symm
      obtain rfl : fn = Tryz.f8 := (Option.some.inj (Tryz.func8.symm.trans hfn)).symm
      exact ⟨by as_aux_lemma => kernel_rfl, fun j t ht => by
        rw [Tryz.params8] at ht
        have hm : t ∈ [92, 103] := by simpa using Array.mem_of_getElem? ht
        have hall : ([92, 103].all fun u => !Tryz.prog.wantsStandIn u) = true := by kernel_rfl
        exact (show Tryz.prog.wantsStandIn t = false by simpa using List.all_eq_true.1 hall t hm)⟩)
    Go.Mg.goesBy8
#print axioms proved
end Go.Proofs.YtoeacadacnnoeaaGreatDoor.journalReads
