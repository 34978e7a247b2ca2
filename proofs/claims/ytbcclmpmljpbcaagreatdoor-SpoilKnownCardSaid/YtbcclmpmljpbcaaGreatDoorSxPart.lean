/-
  Parts of slices, of arrays, of aggregates; values with a table in them. Conditions: none.
-/
import Derived.Test.YtbcclmpmljpbcaaGreatDoorSxEq
noncomputable section
namespace Go.Sx
open Go

variable {A : Amb} {I : Itp} {P : Program} {g : G} {X : Nat → Prop} {ts : Tmps} {a : Act} {M : Mem} {w : World}

theorem setL_length {α : Type} : ∀ (vs : List α) (l : List α) (i : Nat), (setL l i vs).length = l.length
  | [], l, i => rfl
  | v :: vs, l, i => by simp [setL, setL_length vs]

theorem le_den {a b : E} {x y : Int} (ha : a.den I g.env = some (.i x)) (hb : b.den I g.env = some (.i y)) (h : (PE.tt (mkBin .le a b)).den I g.env) : x ≤ y := by
  obtain ⟨n, h1, h2⟩ := h
  rw [den_mkBin ha hb] at h1
  simp at h1
  by_cases hc : x ≤ y
  · exact hc
  · simp [BO.ev, hc] at h1; omega

/-! ### Bounds of a part -/

/-- An operand's value, where it is a constant. -/
def OptLit (v : Option Value) : Option Int → Prop
  | none => v = none
  | some n => ∃ k, v = some (.int k n)
theorem litOp_rel (ht : TRel I g X ts a.tmps) {o : Option Operand} {n : Option Int} (h : litOp ts o = some n) (hx : ∀ t, o = some (.tmp t) → ¬ X t) : OptLit (o.map a.eval) n := by
  cases o with
  | none => simp [litOp] at h; subst h; rfl
  | some y =>
    simp only [litOp] at h
    split at h
    · rename_i k m he
      simp at h; subst h
      obtain ⟨m', h1, h2⟩ := evalOp_rel ht he fun t e => hx t (by rw [e])
      simp [E.den] at h1
      subst h1
      exact ⟨k, by simp [h2]⟩
    · cases h

theorem run_bound {k : IntKind} {n : Int} {y : Nat} {code : BoundsCode} (h0 : 0 ≤ n) (h1 : n ≤ y) : (Instr.sliceBound (.int k n) y code).run P w = .ok n.toNat w := by
  simp [Instr.sliceBound, asIntOf, h0, h1]

/-- The bounds, all of them in order. -/
theorem run_bounds {b : Bool} {len cap : Nat} {lo hi mx : Option Value} {a h m : Option Int} (ha : OptLit lo a) (hh : OptLit hi h) (hm : OptLit mx m) (hmh : m ≠ none → h ≠ none)
    (h0 : 0 ≤ a.getD 0) (h1 : a.getD 0 ≤ h.getD len) (h2 : h.getD len ≤ m.getD cap) (h3 : m.getD cap ≤ cap) :
    (Instr.sliceBounds b len cap lo hi mx).run P w = .ok ((a.getD 0).toNat, (h.getD len).toNat, (m.getD cap).toNat) w := by
  unfold Instr.sliceBounds
  cases m with
  | none =>
    simp only [OptLit] at hm; subst hm
    simp only [Option.getD_none] at h2 h3 ⊢
    cases h with
    | none =>
      simp only [OptLit] at hh; subst hh
      simp only [Option.getD_none] at h1 h2 ⊢
      cases a with
      | none => simp only [OptLit] at ha; subst ha; simp
      | some n =>
        obtain ⟨k, rfl⟩ := ha
        simp only [Option.getD_some] at h0 h1 ⊢
        simp [Result.andThen, run_bound h0 h1]
    | some n' =>
      obtain ⟨k', rfl⟩ := hh
      simp only [Option.getD_some] at h1 h2 ⊢
      cases a with
      | none =>
        simp only [OptLit] at ha; subst ha
        simp only [Option.getD_none] at h0 h1 ⊢
        simp [Result.andThen, run_bound (y := cap) h1 h2]
      | some n =>
        obtain ⟨k, rfl⟩ := ha
        simp only [Option.getD_some] at h0 h1 ⊢
        have h4 : n ≤ (n'.toNat : Int) := by omega
        simp [Sem.run_bind, Result.andThen, run_bound (y := cap) (show 0 ≤ n' by omega) h2, run_bound h0 h4]
  | some m' =>
    obtain ⟨km, rfl⟩ := hm
    simp only [Option.getD_some] at h2 h3 ⊢
    cases h with
    | none => exact absurd rfl (hmh (by simp))
    | some n' =>
      obtain ⟨k', rfl⟩ := hh
      simp only [Option.getD_some] at h1 h2 ⊢
      cases a with
      | none =>
        simp only [OptLit] at ha; subst ha
        simp only [Option.getD_none] at h0 h1 ⊢
        have h5 : n' ≤ (m'.toNat : Int) := by omega
        simp [Sem.run_bind, Result.andThen, run_bound (y := cap) (show 0 ≤ m' by omega) h3, run_bound h1 h5]
      | some n =>
        obtain ⟨k, rfl⟩ := ha
        simp only [Option.getD_some] at h0 h1 ⊢
        have h4 : n ≤ (n'.toNat : Int) := by omega
        have h5 : n' ≤ (m'.toNat : Int) := by omega
        simp [Sem.run_bind, Result.andThen, run_bound (y := cap) (show 0 ≤ m' by omega) h3, run_bound (show 0 ≤ n' by omega) h5, run_bound h0 h4]

/-- A part of a slice, by its bounds. -/
theorem run_slice {t el : TypeId} {sz : Nat} (hu : P.underlying t = some (.slice el)) (hs : tySize P el = some sz) {ad : Option Addr} {len cap : Nat} {lo hi mx : Option Value} {a h m : Option Int}
    (ha : OptLit lo a) (hh : OptLit hi h) (hm : OptLit mx m) (hmh : m ≠ none → h ≠ none) (h0 : 0 ≤ a.getD 0) (h1 : a.getD 0 ≤ h.getD len) (h2 : h.getD len ≤ m.getD cap) (h3 : m.getD cap ≤ cap) :
    (Instr.sliceAt t (.slice ad len cap) lo hi mx).run P w = .ok (.slice (if (m.getD cap).toNat = (a.getD 0).toNat then ad else ad.map (·.add ((a.getD 0).toNat * sz)))
      ((h.getD len).toNat - (a.getD 0).toNat) ((m.getD cap).toNat - (a.getD 0).toNat)) w := by
  simp only [Instr.sliceAt, Instr.slice, Sem.run_bind, run_underlying hu, Result.andThen, run_bounds ha hh hm hmh h0 h1 h2 h3, run_tySize hs, Sem.run_pure]

theorem sliceAV_run {t el : TypeId} (hu : P.underlying t = some (.slice el)) {x v : AV} {y : Value} {lo hi mx : Option Value} {ca ch cm : Option Int} {ps : List PE} (hr : Rel I g x y)
    (ha : OptLit lo ca) (hh : OptLit hi ch) (hm : OptLit mx cm) (h : sliceAV P el x ca ch cm = some (v, ps)) (hp : ∀ q ∈ ps, q.den I g.env) :
    ∃ z, (Instr.sliceAt t y lo hi mx).run P w = .ok z w ∧ Rel I g v z := by
  unfold sliceAV at h
  cases hs : tySize P el with
  | none => simp [hs] at h
  | some sz =>
  rw [hs] at h
  dsimp only at h
  cases x with
  | slice b l len s nl =>
    dsimp only at h
    split at h
    · cases h
    rename_i hsz
    have hsz : s = sz := Decidable.not_not.1 hsz
    subst hsz
    have hr0 := hr
    obtain ⟨l', n, hl, hn, hl0, hn0, hcase⟩ := hr
    -- what comes out
    have real : ∀ {p : PB} {cap : Nat} {a : Int}, g.φ b = some p → y = .slice (some ⟨p.blk, p.base + l'.toNat * s, none⟩) n.toNat cap → (0 ≤ a) →
        (some (⟨p.blk, p.base + l'.toNat * s, none⟩ : Addr)).map (·.add (a.toNat * s)) = some ⟨p.blk, p.base + (l' + a).toNat * s, none⟩ := fun {p cap a} _ _ h0 => by
      simp only [Option.map_some, addr_add]
      rw [show (l' + a).toNat = l'.toNat + a.toNat by omega, Nat.add_mul, Nat.add_assoc]
    split at h
    · -- no bound above
      split at h
      · rename_i n'
        have e : n = n' := by simp [E.den] at hn; exact hn.symm
        subst e
        split at h
        · rename_i hb
          split at h
          · rename_i h0
            simp at h; obtain ⟨rfl, rfl⟩ := h
            rcases hcase with ⟨p, cap, h5, rfl, h6, h7⟩ | ⟨h5, h6, ad, rfl⟩
            · refine ⟨_, run_slice hu hs ha hh hm (by simp) hb.1 (by simp; omega) (by simp; omega) (by simp), ?_⟩
              rw [h0]
              simp only [Option.getD_none, Int.toNat_zero, Nat.sub_zero, Int.toNat_natCast, Nat.zero_mul]
              have e : (if cap = 0 then some (⟨p.blk, p.base + l'.toNat * s, none⟩ : Addr) else (some (⟨p.blk, p.base + l'.toNat * s, none⟩ : Addr)).map (·.add 0)) = some ⟨p.blk, p.base + l'.toNat * s, none⟩ := by
                simp [Addr.add]
              rw [e]; exact hr0
            · refine ⟨_, run_slice hu hs ha hh hm (by simp) hb.1 (by simp; omega) (by simp) (by simp), ?_⟩
              rw [h0]
              simpa [Addr.add] using hr0
          · rename_i h0
            split at h
            · rename_i h1
              split at h
              · cases h
              rename_i hnl
              simp at h; obtain ⟨rfl, rfl⟩ := h
              rcases hcase with ⟨p, cap, h5, rfl, h6, h7⟩ | ⟨h5, _⟩
              · refine ⟨_, run_slice hu hs ha hh hm (by simp) hb.1 (by simp; omega) (by simp; omega) (by simp), ?_⟩
                simp only [Option.getD_none, Int.toNat_natCast, h1, Nat.sub_self]
                by_cases hc : cap = n.toNat
                · rw [if_pos hc]; exact ⟨_, _, rfl⟩
                · rw [if_neg hc]; exact ⟨_, _, rfl⟩
              · exact absurd h5 hnl
            · rename_i h1
              simp at h; obtain ⟨rfl, rfl⟩ := h
              rcases hcase with ⟨p, cap, h5, hy, h6, h7⟩ | ⟨h5, h6, ad, rfl⟩
              · subst hy
                refine ⟨_, run_slice hu hs ha hh hm (by simp) hb.1 (by simp; omega) (by simp; omega) (by simp), ?_⟩
                simp only [Option.getD_none, Int.toNat_natCast]
                rw [if_neg (by omega), real h5 rfl hb.1]
                exact ⟨l' + ca.getD 0, n - ca.getD 0, den_mkAdd hl rfl, rfl, by omega, by omega, .inl ⟨p, cap - (ca.getD 0).toNat, h5, by congr 1; omega, by omega, Nat.le_trans (Nat.mul_le_mul_right _ (by omega)) h7⟩⟩
              · omega
        · cases h
      · split at h
        · rename_i h0
          simp at h; obtain ⟨rfl, rfl⟩ := h
          rcases hcase with ⟨p, cap, h5, rfl, h6, h7⟩ | ⟨h5, h6, ad, rfl⟩
          · refine ⟨_, run_slice hu hs ha hh hm (by simp) (by omega) (by simp; omega) (by simp; omega) (by simp), ?_⟩
            rw [h0]
            simp only [Option.getD_none, Int.toNat_zero, Nat.sub_zero, Int.toNat_natCast, Nat.zero_mul]
            have e : (if cap = 0 then some (⟨p.blk, p.base + l'.toNat * s, none⟩ : Addr) else (some (⟨p.blk, p.base + l'.toNat * s, none⟩ : Addr)).map (·.add 0)) = some ⟨p.blk, p.base + l'.toNat * s, none⟩ := by
              simp [Addr.add]
            rw [e]; exact hr0
          · refine ⟨_, run_slice hu hs ha hh hm (by simp) (by omega) (by simp; omega) (by simp) (by simp), ?_⟩
            rw [h0]
            simpa [Addr.add] using hr0
        · cases h
    · rename_i ub
      split at h
      · rename_i hb
        split at h
        · rename_i h1
          split at h
          · cases h
          rename_i hnl
          simp at h; obtain ⟨rfl, rfl⟩ := h
          have hle := le_den (show (E.lit ub).den I g.env = some (.i ub) from rfl) hn (hp _ (by simp))
          rcases hcase with ⟨p, cap, h5, rfl, h6, h7⟩ | ⟨h5, _⟩
          · refine ⟨_, run_slice hu hs ha hh hm (by simp) hb.1 (by simp; omega) (by simp; omega) (by simp), ?_⟩
            simp only [Option.getD_none, Option.getD_some, Int.toNat_natCast, h1.1, Nat.sub_self]
            by_cases hc : cap = ub.toNat
            · rw [if_pos hc]; exact ⟨_, _, rfl⟩
            · rw [if_neg hc]; exact ⟨_, _, rfl⟩
          · exact absurd h5 hnl
        · rename_i h1
          simp at h; obtain ⟨rfl, rfl⟩ := h
          have hle := le_den (show (E.lit ub).den I g.env = some (.i ub) from rfl) hn (hp _ (by simp))
          rcases hcase with ⟨p, cap, h5, hy, h6, h7⟩ | ⟨h5, h6, ad, rfl⟩
          · subst hy
            refine ⟨_, run_slice hu hs ha hh hm (by simp) hb.1 (by simp; omega) (by simp; omega) (by simp), ?_⟩
            simp only [Option.getD_none, Option.getD_some, Int.toNat_natCast]
            have e : (if cap = (ca.getD 0).toNat then some (⟨p.blk, p.base + l'.toNat * s, none⟩ : Addr) else (some (⟨p.blk, p.base + l'.toNat * s, none⟩ : Addr)).map (·.add ((ca.getD 0).toNat * s))) =
                some ⟨p.blk, p.base + (l' + ca.getD 0).toNat * s, none⟩ := by
              by_cases hc : cap = (ca.getD 0).toNat
              · have h0 : ca.getD 0 = 0 := by
                  by_cases h0 : ca.getD 0 = 0
                  · exact h0
                  · exact absurd ⟨by omega, h0⟩ h1
                rw [if_pos hc, h0, Int.add_zero]
              · rw [if_neg hc]; exact real h5 rfl hb.1
            rw [e]
            exact ⟨l' + ca.getD 0, ub - ca.getD 0, den_mkAdd hl rfl, rfl, by omega, by omega, .inl ⟨p, cap - (ca.getD 0).toNat, h5, by congr 1; omega, by omega, Nat.le_trans (Nat.mul_le_mul_right _ (by omega)) h7⟩⟩
          · have hub : ub = 0 := by omega
            have hca : ca.getD 0 = 0 := by omega
            refine ⟨_, run_slice hu hs ha hh hm (by simp) hb.1 (by simp; omega) (by simp; omega) (by simp), ?_⟩
            rw [hca, hub]
            refine ⟨l' + 0, 0 - 0, den_mkAdd hl rfl, rfl, by omega, by omega, .inr ⟨h5, rfl, ad, ?_⟩⟩
            simp
      · cases h
    · rename_i ub um
      split at h
      · rename_i hb
        split at h
        · rename_i h1
          split at h
          · split at h
            · rename_i h0
              simp at h; obtain ⟨rfl, rfl⟩ := h
              have hle := le_den (show (E.lit um).den I g.env = some (.i um) from rfl) hn (hp _ (by simp))
              rcases hcase with ⟨p, cap, h5, rfl, h6, h7⟩ | ⟨h5, h6, ad, rfl⟩
              · refine ⟨_, run_slice hu hs ha hh hm (by simp) hb.1 (by simp; omega) (by simp; omega) (by simp; omega), ?_⟩
                simp only [Option.getD_some]
                rw [if_pos (by rw [h1]), h1, show ub = ca.getD 0 by omega]
                simp only [Nat.sub_self]
                exact ⟨_, rfl⟩
              · refine ⟨_, run_slice hu hs ha hh hm (by simp) hb.1 (by simp; omega) (by simp; omega) (by simp; omega), ?_⟩
                simp only [Option.getD_some]
                rw [if_pos (by rw [h1]), h1, show ub = ca.getD 0 by omega]
                simp only [Nat.sub_self]
                exact ⟨_, rfl⟩
            · cases h
          rename_i hnl
          simp at h; obtain ⟨rfl, rfl⟩ := h
          have hle := le_den (show (E.lit um).den I g.env = some (.i um) from rfl) hn (hp _ (by simp))
          rcases hcase with ⟨p, cap, h5, rfl, h6, h7⟩ | ⟨h5, _⟩
          · refine ⟨_, run_slice hu hs ha hh hm (by simp) hb.1 (by simp; omega) (by simp; omega) (by simp; omega), ?_⟩
            simp only [Option.getD_some]
            rw [if_pos (by rw [h1]), h1, show ub = ca.getD 0 by omega]
            simp only [Nat.sub_self]
            exact ⟨_, rfl⟩
          · exact absurd h5 hnl
        · rename_i h1
          split at h
          · rename_i h2
            split at h
            · cases h
            rename_i hnl
            simp at h; obtain ⟨rfl, rfl⟩ := h
            have hle := le_den (show (E.lit um).den I g.env = some (.i um) from rfl) hn (hp _ (by simp))
            rcases hcase with ⟨p, cap, h5, rfl, h6, h7⟩ | ⟨h5, _⟩
            · refine ⟨_, run_slice hu hs ha hh hm (by simp) hb.1 (by simp; omega) (by simp; omega) (by simp; omega), ?_⟩
              simp only [Option.getD_some]
              rw [if_neg (by omega), ← h2.1]
              simp only [Nat.sub_self]
              exact ⟨_, _, rfl⟩
            · exact absurd h5 hnl
          · rename_i h2
            simp at h; obtain ⟨rfl, rfl⟩ := h
            have hle := le_den (show (E.lit um).den I g.env = some (.i um) from rfl) hn (hp _ (by simp))
            rcases hcase with ⟨p, cap, h5, hy, h6, h7⟩ | ⟨h5, h6, ad, rfl⟩
            · subst hy
              refine ⟨_, run_slice hu hs ha hh hm (by simp) hb.1 (by simp; omega) (by simp; omega) (by simp; omega), ?_⟩
              simp only [Option.getD_some]
              rw [if_neg (by omega), real h5 rfl hb.1]
              exact ⟨l' + ca.getD 0, ub - ca.getD 0, den_mkAdd hl rfl, rfl, by omega, by omega, .inl ⟨p, um.toNat - (ca.getD 0).toNat, h5, by congr 1; omega, by omega, Nat.le_trans (Nat.mul_le_mul_right _ (by omega)) h7⟩⟩
            · omega
      · cases h
    · cases h
  | nilslice =>
    dsimp only at h
    split at h
    · rename_i hc
      simp at h; obtain ⟨rfl, rfl⟩ := h
      simp only [Rel] at hr; subst hr
      obtain ⟨h1, h2, h3, h4⟩ := hc
      have hhd : ch.getD ((0 : Nat) : Int) = 0 := by simpa using h2
      have hmd : cm.getD ((0 : Nat) : Int) = 0 := by simpa using h3
      have hmh : cm ≠ none → ch ≠ none := fun hc e => by
        subst e
        cases cm with
        | none => exact hc rfl
        | some _ => simp at h4
      refine ⟨_, run_slice hu hs ha hh hm hmh (by omega) (by omega) (by omega) (by omega), ?_⟩
      rw [h1, hhd, hmd]
      simp [Rel]
    · cases h
  | cap0 =>
    dsimp only at h
    split at h
    · rename_i hc
      simp at h; obtain ⟨rfl, rfl⟩ := h
      obtain ⟨ad, rfl⟩ := hr
      obtain ⟨h1, h2, h3, h4⟩ := hc
      have hhd : ch.getD ((0 : Nat) : Int) = 0 := by simpa using h2
      have hmd : cm.getD ((0 : Nat) : Int) = 0 := by simpa using h3
      have hmh : cm ≠ none → ch ≠ none := fun hc e => by
        subst e
        cases cm with
        | none => exact hc rfl
        | some _ => simp at h4
      refine ⟨_, run_slice hu hs ha hh hm hmh (by omega) (by omega) (by omega) (by omega), ?_⟩
      rw [h1, hhd, hmd]
      exact ⟨ad, by simp⟩
    · cases h
  | empty =>
    dsimp only at h
    obtain ⟨ad, cap, rfl⟩ := hr
    split at h
    · rename_i hc
      simp at h; obtain ⟨rfl, rfl⟩ := h
      obtain ⟨h1, rfl, rfl⟩ := hc
      refine ⟨_, run_slice hu hs ha hh hm (by simp) (by omega) (by simp; omega) (by simp) (by simp), ?_⟩
      rw [h1]
      exact ⟨ad, by simp⟩
    · split at h
      · rename_i hc
        simp at h; obtain ⟨rfl, rfl⟩ := h
        obtain ⟨h1, h2, rfl⟩ := hc
        have hhd : ch.getD ((0 : Nat) : Int) = 0 := by simpa using h2
        refine ⟨_, run_slice hu hs ha hh hm (by simp) (by omega) (by omega) (by simp; omega) (by simp), ?_⟩
        rw [h1, hhd]
        by_cases hc : cap = 0
        · subst hc; exact ⟨ad, 0, by simp⟩
        · refine ⟨ad.add 0, cap, ?_⟩
          simp [hc]
      · cases h
  | _ => dsimp only at h; cases h

theorem sliceArr_run {t el : TypeId} {n : Nat} (hu : P.underlying t = some (.array n el)) {x v : AV} {y : Value} {lo hi mx : Option Value} {ca ch cm : Option Int} {ps : List PE} (hr : Rel I g x y)
    (ha : OptLit lo ca) (hh : OptLit hi ch) (hm : OptLit mx cm) (h : sliceArr P el n x ca ch cm = some (v, ps)) :
    ∃ z, (Instr.sliceAt t y lo hi mx).run P w = .ok z w ∧ Rel I g v z := by
  unfold sliceArr at h
  split at h
  · rename_i sz b s' k hs
    dsimp only at h
    split at h
    · rename_i hc
      simp at h; obtain ⟨rfl, rfl⟩ := h
      obtain ⟨m, p, h1, h2, h3, rfl⟩ := hr
      have hm0 : m = 0 := by simp [E.den] at h1; exact h1.symm
      subst hm0
      refine ⟨_, ?_, p, n - (ca.getD 0).toNat, h3, ?_, rfl⟩
      · simp only [Instr.sliceAt, Sem.run_bind, run_underlying hu, Result.andThen, Instr.sureAddr, Sem.run_pure, run_bounds (b := false) (len := n) (cap := n) ha hh hm (by simp) hc.1 (by omega) (by simp; omega) (by simp), run_tySize hs]
        simp only [Option.getD_none, Int.toNat_natCast]
        rw [if_neg (by omega), addr_add]
        congr 3
        · simp [Nat.add_assoc]
        · omega
      · omega
    · cases h
  · cases h

theorem part_rel {el : TypeId} {l : List AV} {cs : Array Value} {i n : Nat} {ag : Bool} {v : AV} (h : cellsAt l i n ag = some v) (hr : Rels I g l cs.toList) (hag : tyAgg P el = some ag) (hn : tySize P el = some n) :
    ∃ y, (part el cs i).run P w = .ok y w ∧ Rel I g v y := by
  cases ag with
  | true =>
    simp only [cellsAt, if_true] at h
    split at h
    · rename_i hle
      simp at h; subst h
      refine ⟨.agg (cs.extract i (i + n)), by simp only [part, Sem.run_bind, run_tyAgg hag, Result.andThen, if_true, run_tySize hn, Sem.run_pure], _, rfl, ?_⟩
      have := (hr.drop i).take n
      simpa [Array.toList_extract, List.extract_eq_take_drop] using this
    · cases h
  | false =>
    simp only [cellsAt, Bool.false_eq_true, if_false] at h
    obtain ⟨y, h1, h2⟩ := hr.get h
    have h1' : cs[i]? = some y := by simpa using h1
    exact ⟨y, by simp only [part, Sem.run_bind, run_tyAgg hag, Result.andThen, Bool.false_eq_true, if_false, h1', Sem.run_pure], h2⟩

/-! ### A zero with a table in it -/

theorem zeroRow_spec : ∀ {ks : List CK} {l m : List Value}, zeroRow ks l = some m → ∃ r, l = r ++ m ∧ r.length = ks.length ∧ ∀ (j : Nat) (k : CK), ks[j]? = some k → r[j]? = some (k.val 0)
  | [], l, m, h => by simp [zeroRow] at h; subst h; exact ⟨[], rfl, rfl, by simp⟩
  | .int k :: ks, .int k' n :: l, m, h => by
    simp only [zeroRow] at h
    split at h
    · rename_i hc
      obtain ⟨rfl, rfl⟩ := hc
      obtain ⟨r, h1, h2, h3⟩ := zeroRow_spec h
      refine ⟨.int k 0 :: r, by simp [h1], by simp [h2], fun j c hj => ?_⟩
      cases j with
      | zero => simp at hj; subst hj; rfl
      | succ j => simp at hj ⊢; exact h3 j c hj
    · cases h
  | .bool :: ks, .bool false :: l, m, h => by
    simp only [zeroRow] at h
    obtain ⟨r, h1, h2, h3⟩ := zeroRow_spec h
    refine ⟨.bool false :: r, by simp [h1], by simp [h2], fun j c hj => ?_⟩
    cases j with
    | zero => simp at hj; subst hj; rfl
    | succ j => simp at hj ⊢; exact h3 j c hj
  | .bool :: ks, .bool true :: l, m, h => by simp [zeroRow] at h
  | .int _ :: _, [], _, h => by simp [zeroRow] at h
  | .bool :: _, [], _, h => by simp [zeroRow] at h
  | .int _ :: _, .bool _ :: _, _, h => by simp [zeroRow] at h
  | .int _ :: _, .float _ _ :: _, _, h => by simp [zeroRow] at h
  | .int _ :: _, .complex _ _ _ :: _, _, h => by simp [zeroRow] at h
  | .int _ :: _, .string _ :: _, _, h => by simp [zeroRow] at h
  | .int _ :: _, .pointer _ :: _, _, h => by simp [zeroRow] at h
  | .int _ :: _, .slice _ _ _ :: _, _, h => by simp [zeroRow] at h
  | .int _ :: _, .map _ :: _, _, h => by simp [zeroRow] at h
  | .int _ :: _, .chan _ :: _, _, h => by simp [zeroRow] at h
  | .int _ :: _, .func _ _ _ :: _, _, h => by simp [zeroRow] at h
  | .int _ :: _, .nilFunc :: _, _, h => by simp [zeroRow] at h
  | .int _ :: _, .iface _ _ :: _, _, h => by simp [zeroRow] at h
  | .int _ :: _, .nilIface :: _, _, h => by simp [zeroRow] at h
  | .int _ :: _, .agg _ :: _, _, h => by simp [zeroRow] at h
  | .int _ :: _, .tuple _ :: _, _, h => by simp [zeroRow] at h
  | .bool :: _, .int _ _ :: _, _, h => by simp [zeroRow] at h
  | .bool :: _, .float _ _ :: _, _, h => by simp [zeroRow] at h
  | .bool :: _, .complex _ _ _ :: _, _, h => by simp [zeroRow] at h
  | .bool :: _, .string _ :: _, _, h => by simp [zeroRow] at h
  | .bool :: _, .pointer _ :: _, _, h => by simp [zeroRow] at h
  | .bool :: _, .slice _ _ _ :: _, _, h => by simp [zeroRow] at h
  | .bool :: _, .map _ :: _, _, h => by simp [zeroRow] at h
  | .bool :: _, .chan _ :: _, _, h => by simp [zeroRow] at h
  | .bool :: _, .func _ _ _ :: _, _, h => by simp [zeroRow] at h
  | .bool :: _, .nilFunc :: _, _, h => by simp [zeroRow] at h
  | .bool :: _, .iface _ _ :: _, _, h => by simp [zeroRow] at h
  | .bool :: _, .nilIface :: _, _, h => by simp [zeroRow] at h
  | .bool :: _, .agg _ :: _, _, h => by simp [zeroRow] at h
  | .bool :: _, .tuple _ :: _, _, h => by simp [zeroRow] at h
theorem zeroRows_spec {ks : List CK} : ∀ {n : Nat} {l m : List Value}, zeroRows ks n l = some m → ∃ r, l = r ++ m ∧ r.length = n * ks.length ∧
    ∀ (i j : Nat) (k : CK), i < n → ks[j]? = some k → r[i * ks.length + j]? = some (k.val 0)
  | 0, l, m, h => by simp [zeroRows] at h; subst h; exact ⟨[], rfl, by simp, by intro i j k hi; omega⟩
  | n + 1, l, m, h => by
    simp only [zeroRows] at h
    split at h
    · rename_i l' h1
      obtain ⟨r1, e1, e2, e3⟩ := zeroRow_spec h1
      obtain ⟨r2, e4, e5, e6⟩ := zeroRows_spec h
      refine ⟨r1 ++ r2, by rw [e1, e4, List.append_assoc], by rw [List.length_append, e2, e5, Nat.add_mul]; omega, fun i j k hi hj => ?_⟩
      have hjl : j < ks.length := (List.getElem?_eq_some_iff.1 hj).1
      cases i with
      | zero => rw [Nat.zero_mul, Nat.zero_add, List.getElem?_append_left (by omega)]; exact e3 j k hj
      | succ i =>
        rw [Nat.add_mul, Nat.one_mul, List.getElem?_append_right (by omega), e2, show i * ks.length + ks.length + j - ks.length = i * ks.length + j by omega]
        exact e6 i j k (by omega) hj
    · cases h
theorem splitAt'_spec : ∀ {n : Nat} {acc l a b : List Value}, splitAt' n acc l = some (a, b) → a ++ b = acc.reverse ++ l ∧ a.length = acc.length + n
  | 0, acc, l, a, b, h => by simp [splitAt'] at h; obtain ⟨rfl, rfl⟩ := h; simp
  | n + 1, acc, v :: l, a, b, h => by
    simp only [splitAt'] at h
    obtain ⟨h1, h2⟩ := splitAt'_spec h
    refine ⟨by rw [h1]; simp, by rw [h2]; simp; omega⟩
  | n + 1, acc, [], a, b, h => by simp [splitAt'] at h
theorem zeroBig_spec {b : Big} {l m : List AV} (h : zeroBig P b = some (l, m)) : ∃ (i : TypeInfo) (cs : Array Value) (xs ys zs : List Value), P.info? b.t = some i ∧ i.zero = some (.agg cs) ∧ cs.toList = xs ++ ys ++ zs ∧
    (∀ w, (zeroValue b.t).run P w = .ok (.agg cs) w) ∧ (∀ (I : Itp) (g : G), Rels I g l xs ∧ Rels I g m zs) ∧ ys.length = b.n * b.ks.length ∧
    ∀ (r j : Nat) (k : CK), r < b.n → b.ks[j]? = some k → ys[r * b.ks.length + j]? = some (k.val 0) := by
  unfold zeroBig at h
  cases hi : P.info? b.t with
  | none => simp [hi] at h
  | some i =>
    simp only [hi, Option.bind_some] at h
    split at h
    · rename_i cs hz
      split at h
      · rename_i xs rest h1
        split at h
        · rename_i zs h2
          split at h
          · rename_i l' m' h3 h4
            simp at h
            obtain ⟨rfl, rfl⟩ := h
            obtain ⟨e1, _⟩ := splitAt'_spec h1
            obtain ⟨ys, e2, e3, e4⟩ := zeroRows_spec h2
            refine ⟨i, cs, xs, ys, zs, rfl, hz, ?_, fun w => by simp [zeroValue, run_typeInfo' hi, Sem.run_bind, Result.andThen, hz], fun I g => ⟨ofValues_rel h3, ofValues_rel h4⟩, e3, e4⟩
            rw [List.append_assoc, ← e2, e1]; simp
          · cases h
        · cases h
      · cases h
    · cases h

/-! ### Parts laid round a table -/

theorem setL_left {α : Type} : ∀ (vs l r : List α) (o : Nat), o + vs.length ≤ l.length → setL (l ++ r) o vs = setL l o vs ++ r
  | [], l, r, o, _ => rfl
  | v :: vs, l, r, o, h => by
    simp only [setL, List.length_cons] at h ⊢
    rw [List.set_append_left _ _ (by omega), setL_left vs (l.set o v) r (o + 1) (by simp; omega)]
theorem setL_right {α : Type} : ∀ (vs l r : List α) (o : Nat), l.length ≤ o → setL (l ++ r) o vs = l ++ setL r (o - l.length) vs
  | [], l, r, o, _ => rfl
  | v :: vs, l, r, o, h => by
    simp only [setL]
    rw [List.set_append_right _ _ h, setL_right vs l (r.set (o - l.length) v) (o + 1) (by omega), show o + 1 - l.length = o - l.length + 1 by omega]

theorem Rels.set {i : Nat} {v : AV} {x : Value} (hv : Rel I g v x) : ∀ {l : List AV} {xs : List Value}, Rels I g l xs → Rels I g (l.set i v) (xs.set i x) := by
  induction i with
  | zero => intro l xs h; cases l <;> cases xs <;> simp_all [Rels]
  | succ i ih =>
    intro l xs h
    cases l with
    | nil => cases xs with
      | nil => trivial
      | cons _ _ => simp [Rels] at h
    | cons b l => cases xs with
      | nil => simp [Rels] at h
      | cons y xs => exact ⟨h.1, ih h.2⟩

theorem Rels.setL : ∀ {vs : List AV} {ys : List Value} {l : List AV} {xs : List Value} (i : Nat), Rels I g l xs → Rels I g vs ys → Rels I g (Sx.setL l i vs) (Sx.setL xs i ys)
  | [], [], _, _, _, h, _ => h
  | v :: vs, y :: ys, _, _, i, h, hv => Rels.setL (i + 1) (h.set hv.1) hv.2
  | [], _ :: _, _, _, _, _, h => by simp [Rels] at h
  | _ :: _, [], _, _, _, _, h => by simp [Rels] at h

theorem foldl_setL (off : Nat) : ∀ (vs : List Value) (k : Nat) (cs : Array Value),
    ((vs.zipIdx k).foldl (fun (cs : Array Value) (x : Value × Nat) => cs.setIfInBounds (off + x.2) x.1) cs).toList = setL cs.toList (off + k) vs
  | [], k, cs => rfl
  | v :: vs, k, cs => by
    simp only [List.zipIdx_cons, List.foldl_cons, setL]
    rw [foldl_setL off vs (k + 1)]
    simp [Nat.add_assoc]

theorem fillBig_rel {place : Nat → Option (Nat × Nat)} {ml : Nat} : ∀ {ps : List (Nat × AV)} {qs : List (Nat × Value)} {pre post l m : List AV} {xs ys zs : List Value} {cs : Array Value},
    ps.map (·.1) = qs.map (·.1) → Rels I g (ps.map (·.2)) (qs.map (·.2)) → (∀ x ∈ ps, x.2 ≠ .any ∧ x.2.isBig = false) → Rels I g pre xs → Rels I g post zs → cs.toList = xs ++ ys ++ zs → ys.length = ml →
    fillBig place ml pre post ps = some (l, m) → ∃ (ds : Array Value) (xs' zs' : List Value), Instr.fill place cs qs = some ds ∧ ds.toList = xs' ++ ys ++ zs' ∧ Rels I g l xs' ∧ Rels I g m zs'
  | [], [], pre, post, l, m, xs, ys, zs, cs, _, _, _, h1, h2, h3, _, hf => by
    simp [fillBig] at hf; obtain ⟨rfl, rfl⟩ := hf; exact ⟨cs, xs, zs, rfl, h3, h1, h2⟩
  | (i, v) :: ps, (j, x) :: qs, pre, post, l, m, xs, ys, zs, cs, e, hr, hn, h1, h2, h3, h4, hf => by
    simp at e
    obtain ⟨rfl, e⟩ := e
    obtain ⟨hv, hr⟩ := hr
    have hc := cells_rel hv (hn (i, v) (by simp)).1 (hn (i, v) (by simp)).2
    have hlen : v.cells.length = x.cells.size := by simpa using hc.length
    have hpre := h1.length
    have hpost := h2.length
    have hsz : cs.size = xs.length + ys.length + zs.length := by have := congrArg List.length h3; simp at this; omega
    simp only [fillBig] at hf
    simp only [Instr.fill]
    cases hp : place i with
    | none => simp [hp] at hf
    | some os =>
      obtain ⟨off, size⟩ := os
      simp only [hp] at hf ⊢
      split at hf
      · cases hf
      rename_i hvs
      have hvs : v.cells.length = size := Decidable.not_not.1 hvs
      have e0 := foldl_setL off x.cells.toList 0 cs
      rw [Nat.add_zero] at e0
      have e2 : (x.cells.zipIdx.foldl (fun cs (c, j) => cs.setIfInBounds (off + j) c) cs).toList = setL cs.toList off x.cells.toList := by
        rw [← e0, ← Array.foldl_toList]; simp
      have hxl : x.cells.toList.length = size := by simp; omega
      split at hf
      · rename_i hle
        rw [if_neg (show ¬ (decide (x.cells.size ≠ size) || decide (off + x.cells.size > cs.size)) = true by simp; omega)]
        refine fillBig_rel (xs := setL xs off x.cells.toList) (ys := ys) (zs := zs) (by simpa using e) hr (fun y hy => hn y (by simp [hy])) (h1.setL off hc) h2 ?_ h4 hf
        rw [e2, h3, List.append_assoc, setL_left _ _ _ _ (by omega), List.append_assoc]
      · split at hf
        · rename_i hle
          rw [if_neg (show ¬ (decide (x.cells.size ≠ size) || decide (off + x.cells.size > cs.size)) = true by simp; omega)]
          have hsub := h2.setL (off - (pre.length + ml)) hc
          refine fillBig_rel (xs := xs) (ys := ys) (zs := setL zs (off - (pre.length + ml)) x.cells.toList) (by simpa using e) hr (fun y hy => hn y (by simp [hy])) h1 hsub ?_ h4 hf
          rw [e2, h3, setL_right _ _ _ _ (by simp; omega)]
          congr 2
          simp; omega
        · cases hf
  | [], _ :: _, _, _, _, _, _, _, _, _, h, _, _, _, _, _, _, _ => by simp at h
  | _ :: _, [], _, _, _, _, _, _, _, _, h, _, _, _, _, _, _, _ => by simp at h
end Go.Sx
