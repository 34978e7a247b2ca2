/-
  Operations on two values: arithmetic, comparisons. Conditions: none.
-/
import Derived.Test.YtbcclmpmljpbcaaGreatDoorSxQuiet
noncomputable section
namespace Go.Sx
open Go

variable {A : Amb} {I : Itp} {P : Program} {g : G} {X : Nat → Prop} {ts : Tmps} {a : Act} {M : Mem} {w : World}

/-- What '==' and '!=' do. -/
structure EqRun (P : Program) (w : World) (t : TypeId) (x y : Value) (n : Int) : Prop where
  guard : ∀ op ox oy, (eqGuard op t ox oy x y).run P w = .ok () w
  eql : (binOp .eql t x y).run P w = .ok (.bool (decide (n ≠ 0))) w
  neq : (binOp .neq t x y).run P w = .ok (.bool (!decide (n ≠ 0))) w

theorem EqRun.of_equal {t : TypeId} {x y : Value} {n : Int} (hg : ∀ op ox oy, (eqGuard op t ox oy x y).run P w = .ok () w)
    (h1 : binOp .eql t x y = (do pure (.bool (← Op.equal t x y)))) (h2 : binOp .neq t x y = (do pure (.bool (!(← Op.equal t x y)))))
    (h : (Op.equal t x y).run P w = .ok (decide (n ≠ 0)) w) : EqRun P w t x y n :=
  ⟨hg, by rw [h1]; simp [h, Result.andThen], by rw [h2]; simp [h, Result.andThen]⟩

theorem eqlOp_run {t : TypeId} {v u : AV} {x y : Value} {e : E} (h : eqlOp P t v u = some e) (hx : Rel I g v x) (hy : Rel I g u y) (w : World) :
    ∃ n : Int, e.den I g.env = some (.i n) ∧ EqRun P w t x y n := by
  unfold eqlOp at h
  split at h
  · rename_i k a k' b
    split at h
    · rename_i hk; subst hk
      simp at h; subst h
      obtain ⟨na, hna, rfl⟩ := hx
      obtain ⟨nb, hnb, rfl⟩ := hy
      refine ⟨_, den_mkBin hna hnb, fun op ox oy => by cases op <;> rfl, ?_, ?_⟩
      · simp only [binOp, Op.intCmp, ne_eq, not_true_eq_false, if_false, Sem.run_pure]
        by_cases hab : na = nb <;> simp [BO.ev, hab]
      · simp only [binOp, Op.intCmp, ne_eq, not_true_eq_false, if_false, Sem.run_pure]
        by_cases hab : na = nb <;> simp [BO.ev, hab]
    · cases h
  · rename_i a b
    split at h
    · rename_i hu
      simp at h; subst h
      obtain ⟨na, hna, rfl⟩ := hx
      obtain ⟨nb, hnb, rfl⟩ := hy
      refine ⟨_, den_mkBin (den_mkBin hna (show (E.lit 0).den I g.env = some (.i 0) from rfl)) (den_mkBin hnb (show (E.lit 0).den I g.env = some (.i 0) from rfl)),
        .of_equal (fun op ox oy => by cases op <;> rfl) rfl rfl ?_⟩
      rw [run_equal_bool hu]
      by_cases ha : na = 0 <;> by_cases hb : nb = 0 <;> simp [BO.ev, ha, hb]
    · cases h
  · split at h
    · rename_i hu
      simp at h; subst h
      simp only [Rel] at hx hy; subst hx; subst hy
      exact ⟨1, rfl, .of_equal (fun op ox oy => by cases op <;> rfl) rfl rfl (by rw [run_equal_nil_ptr hu]; rfl)⟩
    · cases h
  · split at h
    · rename_i hu
      simp at h; subst h
      obtain ⟨n, p, _, _, _, rfl⟩ := hx
      simp only [Rel] at hy; subst hy
      exact ⟨0, rfl, .of_equal (fun op ox oy => by cases op <;> rfl) rfl rfl (by rw [run_equal_ptr_nil hu]; rfl)⟩
    · cases h
  · split at h
    · rename_i hu
      simp at h; subst h
      obtain ⟨n, p, _, _, _, rfl⟩ := hy
      simp only [Rel] at hx; subst hx
      exact ⟨0, rfl, .of_equal (fun op ox oy => by cases op <;> rfl) rfl rfl (by rw [run_equal_nil_ptr hu]; rfl)⟩
    · cases h
  · split at h
    · rename_i hu
      simp at h; subst h
      obtain ⟨ms, cs, rfl, _⟩ := hx
      simp only [Rel] at hy; subst hy
      exact ⟨0, rfl, .of_equal (fun op ox oy => by cases op <;> rfl) rfl rfl (by rw [run_equal_func_nil hu]; rfl)⟩
    · cases h
  · split at h
    · rename_i hu
      simp at h; subst h
      obtain ⟨cs, rfl, _⟩ := hx
      simp only [Rel] at hy; subst hy
      exact ⟨0, rfl, .of_equal (fun op ox oy => by cases op <;> rfl) rfl rfl (by rw [run_equal_func_nil hu]; rfl)⟩
    · cases h
  · split at h
    · rename_i hu
      simp at h; subst h
      simp only [Rel] at hx hy; subst hx; subst hy
      exact ⟨1, rfl, .of_equal (fun op ox oy => by cases op <;> rfl) rfl rfl (by rw [run_equal_nil_nil hu]; rfl)⟩
    · cases h
  · rename_i b lo len sz nl
    split at h
    · rename_i el hu
      obtain ⟨l, n, _, hn, _, hn0, hcase⟩ := hx
      simp only [Rel] at hy; subst hy
      have hreal : e = .lit 0 ∧ ∃ p c, x = .slice (some p) n.toNat c := by
        split at h
        · rename_i hnl
          simp at h
          rcases hcase with ⟨p, c, _, hx, _⟩ | ⟨h1, _⟩
          · exact ⟨h.symm, _, _, hx⟩
          · rw [hnl] at h1; cases h1
        · split at h
          · rename_i m
            split at h
            · rename_i hm
              simp at h
              rcases hcase with ⟨p, c, _, hx, _⟩ | ⟨_, h1, _⟩
              · exact ⟨h.symm, _, _, hx⟩
              · simp [E.den] at hn; omega
            · cases h
          · cases h
      obtain ⟨rfl, p, c, rfl⟩ := hreal
      exact ⟨0, rfl, .of_equal (fun op ox oy => by cases op <;> rfl) rfl rfl (by rw [run_equal_slice_nil hu]; rfl)⟩
    · cases h
  · split at h
    · rename_i hu
      simp at h; subst h
      obtain ⟨a, rfl⟩ := hx
      simp only [Rel] at hy; subst hy
      exact ⟨0, rfl, .of_equal (fun op ox oy => by cases op <;> rfl) rfl rfl (by rw [run_equal_slice_nil hu]; rfl)⟩
    · cases h
  · split at h
    · rename_i hu
      simp at h; subst h
      obtain ⟨a, c, rfl⟩ := hx
      simp only [Rel] at hy; subst hy
      exact ⟨0, rfl, .of_equal (fun op ox oy => by cases op <;> rfl) rfl rfl (by rw [run_equal_slice_nil hu]; rfl)⟩
    · cases h
  · split at h
    · rename_i hu
      simp at h; subst h
      obtain ⟨p, c, _, _, rfl⟩ := hx
      simp only [Rel] at hy; subst hy
      exact ⟨0, rfl, .of_equal (fun op ox oy => by cases op <;> rfl) rfl rfl (by rw [run_equal_slice_nil hu]; rfl)⟩
    · cases h
  · split at h
    · rename_i hu
      simp at h; subst h
      simp only [Rel] at hx hy; subst hx; subst hy
      exact ⟨1, rfl, .of_equal (fun op ox oy => by cases op <;> rfl) rfl rfl (by rw [run_equal_nil_slice hu]; rfl)⟩
    · cases h
  · rename_i l m
    split at h
    · rename_i fs hu
      split at h
      · rename_i hc
        obtain ⟨hst, hgd⟩ := hc
        obtain ⟨cs, rfl, hl⟩ := hx
        obtain ⟨ds, rfl, hm⟩ := hy
        have key : ∀ d, ∃ n : Int, e.den I g.env = some (.i n) ∧ (n = 0 ∨ n = 1) ∧ (Op.equalIn (d + 2) t (.agg cs) (.agg ds)).run P w = .ok (decide (n ≠ 0)) w := by
          intro d
          obtain ⟨n, h1, h2, h3⟩ := eqCells_run d cs ds w fs.toList 0 l m e h (by simpa using hl) (by simpa using hm)
          refine ⟨n, h1, h2, ?_⟩
          have h4 : (Op.equalIn (d + 2) t (.agg cs) (.agg ds)).run P w = ((forIn fs (none, ()) (eqBody (d + 1) cs ds)).run P w).andThen fun a w' => (match a.fst with
              | some r => (Pure.pure r : Sem Bool)
              | none => Pure.pure true).run P w' := by
            rw [Op.equalIn.eq_def]
            simp only [Sem.run_bind, run_underlying hu, Result.andThen, run_program, hst]
            simp
            have hb' : ∀ (b b' : Field → Option Bool × Unit → Sem (ForInStep (Option Bool × Unit))), b = b' → ∀ (K : Result (Option Bool × Unit) → Prop), K ((forIn fs (none, ()) b' : Sem _).run P w) → K ((forIn fs (none, ()) b : Sem _).run P w) := fun b b' e K h => by rw [e]; exact h
            refine hb' _ (eqBody (d + 1) cs ds) ?_ (fun q => q.andThen _ = _) (by rcases (forIn fs (none, ()) (eqBody (d + 1) cs ds) : Sem _).run P w with ⟨⟨_ | _, _⟩, _⟩ | _ <;> rfl)
            funext f s
            simp only [eqBody]
          rw [h4, ← Array.forIn_toList, h3]
          rcases h2 with rfl | rfl <;> rfl
        obtain ⟨n, h1, _, h3⟩ := key 9998
        exact ⟨n, h1, .of_equal (fun op ox oy => by cases op <;> simp [eqGuard, Result.andThen, hgd]) rfl rfl h3⟩
      · cases h
    · cases h
  · cases h

theorem tt_rng {k : IntKind} {e : E} {n : Int} (h : (PE.rng k e).den I g.env) (he : e.den I g.env = some (.i n)) : k.min ≤ n ∧ n ≤ k.max := by
  obtain ⟨m, h1, h2⟩ := h
  rw [he] at h1; simp at h1; subst h1; exact h2
theorem wrap_rng {k : IntKind} {n : Int} (h : k.min ≤ n ∧ n ≤ k.max) : k.wrap n = n := by
  cases k <;> simp [IntKind.min, IntKind.max, IntKind.signed, IntKind.bits] at h <;> simp [IntKind.wrap, IntKind.signed, IntKind.bits] <;> (try split) <;> omega

theorem arith_rel {k : IntKind} {e : E} {z : AV} {ps : List PE} {n : Int} (h : arith k e = (z, ps)) (hp : ∀ q ∈ ps, q.den I g.env) (he : e.den I g.env = some (.i n)) : Rel I g z (.int k (k.wrap n)) := by
  unfold arith at h
  split at h
  · simp at h
    obtain ⟨rfl, rfl⟩ := h
    simp [E.den] at he
    subst he
    exact ⟨_, rfl, rfl⟩
  · split at h
    · simp at h
      obtain ⟨rfl, rfl⟩ := h
      exact ⟨n, he, congrArg (Value.int _) (wrap_rng (tt_rng (hp _ (List.mem_singleton.2 rfl)) he))⟩
    · simp at h
      obtain ⟨rfl, rfl⟩ := h
      exact ⟨k.wrap n, by simp [E.den, he], rfl⟩
theorem run_bits {o : BinOp} {j : Nat} (ho : bitsOf o = some j) (hj : j < 4) {t : TypeId} {k : IntKind} {x y : Int} : (binOp o t (.int k x) (.int k y)).run P w = .ok (.int k (bitsEv j k x y)) w := by
  cases o <;> simp [bitsOf] at ho <;> subst ho <;> first | omega | (simp only [binOp, ne_eq, not_true_eq_false, if_false, Op.intBits, bitsEv, Sem.run_pure])
theorem run_shift {o : BinOp} {j : Nat} (ho : bitsOf o = some j) (hj : ¬ j < 4) (hj' : j < 6) {t : TypeId} {k k' : IntKind} {x y : Int} (hy : 0 ≤ y) :
    (binOp o t (.int k x) (.int k' y)).run P w = .ok (.int k (bitsEv j k x y)) w := by
  cases o <;> simp [bitsOf] at ho <;> subst ho <;> first | omega | (simp only [binOp, Op.shift, if_neg (show ¬ y < 0 by omega), bitsEv, Sem.run_pure])
theorem run_quo {o : BinOp} {j : Nat} (ho : bitsOf o = some j) (hj : ¬ j < 6) {t : TypeId} {k : IntKind} {x y : Int} (hy : y ≠ 0) :
    (binOp o t (.int k x) (.int k y)).run P w = .ok (.int k (bitsEv j k x y)) w := by
  cases o <;> simp [bitsOf] at ho <;> subst ho <;> first | omega | (simp only [binOp, ne_eq, not_true_eq_false, if_false, Op.intDiv, if_neg hy, bitsEv, Sem.run_pure])

theorem run_bin {o : BinOp} {t : TypeId} {x y r : Value} {ox oy : Operand} (h1 : (eqGuard o t ox oy x y).run P w = .ok () w) (h2 : (binOp o t x y).run P w = .ok r w) :
    (do eqGuard o t ox oy x y; binOp o t x y : Sem Value).run P w = .ok r w := by
  rw [Sem.run_bind, h1]; exact h2
theorem guard_int {o : BinOp} {t : TypeId} {k k' : IntKind} {x y : Int} {ox oy : Operand} : (eqGuard o t ox oy (.int k x) (.int k' y)).run P w = .ok () w := by
  cases o <;> rfl
theorem run_add {t : TypeId} {k : IntKind} {x y : Int} : (binOp .add t (.int k x) (.int k y)).run P w = .ok (.int k (k.wrap (x + y))) w := by
  simp only [binOp, ne_eq, not_true_eq_false, if_false, Op.intArith, Sem.run_pure]
theorem run_sub {t : TypeId} {k : IntKind} {x y : Int} : (binOp .sub t (.int k x) (.int k y)).run P w = .ok (.int k (k.wrap (x - y))) w := by
  simp only [binOp, ne_eq, not_true_eq_false, if_false, Op.intArith, Sem.run_pure]
theorem run_mul {t : TypeId} {k : IntKind} {x y : Int} : (binOp .mul t (.int k x) (.int k y)).run P w = .ok (.int k (k.wrap (x * y))) w := by
  simp only [binOp, ne_eq, not_true_eq_false, if_false, Op.intArith, Sem.run_pure]
theorem run_rem {t : TypeId} {k : IntKind} {x y : Int} (hy : y ≠ 0) : (binOp .rem t (.int k x) (.int k y)).run P w = .ok (.int k (x.tmod y)) w := by
  simp only [binOp, ne_eq, not_true_eq_false, if_false, Op.intDiv, if_neg hy, Sem.run_pure]
theorem run_lss {t : TypeId} {k : IntKind} {x y : Int} : (binOp .lss t (.int k x) (.int k y)).run P w = .ok (.bool (decide (x < y))) w := by
  simp only [binOp, ne_eq, not_true_eq_false, if_false, Op.intCmp, Sem.run_pure]
theorem run_leq {t : TypeId} {k : IntKind} {x y : Int} : (binOp .leq t (.int k x) (.int k y)).run P w = .ok (.bool (decide (x ≤ y))) w := by
  simp only [binOp, ne_eq, not_true_eq_false, if_false, Op.intCmp, Sem.run_pure]
theorem run_gtr {t : TypeId} {k : IntKind} {x y : Int} : (binOp .gtr t (.int k x) (.int k y)).run P w = .ok (.bool (decide (y < x))) w := by
  simp only [binOp, ne_eq, not_true_eq_false, if_false, Op.intCmp, Sem.run_pure]
theorem run_geq {t : TypeId} {k : IntKind} {x y : Int} : (binOp .geq t (.int k x) (.int k y)).run P w = .ok (.bool (decide (y ≤ x))) w := by
  simp only [binOp, ne_eq, not_true_eq_false, if_false, Op.intCmp, Sem.run_pure]

theorem ev_lt (x y : Int) : decide (BO.lt.ev x y ≠ 0) = decide (x < y) := by by_cases h : x < y <;> simp [BO.ev, h]
theorem ev_le (x y : Int) : decide (BO.le.ev x y ≠ 0) = decide (x ≤ y) := by by_cases h : x ≤ y <;> simp [BO.ev, h]

theorem binAV_run {o : BinOp} {t : TypeId} {v u z : AV} {x y : Value} {ps : List PE} (h : binAV P o t v u = some (z, ps)) (hp : ∀ q ∈ ps, q.den I g.env)
    (hx : Rel I g v x) (hy : Rel I g u y) (ox oy : Operand) (w : World) : ∃ r, (do eqGuard o t ox oy x y; binOp o t x y : Sem Value).run P w = .ok r w ∧ Rel I g z r := by
  unfold binAV at h
  split at h
  · cases he : eqlOp P t v u with
    | none => simp [he] at h
    | some e =>
      simp [he] at h
      obtain ⟨rfl, rfl⟩ := h
      obtain ⟨n, h1, h2⟩ := eqlOp_run he hx hy w
      exact ⟨_, run_bin (h2.guard _ _ _) h2.eql, n, h1, rfl⟩
  · cases he : eqlOp P t v u with
    | none => simp [he] at h
    | some e =>
      simp [he] at h
      obtain ⟨rfl, rfl⟩ := h
      obtain ⟨n, h1, h2⟩ := eqlOp_run he hx hy w
      refine ⟨_, run_bin (h2.guard _ _ _) h2.neq, _, den_mkBin h1 (show (E.lit 0).den I g.env = some (.i 0) from rfl), ?_⟩
      by_cases hn : n = 0 <;> simp [BO.ev, hn]
  case h_12 =>
    rename_i ka a kb b _ _ _ _ _ _ _ _ _ _ _
    obtain ⟨na, hna, rfl⟩ := hx
    obtain ⟨nb, hnb, rfl⟩ := hy
    split at h
    · rename_i j hj
      split at h
      · rename_i h4
        split at h
        · rename_i hk
          subst hk
          simp at h
          obtain ⟨rfl, rfl⟩ := h
          exact ⟨_, run_bin guard_int (run_bits hj h4), _, den_mkBin (o := .bits j ka) hna hnb, rfl⟩
        · cases h
      · rename_i h4
        split at h
        · rename_i h6
          simp at h
          obtain ⟨rfl, rfl⟩ := h
          have hb : 0 ≤ nb := by
            obtain ⟨m, h1, h2⟩ := hp _ (List.mem_singleton.2 rfl)
            rw [den_mkBin (x := 0) rfl hnb] at h1
            simp [BO.ev] at h1
            by_cases h0 : 0 ≤ nb
            · exact h0
            · rw [if_neg h0] at h1; omega
          exact ⟨_, run_bin guard_int (run_shift hj h4 h6 hb), _, den_mkBin (o := .bits j ka) hna hnb, rfl⟩
        · rename_i h6
          split at h
          · rename_i hk
            subst hk
            simp at h
            obtain ⟨rfl, rfl⟩ := h
            have hb : nb ≠ 0 := by
              obtain ⟨m, h1, h2⟩ := hp _ (List.mem_singleton.2 rfl)
              rw [den_mkBin (y := 0) hnb rfl] at h1
              simp [BO.ev] at h1
              intro h0
              rw [if_pos h0] at h1; omega
            exact ⟨_, run_bin guard_int (run_quo hj h6 hb), _, den_mkBin (o := .bits j ka) hna hnb, rfl⟩
          · cases h
    · cases h
  all_goals
    first
      | cases h
      | (split at h
         case isFalse => cases h)
  all_goals
    rename_i hk
    obtain ⟨na, hna, rfl⟩ := hx
    obtain ⟨nb, hnb, rfl⟩ := hy
  · subst hk
    simp only [Option.some.injEq] at h
    exact ⟨_, run_bin guard_int run_add, arith_rel h hp (den_mkAdd hna hnb)⟩
  · subst hk
    simp only [Option.some.injEq] at h
    exact ⟨_, run_bin guard_int run_sub, arith_rel h hp (den_mkSub hna hnb)⟩
  · subst hk
    simp only [Option.some.injEq] at h
    exact ⟨_, run_bin guard_int run_mul, arith_rel h hp (den_mkBin (o := .mul) hna hnb)⟩
  · obtain ⟨hk, hn⟩ := hk
    subst hk
    simp at h
    obtain ⟨rfl, rfl⟩ := h
    have hnb' := hnb
    simp [E.den] at hnb'
    subst hnb'
    exact ⟨_, run_bin guard_int (run_rem hn), _, den_mkBin (o := .tmod) hna hnb, rfl⟩
  · subst hk
    simp at h
    obtain ⟨rfl, rfl⟩ := h
    have hb : nb ≠ 0 := by
      obtain ⟨m, h1, h2⟩ := hp _ (List.mem_singleton.2 rfl)
      rw [den_mkBin (y := 0) hnb rfl] at h1
      simp [BO.ev] at h1
      intro h0
      rw [if_pos h0] at h1; omega
    exact ⟨_, run_bin guard_int (run_rem hb), _, den_mkBin (o := .tmod) hna hnb, rfl⟩
  · subst hk
    simp at h
    obtain ⟨rfl, rfl⟩ := h
    exact ⟨_, run_bin guard_int run_lss, _, den_mkBin (o := .lt) hna hnb, by rw [ev_lt]⟩
  · subst hk
    simp at h
    obtain ⟨rfl, rfl⟩ := h
    exact ⟨_, run_bin guard_int run_leq, _, den_mkBin (o := .le) hna hnb, by rw [ev_le]⟩
  · subst hk
    simp at h
    obtain ⟨rfl, rfl⟩ := h
    exact ⟨_, run_bin guard_int run_gtr, _, den_mkBin (o := .lt) hnb hna, by rw [ev_lt]⟩
  · subst hk
    simp at h
    obtain ⟨rfl, rfl⟩ := h
    exact ⟨_, run_bin guard_int run_geq, _, den_mkBin (o := .le) hnb hna, by rw [ev_le]⟩
end Go.Sx
