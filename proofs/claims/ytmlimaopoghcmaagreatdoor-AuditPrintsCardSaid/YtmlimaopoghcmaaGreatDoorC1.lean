/-
  The formulas of the contracts hold. Conditions: none; nothing here speaks of a program.
-/
import Derived.Test.YtmlimaopoghcmaaGreatDoorB1
import Derived.KernelRfl
namespace Go.Au
open Go Go.Sx Go.Lib
variable {N : Nat}
theorem txt_zero (T : Tb) : txt T 0 = 0 := by
  have : senc [] = 0 := by kernel_rfl
  exact this
theorem txt_succ {T : Tb} {i : Int} (h : 0 ≤ i) : txt T (i + 1) = senc (txtL T i.toNat ++ lineL (T i 0) (T i 1) (T i 2) (T i 3)) := by
  have e : (i + 1).toNat = i.toNat + 1 := by omega
  unfold txt
  rw [e]
  show senc (txtL T i.toNat ++ lineL (T (i.toNat : Int) 0) (T (i.toNat : Int) 1) (T (i.toNat : Int) 2) (T (i.toNat : Int) 3)) = _
  rw [Int.toNat_of_nonneg h]
theorem kinds_zero (T : Tb) : Kinds T 0 := fun r h0 h1 => by omega
theorem kinds_succ {T : Tb} {i : Int} (h : Kinds T i) (hi : 1 ≤ T i 0 ∧ T i 0 ≤ 18) : Kinds T (i + 1) := fun r h0 h1 => by
  rcases Int.lt_or_eq_of_le (show r ≤ i by omega) with h2 | rfl
  · exact h r h0 h2
  · exact hi
theorem not_kinds {T : Tb} {i n : Int} (h0 : 0 ≤ i) (h1 : i < n) (h : ¬ (1 ≤ T i 0 ∧ T i 0 ≤ 18)) : ¬ Kinds T n := fun h2 => h (h2 i h0 h1)
noncomputable def nmT : Tb := ((tb6.den (AI 0) []).getD (.i 0)).tab
theorem nm_den (ds : List D) : tb6.den (AI N) ds = some (.t nmT) := rfl
theorem nm_all : (List.range 18).map (fun j : Nat => nmT (j : Int) 0) = kw.map senc := by kernel_rfl
theorem nm_at {k : Int} (h0 : 1 ≤ k) (h1 : k ≤ 18) : nmT (k - 1) 0 = senc (kw.getD (k - 1).toNat []) := by
  have hj : (k - 1).toNat < 18 := by omega
  have h := congrArg (fun l => l[(k - 1).toNat]?) nm_all
  simp only [List.getElem?_map, List.getElem?_range hj, Option.map_some] at h
  have hk : kw[(k - 1).toNat]? = some (kw.getD (k - 1).toNat []) := by
    rw [List.getD_eq_getElem?_getD, List.getElem?_eq_getElem (show (k - 1).toNat < kw.length from hj)]; rfl
  rw [hk, Option.map_some, Option.some.injEq, Int.toNat_of_nonneg (by omega)] at h
  exact h
theorem kw_len (j : Nat) : (kw.getD j []).length ≤ 10 := by
  by_cases h : j < 18
  · have : ∀ i : Fin 18, (kw.getD i.val []).length ≤ 10 := by decide
    exact this ⟨j, h⟩
  · rw [List.getD_eq_getElem?_getD, List.getElem?_eq_none (by simp [kw]; omega)]; simp
theorem blank : (-17 : Int) = senc [32] := by kernel_rfl
theorem feed : (-6 : Int) = senc [10] := by kernel_rfl
theorem line_eq {T : Tb} {i : Int} (h0 : 0 ≤ i) (h1 : 1 ≤ T i 0) (h2 : T i 0 ≤ 18) :
    scat (scat (scat (scat (scat (scat (scat (scat (txt T i) (nmT (T i 0 - 1) 0)) (-17)) (senc (itoa (T i 1)))) (-17)) (senc (itoa (T i 2)))) (-17)) (senc (itoa (T i 3)))) (-6) = txt T (i + 1) := by
  rw [txt_succ h0, nm_at h1 h2, blank, feed]
  unfold txt lineL
  simp only [scat_senc, List.append_assoc]
theorem slen_scat (a b : Int) : slen (scat a b) = slen a + slen b := by
  unfold slen scat
  rw [sdec_senc, List.length_append]; omega
theorem slen_nm {k : Int} (h0 : 1 ≤ k) (h1 : k ≤ 18) : slen (nmT (k - 1) 0) ≤ 10 := by
  rw [nm_at h0 h1, slen_senc]
  have := kw_len (k - 1).toNat
  omega
theorem slen_b : slen (-17) = 1 := by rw [blank, slen_senc]; rfl
theorem slen_f : slen (-6) = 1 := by rw [feed, slen_senc]; rfl
theorem slen_0 : slen 0 = 0 := by
  have : (0 : Int) = senc [] := by kernel_rfl
  rw [this, slen_senc]; rfl
set_option maxHeartbeats 4000000 in
theorem vPrint : ∀ ds, Sorts (cPrint 5).sorts ds → tPrint.vc (AI N) ds := by
  refine all_t fun T => all_i fun n => all_n ?_
  set_option linter.unusedSimpArgs false in
  simp (config := { maxSteps := 10000000 }) only [tPrint, p0, e1, e2, q3, e4, e5, e7, p8, e9, e10, e11, e12, e13, e14, e15, e16, e17, e18, e19, e20, q21, q22, nm_den, slen_scat, ν, κ, ο, γ, ω, ρ, χ, π, δ, ξ, υ, α, μ, β, η, τ, sln, fn1, fn2, z0, Tree.vc, PE.den, E.den, dens, BO.ev, List.getElem?_cons_zero, List.getElem?_cons_succ, List.cons_append, List.nil_append, Option.some.injEq, D.i.injEq, D.t.injEq, exists_eq_left', exists_const, forall_const, forall_eq', one_ne, one_eq, zero_ne, zero_eq, min_i64, max_i64, min_u8, max_u8, and_true, true_and, Decidable.not_not, S2, S3, S1001, S1002, P1, P2, P3]
  intro h0 h1 hR
  refine ⟨by rw [slen_0]; omega, txt_zero T, kinds_zero T, fun i s hi0 hi1 hs he hk => ⟨fun hlt => ⟨fun hl => .inr ⟨not_kinds hi0 hlt (by omega), rfl, rfl⟩, fun hl => ⟨fun hg => .inr ⟨not_kinds hi0 hlt (by omega), rfl, rfl⟩, fun hg => ?_⟩⟩, fun hge => ?_⟩⟩
  · have hk1 : 1 ≤ T i 0 := by omega
    have hk2 : T i 0 ≤ 18 := by omega
    obtain ⟨r0, r1, r2, r3⟩ := hR i hi0 hlt
    have l0 := slen_nm hk1 hk2
    have l1 := slen_itoa r1
    have l2 := slen_itoa r2
    have l3 := slen_itoa r3
    have hl' := line_eq hi0 hk1 hk2
    have hkk := kinds_succ hk ⟨hk1, hk2⟩
    have hs' : slen (txt T i) ≤ 100 * i := by rw [he]; exact hs
    unfold I64 at r0 r1 r2 r3
    rw [slen_b, slen_f]
    generalize slen (txt T i) = a0 at *
    generalize slen (nmT (T i 0 - 1) 0) = a1 at *
    generalize slen (senc (itoa (T i 1))) = a2 at *
    generalize slen (senc (itoa (T i 2))) = a3 at *
    generalize slen (senc (itoa (T i 3))) = a4 at *
    clear hR hs he hk
    repeat' first
      | (with_reducible apply And.intro)
      | (with_reducible intro _)
    all_goals first
      | (with_reducible exact hl')
      | (with_reducible exact hl'.symm)
      | (with_reducible exact hkk)
      | (clear hl' hkk; omega)
  · obtain rfl : i = n := by omega
    exact .inl ⟨hk, rfl, rfl⟩
set_option maxHeartbeats 4000000 in
theorem vRPrint : ∀ ds, Sorts (cPrint 6).sorts ds → tRPrint.vc (AI N) ds := by
  refine all_t fun T => all_i fun n => all_n ?_
  set_option linter.unusedSimpArgs false in
  simp (config := { maxSteps := 10000000 }) only [tRPrint, p0, e1, e2, q3, e4, e5, e7, p8, e9, e10, e11, e12, e13, e14, e15, e16, e17, e18, e19, e20, q21, q22, nm_den, slen_scat, ν, κ, ο, γ, ω, ρ, χ, π, δ, ξ, υ, α, μ, β, η, τ, sln, fn1, fn2, z0, Tree.vc, PE.den, E.den, dens, BO.ev, List.getElem?_cons_zero, List.getElem?_cons_succ, List.cons_append, List.nil_append, Option.some.injEq, D.i.injEq, D.t.injEq, exists_eq_left', exists_const, forall_const, forall_eq', one_ne, one_eq, zero_ne, zero_eq, min_i64, max_i64, min_u8, max_u8, and_true, true_and, Decidable.not_not, S2, S3, S1001, S1002, P1, P2, P3]
  intro h0 h1 hR
  refine ⟨by rw [slen_0]; omega, txt_zero T, kinds_zero T, fun i s hi0 hi1 hs he hk => ⟨fun hlt => ⟨fun hl => .inr ⟨not_kinds hi0 hlt (by omega), rfl, rfl⟩, fun hl => ⟨fun hg => .inr ⟨not_kinds hi0 hlt (by omega), rfl, rfl⟩, fun hg => ?_⟩⟩, fun hge => ?_⟩⟩
  · have hk1 : 1 ≤ T i 0 := by omega
    have hk2 : T i 0 ≤ 18 := by omega
    obtain ⟨r0, r1, r2, r3⟩ := hR i hi0 hlt
    have l0 := slen_nm hk1 hk2
    have l1 := slen_itoa r1
    have l2 := slen_itoa r2
    have l3 := slen_itoa r3
    have hl' := line_eq hi0 hk1 hk2
    have hkk := kinds_succ hk ⟨hk1, hk2⟩
    have hs' : slen (txt T i) ≤ 100 * i := by rw [he]; exact hs
    unfold I64 at r0 r1 r2 r3
    rw [slen_b, slen_f]
    generalize slen (txt T i) = a0 at *
    generalize slen (nmT (T i 0 - 1) 0) = a1 at *
    generalize slen (senc (itoa (T i 1))) = a2 at *
    generalize slen (senc (itoa (T i 2))) = a3 at *
    generalize slen (senc (itoa (T i 3))) = a4 at *
    clear hR hs he hk
    repeat' first
      | (with_reducible apply And.intro)
      | (with_reducible intro _)
    all_goals first
      | (with_reducible exact hl')
      | (with_reducible exact hl'.symm)
      | (with_reducible exact hkk)
      | (clear hl' hkk; omega)
  · obtain rfl : i = n := by omega
    exact .inl ⟨hk, rfl, rfl⟩
theorem vRDig : ∀ ds, Sorts (cRDig 21).sorts ds → tRDig.vc (AI N) ds := by
  refine all_i fun n => all_n ?_
  set_option linter.unusedSimpArgs false in
  simp (config := { maxSteps := 10000000 }) only [tRDig, e7, e23, e24, e25, e26, e27, e28, e29, slen_scat, ν, κ, ο, γ, ω, ρ, χ, π, δ, ξ, υ, α, μ, β, η, τ, sln, fn1, fn2, z0, Tree.vc, PE.den, E.den, dens, BO.ev, List.getElem?_cons_zero, List.getElem?_cons_succ, List.cons_append, List.nil_append, Option.some.injEq, D.i.injEq, D.t.injEq, exists_eq_left', exists_const, forall_const, forall_eq', one_ne, one_eq, zero_ne, zero_eq, min_i64, max_i64, min_u8, max_u8, and_true, true_and, Decidable.not_not, S3, S1001, S1002, S1005, P20, P21]
  intro hn hN
  have hn' : I64 n := hn
  rw [q10 hn']
  have r1 := tdiv_rng hn'
  have r2 := tmod_rng n
  have r2' : I64 (n.tmod 10) := ⟨by omega, by omega⟩
  have r3 : I64 (0 - n.tmod 10) := ⟨by omega, by omega⟩
  refine ⟨fun h0 => ⟨fun h1 => ?_, fun h1 => ?_⟩, fun h0 => ⟨fun h1 => ?_, fun h1 => ?_⟩⟩
  · have e : (0 : Int) - n = -n := by omega
    have r4 : I64 (-n) := ⟨by omega, by omega⟩
    rw [e]
    have := dep_negs h0 h1
    have hl := slen_itoa r4
    have he : senc (itoa n) = scat 23 (senc (itoa (-n))) := by
      rw [itoa_negs h0 h1]
      unfold scat
      rw [dash, sdec_senc]; rfl
    exact ⟨r4, by omega, fun _ => ⟨by omega, he, by rw [← slen_scat, ← he]; exact slen_itoa hn'⟩⟩
  · have := dep_negb (n := n) (by omega)
    have e : (0 : Int) - n.tmod 10 = -(n.tmod 10) := by omega
    rw [e] at r3 ⊢
    have hl := slen_itoa r1
    have hl2 := slen_itoa r3
    have he : senc (itoa n) = scat (senc (itoa (n.tdiv 10))) (senc (itoa (-(n.tmod 10)))) := by rw [scat_senc, ← itoa_negb (by omega)]
    exact ⟨r1, by omega, fun _ => ⟨r3, by omega, fun _ => ⟨by omega, he, by rw [← slen_scat, ← he]; exact slen_itoa hn'⟩⟩⟩
  · have he : senc (itoa n) = scode (tupd (fun _ _ => 0) 0 0 (IntKind.u8.wrap (48 + n))) 1 := by
      rw [itoa_small (by omega) h1]
      unfold scode
      congr 1
      simp only [Int.toNat_one, List.range_one, List.map_cons, List.map_nil, tupd, Int.natCast_zero, and_self, if_true]
      rw [w8 (by omega)]
      congr 2; omega
    refine ⟨⟨by omega, by omega⟩, ⟨_, _, rfl, rfl, fun i hi => ?_⟩, he, by rw [← he]; exact slen_itoa hn'⟩
    · have : (i : Int) = 0 := by omega
      simp only [tupd, this, and_self, if_true]
      rw [w8 (by omega)]; omega
  · have := dep_big (n := n) (by omega)
    have hl := slen_itoa r1
    have hl2 := slen_itoa r2'
    have he : senc (itoa n) = scat (senc (itoa (n.tdiv 10))) (senc (itoa (n.tmod 10))) := by rw [scat_senc, ← itoa_big (by omega)]
    exact ⟨r1, by omega, fun _ => ⟨r2', by omega, fun _ => ⟨by omega, he, by rw [← slen_scat, ← he]; exact slen_itoa hn'⟩⟩⟩
end Go.Au
namespace Go.Au
open Go Go.Sx Go.Lib Go.Mg
variable {N : Nat}
theorem eight {i : Int} (h0 : 0 ≤ i) (h : i < 8) : i = 0 ∨ i = 1 ∨ i = 2 ∨ i = 3 ∨ i = 4 ∨ i = 5 ∨ i = 6 ∨ i = 7 := by omega
set_option maxHeartbeats 4000000 in
theorem vSt13 : ∀ ds, Sorts st13.sorts ds → tSt13.vc (AI N) ds := by
  refine all_n ?_
  set_option linter.unusedSimpArgs false in
  simp (config := { maxSteps := 10000000 }) only [tSt13, pb0, pb1, eb2, eb3, pb4, qb5, eb7, eb8, eb9, eb13, qb14, qb15, ν, κ, ο, γ, ω, ρ, χ, π, δ, ξ, υ, α, μ, β, η, τ, sln, fn1, fn2, z0, Tree.vc, PE.den, E.den, dens, BO.ev, List.getElem?_cons_zero, List.getElem?_cons_succ, List.cons_append, List.nil_append, Option.some.injEq, D.i.injEq, D.t.injEq, exists_eq_left', exists_const, forall_const, forall_eq', one_ne, one_eq, zero_ne, zero_eq, min_i64, max_i64, min_u8, max_u8, and_true, true_and, Decidable.not_not]
  intro i h0 h1
  rcases (show i < 8 ∨ 8 ≤ i by omega) with h8 | h8
  · rcases eight (by omega) h8 with rfl | rfl | rfl | rfl | rfl | rfl | rfl | rfl <;> first | (exfalso; omega) | simp [tupd]
  · have n0 : ¬ i = 0 := by omega
    have n1 : ¬ i = 1 := by omega
    have n2 : ¬ i = 2 := by omega
    have n3 : ¬ i = 3 := by omega
    have n4 : ¬ i = 4 := by omega
    have n5 : ¬ i = 5 := by omega
    have n6 : ¬ i = 6 := by omega
    have n7 : ¬ i = 7 := by omega
    simp [tupd, n0, n1, n2, n3, n4, n5, n6, n7]
    omega
set_option maxHeartbeats 4000000 in
theorem vSt14 : ∀ ds, Sorts st14.sorts ds → tSt14.vc (AI N) ds := by
  refine all_n ?_
  set_option linter.unusedSimpArgs false in
  simp (config := { maxSteps := 10000000 }) only [tSt14, pb0, pb1, eb2, eb3, pb4, qb5, eb7, eb8, qb14, qb15, eb16, ν, κ, ο, γ, ω, ρ, χ, π, δ, ξ, υ, α, μ, β, η, τ, sln, fn1, fn2, z0, Tree.vc, PE.den, E.den, dens, BO.ev, List.getElem?_cons_zero, List.getElem?_cons_succ, List.cons_append, List.nil_append, Option.some.injEq, D.i.injEq, D.t.injEq, exists_eq_left', exists_const, forall_const, forall_eq', one_ne, one_eq, zero_ne, zero_eq, min_i64, max_i64, min_u8, max_u8, and_true, true_and, Decidable.not_not]
  intro i h0 h1
  rcases (show i < 8 ∨ 8 ≤ i by omega) with h8 | h8
  · rcases eight (by omega) h8 with rfl | rfl | rfl | rfl | rfl | rfl | rfl | rfl <;> first | (exfalso; omega) | simp [tupd]
  · have n0 : ¬ i = 0 := by omega
    have n1 : ¬ i = 1 := by omega
    have n2 : ¬ i = 2 := by omega
    have n3 : ¬ i = 3 := by omega
    have n4 : ¬ i = 4 := by omega
    have n5 : ¬ i = 5 := by omega
    have n6 : ¬ i = 6 := by omega
    have n7 : ¬ i = 7 := by omega
    simp [tupd, n0, n1, n2, n3, n4, n5, n6, n7]
    omega
set_option maxHeartbeats 4000000 in
theorem vSt15 : ∀ ds, Sorts st15.sorts ds → tSt15.vc (AI N) ds := by
  refine all_n ?_
  set_option linter.unusedSimpArgs false in
  simp (config := { maxSteps := 10000000 }) only [tSt15, pb0, pb1, eb2, eb3, pb4, qb5, eb7, eb8, qb15, eb16, ν, κ, ο, γ, ω, ρ, χ, π, δ, ξ, υ, α, μ, β, η, τ, sln, fn1, fn2, z0, Tree.vc, PE.den, E.den, dens, BO.ev, List.getElem?_cons_zero, List.getElem?_cons_succ, List.cons_append, List.nil_append, Option.some.injEq, D.i.injEq, D.t.injEq, exists_eq_left', exists_const, forall_const, forall_eq', one_ne, one_eq, zero_ne, zero_eq, min_i64, max_i64, min_u8, max_u8, and_true, true_and, Decidable.not_not]
  intro i h0 h1
  rcases (show i < 8 ∨ 8 ≤ i by omega) with h8 | h8
  · rcases eight (by omega) h8 with rfl | rfl | rfl | rfl | rfl | rfl | rfl | rfl <;> first | (exfalso; omega) | simp [tupd]
  · have n0 : ¬ i = 0 := by omega
    have n1 : ¬ i = 1 := by omega
    have n2 : ¬ i = 2 := by omega
    have n3 : ¬ i = 3 := by omega
    have n4 : ¬ i = 4 := by omega
    have n5 : ¬ i = 5 := by omega
    have n6 : ¬ i = 6 := by omega
    have n7 : ¬ i = 7 := by omega
    simp [tupd, n0, n1, n2, n3, n4, n5, n6, n7]
    omega
set_option maxHeartbeats 4000000 in
theorem vSt19 : ∀ ds, Sorts st19.sorts ds → tSt19.vc (AI N) ds := by
  refine all_n ?_
  set_option linter.unusedSimpArgs false in
  simp (config := { maxSteps := 10000000 }) only [tSt19, pb0, pb1, eb2, eb3, pb4, qb5, eb7, eb11, eb12, qb14, qb15, ν, κ, ο, γ, ω, ρ, χ, π, δ, ξ, υ, α, μ, β, η, τ, sln, fn1, fn2, z0, Tree.vc, PE.den, E.den, dens, BO.ev, List.getElem?_cons_zero, List.getElem?_cons_succ, List.cons_append, List.nil_append, Option.some.injEq, D.i.injEq, D.t.injEq, exists_eq_left', exists_const, forall_const, forall_eq', one_ne, one_eq, zero_ne, zero_eq, min_i64, max_i64, min_u8, max_u8, and_true, true_and, Decidable.not_not]
  intro i h0 h1
  rcases (show i < 8 ∨ 8 ≤ i by omega) with h8 | h8
  · rcases eight (by omega) h8 with rfl | rfl | rfl | rfl | rfl | rfl | rfl | rfl <;> first | (exfalso; omega) | simp [tupd]
  · have n0 : ¬ i = 0 := by omega
    have n1 : ¬ i = 1 := by omega
    have n2 : ¬ i = 2 := by omega
    have n3 : ¬ i = 3 := by omega
    have n4 : ¬ i = 4 := by omega
    have n5 : ¬ i = 5 := by omega
    have n6 : ¬ i = 6 := by omega
    have n7 : ¬ i = 7 := by omega
    simp [tupd, n0, n1, n2, n3, n4, n5, n6, n7]
    omega
set_option maxHeartbeats 4000000 in
theorem vSt20 : ∀ ds, Sorts st20.sorts ds → tSt20.vc (AI N) ds := by
  refine all_n ?_
  set_option linter.unusedSimpArgs false in
  simp (config := { maxSteps := 10000000 }) only [tSt20, pb0, pb1, eb2, eb3, pb4, qb5, eb7, eb11, qb14, eb17, ν, κ, ο, γ, ω, ρ, χ, π, δ, ξ, υ, α, μ, β, η, τ, sln, fn1, fn2, z0, Tree.vc, PE.den, E.den, dens, BO.ev, List.getElem?_cons_zero, List.getElem?_cons_succ, List.cons_append, List.nil_append, Option.some.injEq, D.i.injEq, D.t.injEq, exists_eq_left', exists_const, forall_const, forall_eq', one_ne, one_eq, zero_ne, zero_eq, min_i64, max_i64, min_u8, max_u8, and_true, true_and, Decidable.not_not]
  intro i h0 h1
  rcases (show i < 8 ∨ 8 ≤ i by omega) with h8 | h8
  · rcases eight (by omega) h8 with rfl | rfl | rfl | rfl | rfl | rfl | rfl | rfl <;> first | (exfalso; omega) | simp [tupd]
  · have n0 : ¬ i = 0 := by omega
    have n1 : ¬ i = 1 := by omega
    have n2 : ¬ i = 2 := by omega
    have n3 : ¬ i = 3 := by omega
    have n4 : ¬ i = 4 := by omega
    have n5 : ¬ i = 5 := by omega
    have n6 : ¬ i = 6 := by omega
    have n7 : ¬ i = 7 := by omega
    simp [tupd, n0, n1, n2, n3, n4, n5, n6, n7]
    omega
set_option maxHeartbeats 4000000 in
theorem vSt21 : ∀ ds, Sorts st21.sorts ds → tSt21.vc (AI N) ds := by
  refine all_n ?_
  set_option linter.unusedSimpArgs false in
  simp (config := { maxSteps := 10000000 }) only [tSt21, pb0, pb1, eb2, eb3, pb4, qb5, eb7, eb11, qb15, eb17, ν, κ, ο, γ, ω, ρ, χ, π, δ, ξ, υ, α, μ, β, η, τ, sln, fn1, fn2, z0, Tree.vc, PE.den, E.den, dens, BO.ev, List.getElem?_cons_zero, List.getElem?_cons_succ, List.cons_append, List.nil_append, Option.some.injEq, D.i.injEq, D.t.injEq, exists_eq_left', exists_const, forall_const, forall_eq', one_ne, one_eq, zero_ne, zero_eq, min_i64, max_i64, min_u8, max_u8, and_true, true_and, Decidable.not_not]
  intro i h0 h1
  rcases (show i < 8 ∨ 8 ≤ i by omega) with h8 | h8
  · rcases eight (by omega) h8 with rfl | rfl | rfl | rfl | rfl | rfl | rfl | rfl <;> first | (exfalso; omega) | simp [tupd]
  · have n0 : ¬ i = 0 := by omega
    have n1 : ¬ i = 1 := by omega
    have n2 : ¬ i = 2 := by omega
    have n3 : ¬ i = 3 := by omega
    have n4 : ¬ i = 4 := by omega
    have n5 : ¬ i = 5 := by omega
    have n6 : ¬ i = 6 := by omega
    have n7 : ¬ i = 7 := by omega
    simp [tupd, n0, n1, n2, n3, n4, n5, n6, n7]
    omega
set_option maxHeartbeats 4000000 in
theorem vSt24 : ∀ ds, Sorts st24.sorts ds → tSt24.vc (AI N) ds := by
  refine all_n ?_
  set_option linter.unusedSimpArgs false in
  simp (config := { maxSteps := 10000000 }) only [tSt24, pb0, pb1, eb2, eb3, pb4, qb5, eb7, eb8, eb9, eb13, qb14, qb15, ν, κ, ο, γ, ω, ρ, χ, π, δ, ξ, υ, α, μ, β, η, τ, sln, fn1, fn2, z0, Tree.vc, PE.den, E.den, dens, BO.ev, List.getElem?_cons_zero, List.getElem?_cons_succ, List.cons_append, List.nil_append, Option.some.injEq, D.i.injEq, D.t.injEq, exists_eq_left', exists_const, forall_const, forall_eq', one_ne, one_eq, zero_ne, zero_eq, min_i64, max_i64, min_u8, max_u8, and_true, true_and, Decidable.not_not]
  intro i h0 h1
  rcases (show i < 8 ∨ 8 ≤ i by omega) with h8 | h8
  · rcases eight (by omega) h8 with rfl | rfl | rfl | rfl | rfl | rfl | rfl | rfl <;> first | (exfalso; omega) | simp [tupd]
  · have n0 : ¬ i = 0 := by omega
    have n1 : ¬ i = 1 := by omega
    have n2 : ¬ i = 2 := by omega
    have n3 : ¬ i = 3 := by omega
    have n4 : ¬ i = 4 := by omega
    have n5 : ¬ i = 5 := by omega
    have n6 : ¬ i = 6 := by omega
    have n7 : ¬ i = 7 := by omega
    simp [tupd, n0, n1, n2, n3, n4, n5, n6, n7]
    omega
set_option maxHeartbeats 4000000 in
theorem vSt25 : ∀ ds, Sorts st25.sorts ds → tSt25.vc (AI N) ds := by
  refine all_n ?_
  set_option linter.unusedSimpArgs false in
  simp (config := { maxSteps := 10000000 }) only [tSt25, pb0, pb1, eb2, eb3, pb4, qb5, eb7, eb8, qb14, qb15, eb16, ν, κ, ο, γ, ω, ρ, χ, π, δ, ξ, υ, α, μ, β, η, τ, sln, fn1, fn2, z0, Tree.vc, PE.den, E.den, dens, BO.ev, List.getElem?_cons_zero, List.getElem?_cons_succ, List.cons_append, List.nil_append, Option.some.injEq, D.i.injEq, D.t.injEq, exists_eq_left', exists_const, forall_const, forall_eq', one_ne, one_eq, zero_ne, zero_eq, min_i64, max_i64, min_u8, max_u8, and_true, true_and, Decidable.not_not]
  intro i h0 h1
  rcases (show i < 8 ∨ 8 ≤ i by omega) with h8 | h8
  · rcases eight (by omega) h8 with rfl | rfl | rfl | rfl | rfl | rfl | rfl | rfl <;> first | (exfalso; omega) | simp [tupd]
  · have n0 : ¬ i = 0 := by omega
    have n1 : ¬ i = 1 := by omega
    have n2 : ¬ i = 2 := by omega
    have n3 : ¬ i = 3 := by omega
    have n4 : ¬ i = 4 := by omega
    have n5 : ¬ i = 5 := by omega
    have n6 : ¬ i = 6 := by omega
    have n7 : ¬ i = 7 := by omega
    simp [tupd, n0, n1, n2, n3, n4, n5, n6, n7]
    omega
set_option maxHeartbeats 4000000 in
theorem vSt26 : ∀ ds, Sorts st26.sorts ds → tSt26.vc (AI N) ds := by
  refine all_n ?_
  set_option linter.unusedSimpArgs false in
  simp (config := { maxSteps := 10000000 }) only [tSt26, pb0, pb1, eb2, eb3, pb4, qb5, eb7, eb8, qb15, eb16, ν, κ, ο, γ, ω, ρ, χ, π, δ, ξ, υ, α, μ, β, η, τ, sln, fn1, fn2, z0, Tree.vc, PE.den, E.den, dens, BO.ev, List.getElem?_cons_zero, List.getElem?_cons_succ, List.cons_append, List.nil_append, Option.some.injEq, D.i.injEq, D.t.injEq, exists_eq_left', exists_const, forall_const, forall_eq', one_ne, one_eq, zero_ne, zero_eq, min_i64, max_i64, min_u8, max_u8, and_true, true_and, Decidable.not_not]
  intro i h0 h1
  rcases (show i < 8 ∨ 8 ≤ i by omega) with h8 | h8
  · rcases eight (by omega) h8 with rfl | rfl | rfl | rfl | rfl | rfl | rfl | rfl <;> first | (exfalso; omega) | simp [tupd]
  · have n0 : ¬ i = 0 := by omega
    have n1 : ¬ i = 1 := by omega
    have n2 : ¬ i = 2 := by omega
    have n3 : ¬ i = 3 := by omega
    have n4 : ¬ i = 4 := by omega
    have n5 : ¬ i = 5 := by omega
    have n6 : ¬ i = 6 := by omega
    have n7 : ¬ i = 7 := by omega
    simp [tupd, n0, n1, n2, n3, n4, n5, n6, n7]
    omega
theorem zfill_step {i : Int} (h : 0 ≤ i) : tupd (zfill i) i 2 (-1) = zfill (i + 1) := by
  funext r c
  unfold tupd zfill
  by_cases hc : c = 2
  · by_cases hr : r = i
    · simp [hc, hr]; omega
    · simp only [hr, hc, and_true, if_false]
      by_cases h1 : 0 ≤ r ∧ r < i
      · rw [if_pos h1, if_pos (by omega)]
      · rw [if_neg h1, if_neg (by omega)]
  · simp [hc]
theorem zfill_zero : zfill 0 = fun _ _ => 0 := by
  funext r c
  unfold zfill
  rw [if_neg (by omega)]
theorem six (c : Nat) : c = 0 ∨ c = 1 ∨ c = 2 ∨ c = 3 ∨ c = 4 ∨ c = 5 ∨ 6 ≤ c := by omega
theorem kz (c : Nat) : ([0, 0, -1, 0, 0, 0, 0, 0, 0, 0, 0, 0, 0, 0, 0, 0, 0, 0, 0, 0, 0, 0, 0, 0, 0, 0, 0, 0, 0, 0, 0, 0, 0, 0, 0, 0, 0, 0, 0, 0, 0, 0, 0, 0, 0, 0, 0, 0, 0, 0, 0, 0, 0, 0, 0, 0, 0, 0, 0, 0, 0, 0, 0, 0, 0, 0, 0, 0, 0, 0] : List Int).getD c 0 = if c = 2 then -1 else 0 := by
  by_cases h : c < 70
  · have : ∀ k : Fin 70, ([0, 0, -1, 0, 0, 0, 0, 0, 0, 0, 0, 0, 0, 0, 0, 0, 0, 0, 0, 0, 0, 0, 0, 0, 0, 0, 0, 0, 0, 0, 0, 0, 0, 0, 0, 0, 0, 0, 0, 0, 0, 0, 0, 0, 0, 0, 0, 0, 0, 0, 0, 0, 0, 0, 0, 0, 0, 0, 0, 0, 0, 0, 0, 0, 0, 0, 0, 0, 0, 0] : List Int).getD k.val 0 = if k.val = 2 then -1 else 0 := by decide
    exact this ⟨c, h⟩
  · rw [List.getD_eq_getElem?_getD, List.getElem?_eq_none (by simp; omega), if_neg (by omega)]; rfl
set_option maxHeartbeats 4000000 in
theorem vSt10 : ∀ ds, Sorts st10.sorts ds → tSt10.vc (AI N) ds := by
  refine all_n ?_
  set_option linter.unusedSimpArgs false in
  simp (config := { maxSteps := 10000000 }) only [tSt10, pb0, pb1, eb2, eb3, pb4, qb5, qb6, eb7, eb8, eb9, eb10, ν, κ, ο, γ, ω, ρ, χ, π, δ, ξ, υ, α, μ, β, η, τ, sln, fn1, fn2, z0, Tree.vc, PE.den, E.den, dens, BO.ev, List.getElem?_cons_zero, List.getElem?_cons_succ, List.cons_append, List.nil_append, Option.some.injEq, D.i.injEq, D.t.injEq, exists_eq_left', exists_const, forall_const, forall_eq', one_ne, one_eq, zero_ne, zero_eq, min_i64, max_i64, min_u8, max_u8, and_true, true_and, Decidable.not_not, S5]
  refine ⟨zfill_zero, fun i T h0 h1 _ => ⟨fun h2 => ⟨by omega, by omega, by omega, (zfill_step h0).symm, by omega, by omega⟩, fun h2 => ⟨_, _, _, rfl, rfl, rfl, fun r c hr hx hc => ?_⟩⟩⟩
  obtain rfl : i = 1024 := by omega
  rcases (show r < 8 ∨ 8 ≤ r by omega) with h8 | h8
  · rcases six c with rfl | rfl | rfl | rfl | rfl | rfl | h6
    all_goals try (rcases eight hr h8 with rfl | rfl | rfl | rfl | rfl | rfl | rfl | rfl <;> simp [tupd, zfill]; done)
    have d0 : ¬ c = 0 := by omega
    have d1 : ¬ c = 1 := by omega
    have d2 : ¬ c = 2 := by omega
    have d3 : ¬ c = 3 := by omega
    have d4 : ¬ c = 4 := by omega
    have d5 : ¬ c = 5 := by omega
    simp only [tupd, d0, d1, d2, d3, d4, d5, and_false, if_false, kz, zfill]
  · have n0 : ¬ r = 0 := by omega
    have n1 : ¬ r = 1 := by omega
    have n2 : ¬ r = 2 := by omega
    have n3 : ¬ r = 3 := by omega
    have n4 : ¬ r = 4 := by omega
    have n5 : ¬ r = 5 := by omega
    have n6 : ¬ r = 6 := by omega
    have n7 : ¬ r = 7 := by omega
    simp only [tupd, n0, n1, n2, n3, n4, n5, n6, n7, false_and, if_false, kz, zfill]
    by_cases hc2 : c = 2
    · rw [if_pos hc2, if_pos ⟨hr, hx, hc2⟩]
    · rw [if_neg hc2, if_neg (by omega)]
set_option maxHeartbeats 4000000 in
theorem vSt12 : ∀ ds, Sorts st12.sorts ds → tSt12.vc (AI N) ds := by
  refine all_n ?_
  set_option linter.unusedSimpArgs false in
  simp (config := { maxSteps := 10000000 }) only [tSt12, pb0, pb1, eb2, eb3, pb4, qb5, qb6, eb7, eb8, eb9, eb10, ν, κ, ο, γ, ω, ρ, χ, π, δ, ξ, υ, α, μ, β, η, τ, sln, fn1, fn2, z0, Tree.vc, PE.den, E.den, dens, BO.ev, List.getElem?_cons_zero, List.getElem?_cons_succ, List.cons_append, List.nil_append, Option.some.injEq, D.i.injEq, D.t.injEq, exists_eq_left', exists_const, forall_const, forall_eq', one_ne, one_eq, zero_ne, zero_eq, min_i64, max_i64, min_u8, max_u8, and_true, true_and, Decidable.not_not, S5]
  refine ⟨zfill_zero, fun i T h0 h1 _ => ⟨fun h2 => ⟨by omega, by omega, by omega, (zfill_step h0).symm, by omega, by omega⟩, fun h2 => ⟨_, _, _, rfl, rfl, rfl, fun r c hr hx hc => ?_⟩⟩⟩
  obtain rfl : i = 1024 := by omega
  rcases (show r < 8 ∨ 8 ≤ r by omega) with h8 | h8
  · rcases six c with rfl | rfl | rfl | rfl | rfl | rfl | h6
    all_goals try (rcases eight hr h8 with rfl | rfl | rfl | rfl | rfl | rfl | rfl | rfl <;> simp [tupd, zfill]; done)
    have d0 : ¬ c = 0 := by omega
    have d1 : ¬ c = 1 := by omega
    have d2 : ¬ c = 2 := by omega
    have d3 : ¬ c = 3 := by omega
    have d4 : ¬ c = 4 := by omega
    have d5 : ¬ c = 5 := by omega
    simp only [tupd, d0, d1, d2, d3, d4, d5, and_false, if_false, kz, zfill]
  · have n0 : ¬ r = 0 := by omega
    have n1 : ¬ r = 1 := by omega
    have n2 : ¬ r = 2 := by omega
    have n3 : ¬ r = 3 := by omega
    have n4 : ¬ r = 4 := by omega
    have n5 : ¬ r = 5 := by omega
    have n6 : ¬ r = 6 := by omega
    have n7 : ¬ r = 7 := by omega
    simp only [tupd, n0, n1, n2, n3, n4, n5, n6, n7, false_and, if_false, kz, zfill]
    by_cases hc2 : c = 2
    · rw [if_pos hc2, if_pos ⟨hr, hx, hc2⟩]
    · rw [if_neg hc2, if_neg (by omega)]
set_option maxHeartbeats 4000000 in
theorem vSt18 : ∀ ds, Sorts st18.sorts ds → tSt18.vc (AI N) ds := by
  refine all_n ?_
  set_option linter.unusedSimpArgs false in
  simp (config := { maxSteps := 10000000 }) only [tSt18, pb0, pb1, eb2, eb3, pb4, qb5, qb6, eb7, eb10, eb11, eb12, ν, κ, ο, γ, ω, ρ, χ, π, δ, ξ, υ, α, μ, β, η, τ, sln, fn1, fn2, z0, Tree.vc, PE.den, E.den, dens, BO.ev, List.getElem?_cons_zero, List.getElem?_cons_succ, List.cons_append, List.nil_append, Option.some.injEq, D.i.injEq, D.t.injEq, exists_eq_left', exists_const, forall_const, forall_eq', one_ne, one_eq, zero_ne, zero_eq, min_i64, max_i64, min_u8, max_u8, and_true, true_and, Decidable.not_not, S5]
  refine ⟨zfill_zero, fun i T h0 h1 _ => ⟨fun h2 => ⟨by omega, by omega, by omega, (zfill_step h0).symm, by omega, by omega⟩, fun h2 => ⟨_, _, _, rfl, rfl, rfl, fun r c hr hx hc => ?_⟩⟩⟩
  obtain rfl : i = 1024 := by omega
  rcases (show r < 8 ∨ 8 ≤ r by omega) with h8 | h8
  · rcases six c with rfl | rfl | rfl | rfl | rfl | rfl | h6
    all_goals try (rcases eight hr h8 with rfl | rfl | rfl | rfl | rfl | rfl | rfl | rfl <;> simp [tupd, zfill]; done)
    have d0 : ¬ c = 0 := by omega
    have d1 : ¬ c = 1 := by omega
    have d2 : ¬ c = 2 := by omega
    have d3 : ¬ c = 3 := by omega
    have d4 : ¬ c = 4 := by omega
    have d5 : ¬ c = 5 := by omega
    simp only [tupd, d0, d1, d2, d3, d4, d5, and_false, if_false, kz, zfill]
  · have n0 : ¬ r = 0 := by omega
    have n1 : ¬ r = 1 := by omega
    have n2 : ¬ r = 2 := by omega
    have n3 : ¬ r = 3 := by omega
    have n4 : ¬ r = 4 := by omega
    have n5 : ¬ r = 5 := by omega
    have n6 : ¬ r = 6 := by omega
    have n7 : ¬ r = 7 := by omega
    simp only [tupd, n0, n1, n2, n3, n4, n5, n6, n7, false_and, if_false, kz, zfill]
    by_cases hc2 : c = 2
    · rw [if_pos hc2, if_pos ⟨hr, hx, hc2⟩]
    · rw [if_neg hc2, if_neg (by omega)]
set_option maxHeartbeats 4000000 in
theorem vSt11 : ∀ ds, Sorts st11b.sorts ds → tSt11.vc (AI N) ds := by
  refine all_n ?_
  set_option linter.unusedSimpArgs false in
  simp (config := { maxSteps := 10000000 }) only [tSt11, pb0, pb1, eb2, eb3, pb4, qb5, eb7, eb8, eb9, eb13, eb18, eb19, eb20, eb21, eb22, eb23, qb24, ν, κ, ο, γ, ω, ρ, χ, π, δ, ξ, υ, α, μ, β, η, τ, sln, fn1, fn2, z0, Tree.vc, PE.den, E.den, dens, BO.ev, List.getElem?_cons_zero, List.getElem?_cons_succ, List.cons_append, List.nil_append, Option.some.injEq, D.i.injEq, D.t.injEq, exists_eq_left', exists_const, forall_const, forall_eq', one_ne, one_eq, zero_ne, zero_eq, min_i64, max_i64, min_u8, max_u8, and_true, true_and, Decidable.not_not]
  intro i a b c h0 h1 _ _ _
  refine ⟨fun h2 => ?_, fun h2 => ?_⟩
  · rcases (show i < 8 ∨ 8 ≤ i by omega) with h8 | h8
    · rcases eight (by omega) h8 with rfl | rfl | rfl | rfl | rfl | rfl | rfl | rfl <;> simp [tupd]
    · have n0 : ¬ i = 0 := by omega
      have n1 : ¬ i = 1 := by omega
      have n2 : ¬ i = 2 := by omega
      have n3 : ¬ i = 3 := by omega
      have n4 : ¬ i = 4 := by omega
      have n5 : ¬ i = 5 := by omega
      have n6 : ¬ i = 6 := by omega
      have n7 : ¬ i = 7 := by omega
      simp [tupd, n0, n1, n2, n3, n4, n5, n6, n7]
      omega
  · obtain rfl : i = 1024 := by omega
    simp
end Go.Au
namespace Go.Au
open Go Go.Sx Go.Lib Go.Mg
variable {N : Nat}
theorem line_own : lineL 11 1 2 3 = [111, 119, 110, 32, 49, 32, 50, 32, 51, 10] := by
  unfold lineL
  rw [itoa_small (n := 1) (by omega) (by omega), itoa_small (n := 2) (by omega) (by omega), itoa_small (n := 3) (by omega) (by omega)]
  rfl
theorem text_own : (26453827147862625467448 : Int) = senc [111, 119, 110, 32, 49, 32, 50, 32, 51, 10] := by kernel_rfl
theorem vAwake : ∀ ds, Sorts cAwake.sorts ds → tAwake.vc (AI N) ds := by
  refine all_n ?_
  set_option linter.unusedSimpArgs false in
  simp (config := { maxSteps := 10000000 }) only [tAwake, ec0, ν, κ, ο, γ, ω, ρ, χ, π, δ, ξ, υ, α, μ, β, η, τ, sln, fn1, fn2, z0, Tree.vc, PE.den, E.den, dens, BO.ev, List.getElem?_cons_zero, List.getElem?_cons_succ, List.cons_append, List.nil_append, Option.some.injEq, D.i.injEq, D.t.injEq, exists_eq_left', exists_const, forall_const, forall_eq', one_ne, one_eq, zero_ne, zero_eq, min_i64, max_i64, min_u8, max_u8, and_true, true_and, Decidable.not_not, P1, P3]
  intro _ _ _ _ _ _
  refine ⟨fun r h0 h1 => ?_, fun s e h => ?_⟩
  · obtain rfl : r = 0 := by omega
    simp [tupd, I64]
  · have hk : Kinds (tupd (tupd (tupd (tupd (fun _ _ => 0) 0 0 11) 0 1 1) 0 2 2) 0 3 3) 1 := fun r h0 h1 => by
      obtain rfl : r = 0 := by omega
      simp [tupd]
    have ht : txt (tupd (tupd (tupd (tupd (fun _ _ => 0) 0 0 11) 0 1 1) 0 2 2) 0 3 3) 1 = 26453827147862625467448 := by
      rw [text_own, ← line_own]
      show senc ([] ++ lineL _ _ _ _) = _
      simp [tupd]
    rcases h with ⟨_, rfl, rfl⟩ | ⟨h, _⟩
    · exact ⟨fun h => h rfl, fun _ => ⟨fun h => h ht, fun _ => trivial⟩⟩
    · exact absurd hk h
theorem vLaw : ∀ ds, Sorts cLaw.sorts ds → tLaw.vc (AI N) ds := by
  refine all_t fun T => all_i fun n => all_n ?_
  set_option linter.unusedSimpArgs false in
  simp (config := { maxSteps := 10000000 }) only [tLaw, ν, κ, ο, γ, ω, ρ, χ, π, δ, ξ, υ, α, μ, β, η, τ, sln, fn1, fn2, z0, Tree.vc, PE.den, E.den, dens, BO.ev, List.getElem?_cons_zero, List.getElem?_cons_succ, List.cons_append, List.nil_append, Option.some.injEq, D.i.injEq, D.t.injEq, exists_eq_left', exists_const, forall_const, forall_eq', one_ne, one_eq, zero_ne, zero_eq, min_i64, max_i64, min_u8, max_u8, and_true, true_and, Decidable.not_not, P1, P3]
  intro h0 _ _
  refine ⟨fun _ => trivial, fun _ s e h s' e' h' => ?_⟩
  obtain ⟨rfl, rfl⟩ : s = s' ∧ e = e' := by
    rcases h with ⟨hk, rfl, rfl⟩ | ⟨hk, rfl, rfl⟩ <;> rcases h' with ⟨hk', rfl, rfl⟩ | ⟨hk', rfl, rfl⟩
    · exact ⟨rfl, rfl⟩
    · exact absurd hk hk'
    · exact absurd hk' hk
    · exact ⟨rfl, rfl⟩
  exact ⟨fun _ => ⟨fun _ => trivial, fun h => h rfl⟩, fun h => h rfl⟩
end Go.Au
