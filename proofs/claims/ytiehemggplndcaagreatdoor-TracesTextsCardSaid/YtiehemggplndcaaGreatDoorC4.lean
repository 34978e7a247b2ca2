/-
  The formulas of the contracts hold: programs are checked. Conditions: none; nothing here speaks of a program.
-/
import Derived.Test.YtiehemggplndcaaGreatDoorC1
namespace Go.Tt
open Go Go.Sx Go.Lib Go.Sf
variable {N : Nat}
set_option maxHeartbeats 4000000 in
theorem vChk : ∀ ds, Sorts cChk.sorts ds → tChk.vc (TI N) ds := by
  refine all_t fun T => all_i fun n => all_i fun i => all_t fun M => all_i fun mm => all_n ?_
  set_option linter.unusedSimpArgs false in
  simp (config := { maxSteps := 10000000 }) only [tChk, e34, p80, e141, e142, e143, e144, e417, e430, p594, p595, e596, e597, e598, e599, e600, e601, e602, e603, p605, e606, e607, e608, p635, e750, q751, e752, e753, e754, e755, q756, q757, q758, q759, q760, e761, Tree.vc, PE.den, E.den, dens, BO.ev, List.getElem?_cons_zero, List.getElem?_cons_succ, List.cons_append, List.nil_append, Option.some.injEq, D.i.injEq, D.t.injEq, exists_eq_left', exists_const, forall_const, forall_eq', one_ne, one_eq, zero_ne, zero_eq, min_i64, max_i64, min_u8, max_u8, and_true, true_and, Decidable.not_not, S3, S5, S6, S7, S8, S9, S10, S11, S12, S20, S1000, S1001, S1002, S1003, S1004, S1005, S1010, S1011, P10, P11, P12, P13, P14, P15, P16, P17, P20, P21, P22, P30, P31, P32, P33, P34, P35, P36, P37, P38, S13, S14, S15, S1008, S1009, P23, P40, P41, P42, P43, P44, P45, P46, P47, P48, P49, P50, P51, P52, P53, P54, P55, P56, P57, P58, P59, P60, P61, P62, P63, P64, P65, P66, P67, P68, P69, P70, P71, P72, P80, P73, P74, P81, P82, P83, P84]
  intro i0 i1 hT m0 e he
  refine ⟨fun h => ?_, fun h => ?_⟩
  · have he : e = stepE (T i 0) (sdec (T i 1)) (sdec (T i 2)) (T i 3) (T i 4) (T i 5) (T i 6) (T i 7) := he
    unfold ChkM
    rw [← he, name_e h]
  · subst h
    have ho : OkP (T i 0) (T i 1) (T i 2) (T i 3) (T i 4) (T i 5) (T i 6) (T i 7) := he.symm
    have hF := okF ho
    have k1 := hF.k1
    have k13 := hF.k13
    have hc : ∀ q, ChkM M mm (T i 0) (T i 1) (T i 2) (T i 3) (T i 4) (T i 5) (T i 6) (T i 7) q ↔ q = nameE (InM M mm 1 (T i 1) 0) (InM M mm (kof (T i 0).toNat) (T i 1) (T i 2)) (T i 0) 0 := fun q => by
      unfold ChkM
      have ho : stepE (T i 0) (sdec (T i 1)) (sdec (T i 2)) (T i 3) (T i 4) (T i 5) (T i 6) (T i 7) = 0 := ho
      rw [ho]
    simp only [colAr k1 k13, colNm k1 k13, colOf k1 k13, find_ar m0, find_nm m0, hc]
    clear he ho hF hT hc
    generalize InM M mm 1 (T i 1) 0 = A
    generalize InM M mm (kof (T i 0).toNat) (T i 1) (T i 2) = B
    generalize T i 0 = k at *
    have hA := kar_le k.toNat
    have hB := knm_le k.toNat
    have c8 : (kar k.toNat = 1 ∧ A) ∨ (knm k.toNat = 1 ∧ B) → (8 : Int) = nameE A B k 0 := fun h => (name_8 h).symm
    have c4 : ¬ ((kar k.toNat = 1 ∧ A) ∨ (knm k.toNat = 1 ∧ B)) → (kar k.toNat = 2 ∧ ¬ A) ∨ (knm k.toNat = 2 ∧ ¬ B) → (4 : Int) = nameE A B k 0 := fun h h2 => (name_4 h h2).symm
    have c0 : ¬ ((kar k.toNat = 1 ∧ A) ∨ (knm k.toNat = 1 ∧ B)) → ¬ ((kar k.toNat = 2 ∧ ¬ A) ∨ (knm k.toNat = 2 ∧ ¬ B)) → (0 : Int) = nameE A B k 0 := fun h h2 => (name_0 h h2).symm
    generalize nameE A B k 0 = q at *
    generalize kar k.toNat = a at *
    generalize knm k.toNat = b at *
    refine ⟨by omega, by omega, ?_⟩
    clear k1 k13 i0 i1 m0
    have ha : a = 0 ∨ a = 1 ∨ a = 2 := by omega
    have hb : b = 0 ∨ b = 1 ∨ b = 2 := by omega
    clear hA hB
    rcases ha with rfl | rfl | rfl <;> rcases hb with rfl | rfl | rfl <;> by_cases hA : A <;> by_cases hB : B <;> simp [hA, hB] at c8 c4 c0 ⊢ <;> omega
theorem chk_rng {L A K : Int} {T : Tb} {n : Int} (hn : ¬ 500 < n) (h : ¬ right L A K) : ChkP L A K T n (-1) 7 := .inr (.inl ⟨by omega, h, rfl, rfl⟩)
set_option maxHeartbeats 4000000 in
theorem vCheck : ∀ ds, Sorts (cCheck 14).sorts ds → tCheck.vc (TI N) ds := by
  refine all_i fun L => all_i fun A => all_i fun K => all_t fun T => all_i fun n => all_n ?_
  set_option linter.unusedSimpArgs false in
  simp (config := { maxSteps := 10000000 }) only [tCheck, e11, e17, e34, e72, p80, p81, e94, e99, p100, p101, p115, e127, p128, e140, e141, e142, e143, e144, p304, e368, p369, e530, e586, e754, p762, p763, p764, q765, e766, e767, q768, p769, e770, e771, e772, e773, e774, e775, e776, e777, e778, p779, e780, e781, p782, e783, e784, e785, e786, e787, q788, q789, e790, q791, q792, q793, Tree.vc, PE.den, E.den, dens, BO.ev, List.getElem?_cons_zero, List.getElem?_cons_succ, List.cons_append, List.nil_append, Option.some.injEq, D.i.injEq, D.t.injEq, exists_eq_left', exists_const, forall_const, forall_eq', one_ne, one_eq, zero_ne, zero_eq, min_i64, max_i64, min_u8, max_u8, and_true, true_and, Decidable.not_not, S3, S5, S6, S7, S8, S9, S10, S11, S12, S20, S1000, S1001, S1002, S1003, S1004, S1005, S1010, S1011, P10, P11, P12, P13, P14, P15, P16, P17, P20, P21, P22, P30, P31, P32, P33, P34, P35, P36, P37, P38, S13, S14, S15, S1008, S1009, P23, P40, P41, P42, P43, P44, P45, P46, P47, P48, P49, P50, P51, P52, P53, P54, P55, P56, P57, P58, P59, P60, P61, P62, P63, P64, P65, P66, P67, P68, P69, P70, P71, P72, P80, P73, P74, P81, P82, P83, P84]
  intro n0 _ hT _ _ _
  refine ⟨fun h => .inl ⟨h, rfl, rfl⟩, fun h5 => ⟨fun L0 => ⟨fun L1 => ⟨fun A0 => ⟨fun A1 => ⟨fun K0 => ⟨fun K1 => chk_rng h5 (by unfold right; omega), fun K1 => ⟨map_begin T, fun i M mm i0 i1 m0 hM => ⟨fun hi e he => ⟨fun h => ?_, fun h => ?_⟩, fun hi => ?_⟩⟩⟩, fun K0 => chk_rng h5 (by unfold right; omega)⟩, fun A1 => chk_rng h5 (by unfold right; omega)⟩, fun A0 => chk_rng h5 (by unfold right; omega)⟩, fun L1 => chk_rng h5 (by unfold right; omega)⟩, fun L0 => chk_rng h5 (by unfold right; omega)⟩⟩
  · have ha := map_after hM he
    exact ⟨by omega, by omega, .inr (.inr ⟨by omega, ⟨⟨L0, L1⟩, ⟨A0, A1⟩, ⟨K0, K1⟩⟩, .inr ⟨i0, hi, h, ha, hM.1⟩⟩)⟩
  · subst h
    have ha := (map_after hM he).symm
    have ho : OkP (T i 0) (T i 1) (T i 2) (T i 3) (T i 4) (T i 5) (T i 6) (T i 7) := name_step ha
    have hF := okF ho
    have k1 := hF.k1
    have k13 := hF.k13
    simp only [colAr k1 k13, colNm k1 k13, colOf k1 k13]
    have mA := map_ar i0 m0 hM ha
    have mN := map_nm i0 m0 hM ha
    have m_ := map_none i0 hM ha
    have hx : ¬ (kar (T i 0).toNat = 1 ∧ knm (T i 0).toNat = 1) := fun ⟨h1, h2⟩ => by
      have := kar_1 h1
      have := knm_1 h2
      omega
    refine ⟨by omega, by omega, ?_⟩
    clear ho hF he k1 k13 ha hM
    have hc : ∀ p : Prop, [Decidable p] → 0 ≤ (if p then mm else mm + 1) := fun p _ => by split <;> omega
    repeat' with_reducible first | apply And.intro | intro _
    all_goals first
      | exact absurd ⟨by omega, by omega⟩ hx
      | omega
      | exact hc _
      | exact mA (by omega)
      | exact mN (by omega)
      | exact m_ (by omega) (by omega)
  · have : i = n := by omega
    subst this
    exact .inr (.inr ⟨by omega, ⟨⟨L0, L1⟩, ⟨A0, A1⟩, ⟨K0, K1⟩⟩, .inl ⟨rfl, rfl, hM.1⟩⟩)
end Go.Tt
namespace Go.Tt
open Go Go.Sx Go.Lib Go.Sf
variable {N : Nat}
theorem joinS_any {T : Tb} {ws : List (List UInt8)} {n sep : Int} (h : RowsS T ws n) : joinS T n sep = senc (Lib.join ws (sdec sep)) := by
  obtain ⟨rfl, h2⟩ := h
  unfold joinS
  congr 2
  apply List.ext_getElem?
  intro i
  rw [Int.toNat_natCast]
  rcases Nat.lt_or_ge i ws.length with hi | hi
  · rw [List.getElem?_map, List.getElem?_range hi, List.getElem?_eq_getElem hi]
    simp only [Option.map_some]
    rw [h2 i _ (List.getElem?_eq_getElem hi), sdec_senc]
  · rw [List.getElem?_eq_none hi, List.getElem?_eq_none (by simpa using hi)]
theorem short_any {T : Tb} {ws : List (List UInt8)} {n sep : Int} (h : RowsS T ws n) (hn : ws.length ≤ 1000) (hs : slen sep ≤ 1000) (hl : ∀ w ∈ ws, w.length ≤ 1000) : Short T n sep := by
  obtain ⟨rfl, h2⟩ := h
  refine ⟨by omega, hs, fun r hr => ?_⟩
  have hr' : r < ws.length := by omega
  rw [h2 r _ (List.getElem?_eq_getElem hr'), slen_senc]
  have := hl _ (List.getElem_mem hr')
  omega
theorem nl_join {T : Tb} {ws : List (List UInt8)} {n : Int} (h : RowsS T ws n) (hne : ws ≠ []) : scat (joinS T n (-6)) (-6) = senc (lnsW ws) ∧ slen (joinS T n (-6)) + 1 = ((lnsW ws).length : Nat) := by
  have hj := joinS_any (sep := -6) h
  rw [sdec_nl] at hj
  have e := join_lns hne
  rw [hj]
  constructor
  · rw [← e, nl_code, scat_senc]
  · rw [slen_senc, ← e]
    simp
set_option maxHeartbeats 4000000 in
theorem vPrint : ∀ ds, Sorts (cPrint 11).sorts ds → tPrint.vc (TI N) ds := by
  refine all_i fun L => all_i fun A => all_i fun K => all_t fun T => all_i fun n => all_n ?_
  set_option linter.unusedSimpArgs false in
  simp (config := { maxSteps := 10000000 }) only [tPrint, e11, e46, e58, e72, p80, p81, p128, e137, e207, e311, p312, p369, e372, e411, e586, p762, p763, p764, p779, p794, e795, q796, e797, e798, e799, e800, e801, e802, e803, e804, e805, e806, e807, Tree.vc, PE.den, E.den, dens, BO.ev, List.getElem?_cons_zero, List.getElem?_cons_succ, List.cons_append, List.nil_append, Option.some.injEq, D.i.injEq, D.t.injEq, exists_eq_left', exists_const, forall_const, forall_eq', one_ne, one_eq, zero_ne, zero_eq, min_i64, max_i64, min_u8, max_u8, and_true, true_and, Decidable.not_not, S3, S5, S6, S7, S8, S9, S10, S11, S12, S20, S1000, S1001, S1002, S1003, S1004, S1005, S1010, S1011, P10, P11, P12, P13, P14, P15, P16, P17, P20, P21, P22, P30, P31, P32, P33, P34, P35, P36, P37, P38, S13, S14, S15, S1008, S1009, P23, P40, P41, P42, P43, P44, P45, P46, P47, P48, P49, P50, P51, P52, P53, P54, P55, P56, P57, P58, P59, P60, P61, P62, P63, P64, P65, P66, P67, P68, P69, P70, P71, P72, P80, P73, P74, P81, P82, P83, P84]
  intro n0 _ hT hL hA hK st e _ _ hc
  refine ⟨fun h => ⟨by rw [slen_0]; omega, ⟨st, hc⟩, fun h0 => absurd h0 h, fun _ => rfl⟩, fun h => ?_⟩
  subst h
  obtain ⟨h5, hr, ho, rfl⟩ := chk_ok hc
  have hb := head_bare hL hA hK
  refine ⟨short_rows head_rows (by simp) fun w hw => ?_, ?_, fun i U m i0 i1 m0 m1 hI => ⟨fun hi => ⟨row_ok ho i0 hi, fun s hs hl => ⟨by omega, by omega, by omega, by omega, by omega, by omega, ?_, by omega, by omega⟩⟩, fun hi => ?_⟩⟩
  · have := (hb w hw).2.1
    omega
  · rw [head_join]
    exact rows1 rfl
  · have e1 : (i + 1).toNat = i.toNat + 1 := by omega
    have hs := hs (row_ok ho i0 hi)
    unfold PrI
    rw [e1, prgL_next]
    refine rowsP hI ?_ _ rfl
    rw [show ((i.toNat : Nat) : Int) = i by omega]
    exact hs
  · have e1 : i = n := by omega
    subst e1
    have hm := prgL_mem hL hA hK ho hT.1 (i := i.toNat) (by omega)
    have hlen := prgL_len L A K T i.toNat
    obtain ⟨g1, g2⟩ := nl_join hI (prgL_ne L A K T i.toNat)
    have g3 := lnsW_len fun l hl => (hm l hl).2
    refine ⟨short_any hI (by omega) (by decide) fun w hw => by have := (hm w hw).2; omega, by omega, ?_, ⟨0, hc⟩, fun _ => g1, fun h => absurd rfl h⟩
    rw [g1, slen_senc]
    omega
theorem mem_lns : ∀ {ls : List (List UInt8)} {x : List UInt8}, x ∈ ls → x.length ≤ (lnsW ls).length
  | l :: ls, x, h => by
    rw [lnsW_cons, List.length_append, List.length_cons]
    rcases List.mem_cons.1 h with rfl | h
    · omega
    · have := mem_lns h; omega
theorem hsuf_nl {s : Int} : ¬ hsuf s (-6) = 0 ↔ ∃ u, sdec s = u ++ [10] := by
  unfold hsuf
  rw [sdec_nl, ← suffix_nl]
  split
  · exact ⟨fun _ => by assumption, fun _ => by decide⟩
  · exact ⟨fun h => absurd rfl h, fun h => absurd h (by assumption)⟩
theorem lines_of {u : List UInt8} {s : Int} (h : sdec s = u ++ [10]) : splT (ssub s 0 (slen s - 1)) (-6) = (fun r _ => senc ((Lib.split u [10]).getD r.toNat [])) ∧ splN (ssub s 0 (slen s - 1)) (-6) = ((Lib.split u [10]).length : Nat) := by
  have hs : sdec (ssub s 0 (slen s - 1)) = u := by
    rw [sdec_ssub]
    unfold slen
    rw [h]
    simp
  unfold splT splN
  rw [hs, sdec_nl]
  exact ⟨rfl, rfl⟩
theorem vLines : ∀ ds, Sorts (cLines 29).sorts ds → tLines.vc (TI N) ds := by
  refine all_i fun s => all_n ?_
  set_option linter.unusedSimpArgs false in
  simp (config := { maxSteps := 10000000 }) only [tLines, e0, e1, p2, e11, e45, e51, p52, p53, p445, e805, q808, q809, e810, q811, e812, e813, e814, e815, Tree.vc, PE.den, E.den, dens, BO.ev, List.getElem?_cons_zero, List.getElem?_cons_succ, List.cons_append, List.nil_append, Option.some.injEq, D.i.injEq, D.t.injEq, exists_eq_left', exists_const, forall_const, forall_eq', one_ne, one_eq, zero_ne, zero_eq, min_i64, max_i64, min_u8, max_u8, and_true, true_and, Decidable.not_not, S3, S5, S6, S7, S8, S9, S10, S11, S12, S20, S1000, S1001, S1002, S1003, S1004, S1005, S1010, S1011, P10, P11, P12, P13, P14, P15, P16, P17, P20, P21, P22, P30, P31, P32, P33, P34, P35, P36, P37, P38, S13, S14, S15, S1008, S1009, P23, P40, P41, P42, P43, P44, P45, P46, P47, P48, P49, P50, P51, P52, P53, P54, P55, P56, P57, P58, P59, P60, P61, P62, P63, P64, P65, P66, P67, P68, P69, P70, P71, P72, P80, P73, P74, P81, P82, P83, P84]
  intro hs
  have z : ∀ r : Int, 0 ≤ r → r < 0 → slen 0 ≤ 100000 := fun r h0 h1 => by omega
  refine ⟨fun h => by omega, fun _ => ⟨fun h => ⟨z, ?_⟩, fun h0 => ⟨by omega, fun h => ⟨z, ?_⟩, fun h => ?_⟩⟩⟩
  · subst h
    exact .inl ⟨[], (fun l hl => absurd hl (by simp)), rfl, .inl ⟨by decide, rfl, rfl, fun r w hr => by simp at hr⟩⟩
  · refine .inr ⟨fun ls hls e => ?_, rfl, rfl⟩
    by_cases hne : ls = []
    · subst hne
      exact h0 (sdec_inj (by rw [e]; rfl))
    · obtain ⟨u, hu⟩ := lns_suffix hne
      exact hsuf_nl.2 ⟨u, by rw [e, hu]⟩ h
  · obtain ⟨u, hu⟩ := hsuf_nl.1 h
    obtain ⟨g1, g2, g3, g4⟩ := split_spec u.length u rfl
    obtain ⟨e1, e2⟩ := lines_of hu
    have hc : cntB s 10 = ((Lib.split u [10]).length : Nat) := by
      unfold cntB
      rw [hu, g4]
      simp
    have hl : slen s = (u.length : Nat) + 1 := by unfold slen; rw [hu]; simp
    have hsub : slen (ssub s 0 (slen s - 1)) ≤ slen s := (slen_ssub _ _ _).2
    refine ⟨fun h5 => ⟨z, .inl ⟨_, g1, by rw [hu, g3], .inr ⟨by omega, rfl, rfl⟩⟩⟩, fun h5 => ⟨by omega, by omega, by omega, by omega, by decide, fun f n _ _ hn => ⟨by omega, fun r r0 r1 => ?_, .inl ⟨_, g1, by rw [hu, g3], .inl ⟨by omega, rfl, e2, fun r w hr => ?_⟩⟩⟩⟩⟩
    · rw [e1, slen_senc]
      rw [e2] at r1
      have hr : r.toNat < (Lib.split u [10]).length := by omega
      have hm : (Lib.split u [10]).getD r.toNat [] ∈ Lib.split u [10] := by
        rw [List.getD_eq_getElem?_getD, List.getElem?_eq_getElem hr]
        exact List.getElem_mem hr
      have : ((Lib.split u [10]).getD r.toNat []).length ≤ (lnsW (Lib.split u [10])).length := mem_lns hm
      rw [g3, List.length_append, List.length_singleton] at this
      omega
    · rw [e1]
      show senc ((Lib.split u [10]).getD ((r : Nat) : Int).toNat []) = senc w
      rw [Int.toNat_natCast, List.getD_eq_getElem?_getD, hr]
      rfl
end Go.Tt
namespace Go.Tt
open Go Go.Sx Go.Lib Go.Sf
variable {N : Nat}
section
variable {s : Int} {T : Tb} {n e w lo1 n1 b0 b1 x lo2 n2 b2 y lo3 n3 b3 z lo4 n4 b4 : Int}
theorem num_good {lo m b v lo' m' : Int} (h : NumP T lo m b v lo' m' 0) : 0 < m ∧ T lo 0 = 0 ∧ lo' = lo + 1 ∧ m' = m - 1 ∧ b = 0 ∧ I64 v ∧ sdec (T lo 1) = itoa v := by
  obtain ⟨q, c, e, hF, hI, hb⟩ := h
  have hc : c = 0 ∧ e = 0 := Classical.byContradiction fun hn => by
    rw [if_pos (by omega)] at hb
    cases hb
  obtain ⟨rfl, rfl⟩ := hc
  rcases hF with ⟨g1, g2, rfl, g4, g5, g6⟩ | ⟨_, _, _, _, g⟩
  · rcases hI with ⟨_, h1, h2⟩ | ⟨h1, _⟩
    · exact ⟨g1, g2, g4, g5, g6.symm, h1, h2⟩
    · exact absurd rfl h1
  · cases g
theorem head_yes (hS : SplP s T n 0) (hF : FieldP T 0 n 0 w lo1 n1 b0) (hb : b1 = if w = 16241110417912119 then 0 else 1) (h1 : NumP T lo1 n1 b1 x lo2 n2 b2) (h2 : NumP T lo2 n2 b2 y lo3 n3 b3) (h3 : NumP T lo3 n3 b3 z lo4 n4 0) (hn : n4 = 0) :
    I64 x ∧ I64 y ∧ I64 z ∧ sdec s = headW x y z := by
  obtain ⟨c1, c2, c3, c4, rfl, c6, c7⟩ := num_good h3
  obtain ⟨d1, d2, d3, d4, rfl, d6, d7⟩ := num_good h2
  obtain ⟨e1, e2, e3, e4, rfl, e6, e7⟩ := num_good h1
  have hw : w = 16241110417912119 := Classical.byContradiction fun hw => by rw [if_neg hw] at hb; cases hb
  rcases hF with ⟨f1, f2, f3, f4, f5, _⟩ | ⟨_, f2, _⟩
  · subst f4; subst f5; subst e3; subst e4; subst d3; subst d4
    have hn4 : n = 4 := by omega
    subst hn4
    have hz : ∀ r : Nat, (r : Int) < 4 → T r 0 = 0 := fun r hr => by
      have : r = 0 ∨ r = 1 ∨ r = 2 ∨ r = 3 := by omega
      rcases this with rfl | rfl | rfl | rfl <;> assumption
    obtain ⟨ws, hB, _, hl, hj, hR⟩ := hS.2 rfl hz
    match ws, hl with
    | [w0, w1, w2, w3], _ =>
      have g0 := (hR 0 (by decide)).2 w0 rfl
      have g1 := (hR 1 (by decide)).2 w1 rfl
      have g2 := (hR 2 (by decide)).2 w2 rfl
      have g3 := (hR 3 (by decide)).2 w3 rfl
      have k0 : w0 = wMan := by
        have : senc w0 = senc wMan := by rw [← g0, ← wMan_code, ← hw, f3]; rfl
        have := congrArg sdec this
        rwa [sdec_senc, sdec_senc] at this
      have k1 : w1 = itoa x := by rw [← e7]; show w1 = sdec (T ((1 : Nat) : Int) 1); rw [g1, sdec_senc]
      have k2 : w2 = itoa y := by rw [← d7]; show w2 = sdec (T ((2 : Nat) : Int) 1); rw [g2, sdec_senc]
      have k3 : w3 = itoa z := by rw [← c7]; show w3 = sdec (T ((3 : Nat) : Int) 1); rw [g3, sdec_senc]
      refine ⟨e6, d6, c6, ?_⟩
      rw [hj, k0, k1, k2, k3]; rfl
  · subst f2
    exact absurd hw (by decide)
theorem num_of {lo m v lo' m' b' L : Int} (h : NumP T lo m 0 v lo' m' b') (hm : 0 < m) (h0 : T lo 0 = 0) (hL : I64 L) (hT : T lo 1 = senc (itoa L)) : v = L ∧ lo' = lo + 1 ∧ m' = m - 1 ∧ b' = 0 := by
  obtain ⟨q, c, e, hF, hI, hb⟩ := h
  rcases hF with ⟨g1, g2, rfl, g4, g5, g6⟩ | ⟨g, _⟩
  · rcases hI with ⟨he, h1, h2⟩ | ⟨_, h2⟩
    · rw [hT, sdec_senc] at h2
      subst g6; subst he
      exact ⟨(itoa_inj hL h1 h2).symm, g4, g5, by rw [hb, if_neg (by omega)]⟩
    · exact absurd (by rw [hT, sdec_senc]) (h2 L hL)
  · exact absurd ⟨hm, h0⟩ g
theorem head_no' (hS : SplP s T n e) (hF : FieldP T 0 n 0 w lo1 n1 b0) (hb : b1 = if w = 16241110417912119 then 0 else 1) (h1 : NumP T lo1 n1 b1 x lo2 n2 b2) (h2 : NumP T lo2 n2 b2 y lo3 n3 b3) (h3 : NumP T lo3 n3 b3 z lo4 n4 b4) (hn : ¬ (b4 = 0 ∧ n4 = 0)) :
    ∀ L A K, I64 L → I64 A → I64 K → sdec s ≠ headW L A K := fun L A K hL hA hK hs => by
  have hl := head_len hL hA hK
  obtain ⟨_, h4, hR⟩ := hS.1 [wMan, itoa L, itoa A, itoa K] (head_bare hL hA hK) (by simp) (by unfold slen; rw [hs]; omega) hs
  have h4 : n = 4 := h4
  subst h4
  have g0 := hR 0 (by decide)
  have g1 := hR 1 (by decide)
  have g2 := hR 2 (by decide)
  have g3 := hR 3 (by decide)
  have hw : w = 16241110417912119 ∧ lo1 = 1 ∧ n1 = 3 := by
    rcases hF with ⟨f1, f2, f3, f4, f5, _⟩ | ⟨f, _⟩
    · refine ⟨?_, f4, f5⟩
      rw [f3, wMan_code]; exact g0.2 _ rfl
    · exact absurd ⟨by decide, g0.1⟩ f
  obtain ⟨hw, rfl, rfl⟩ := hw
  rw [if_pos hw] at hb
  subst hb
  obtain ⟨_, rfl, rfl, rfl⟩ := num_of h1 (by decide) g1.1 hL (g1.2 _ rfl)
  obtain ⟨_, rfl, rfl, rfl⟩ := num_of h2 (by decide) g2.1 hA (g2.2 _ rfl)
  obtain ⟨_, _, h5, h6⟩ := num_of h3 (by decide) g3.1 hK (g3.2 _ rfl)
  exact hn ⟨h6, by omega⟩
theorem head_bad (hS : SplP s T n e) (he : ¬ e = 0) : ∀ L A K, I64 L → I64 A → I64 K → sdec s ≠ headW L A K := fun L A K hL hA hK hs => by
  have hl := head_len hL hA hK
  exact he (hS.1 [wMan, itoa L, itoa A, itoa K] (head_bare hL hA hK) (by simp) (by unfold slen; rw [hs]; omega) hs).1
end
def row8 (T : Tb) (q v0 v1 v2 v3 v4 v5 v6 v7 : Int) : Tb := tupd (tupd (tupd (tupd (tupd (tupd (tupd (tupd T q 0 v0) q 1 v1) q 2 v2) q 3 v3) q 4 v4) q 5 v5) q 6 v6) q 7 v7
section
variable {T U : Tb} {q v0 v1 v2 v3 v4 v5 v6 v7 s : Int}
theorem row8_else {r : Int} (h : r ≠ q) (c : Nat) : row8 T q v0 v1 v2 v3 v4 v5 v6 v7 r c = T r c := by simp [row8, tupd, h]
theorem row8_at : row8 T q v0 v1 v2 v3 v4 v5 v6 v7 q 0 = v0 ∧ row8 T q v0 v1 v2 v3 v4 v5 v6 v7 q 1 = v1 ∧ row8 T q v0 v1 v2 v3 v4 v5 v6 v7 q 2 = v2 ∧ row8 T q v0 v1 v2 v3 v4 v5 v6 v7 q 3 = v3 ∧ row8 T q v0 v1 v2 v3 v4 v5 v6 v7 q 4 = v4 ∧ row8 T q v0 v1 v2 v3 v4 v5 v6 v7 q 5 = v5 ∧ row8 T q v0 v1 v2 v3 v4 v5 v6 v7 q 6 = v6 ∧ row8 T q v0 v1 v2 v3 v4 v5 v6 v7 q 7 = v7 := by
  simp [row8, tupd]
theorem tb_next (h : TbOk T q) (h0 : I64 v0) (h1 : slen v1 ≤ 100000) (h2 : slen v2 ≤ 100000) (h3 : I64 v3) (h4 : I64 v4) (h5 : I64 v5) (h6 : I64 v6) (h7 : I64 v7) : TbOk (row8 T q v0 v1 v2 v3 v4 v5 v6 v7) (q + 1) := by
  obtain ⟨g0, g1, g2, g3, g4, g5, g6, g7⟩ := @row8_at T q v0 v1 v2 v3 v4 v5 v6 v7
  refine ⟨fun r r0 r1 => ?_, fun r r0 r1 => ?_⟩
  · by_cases e : r = q
    · subst e; rw [g0, g3, g4, g5, g6, g7]; exact ⟨h0, h3, h4, h5, h6, h7⟩
    · rw [row8_else e, row8_else e, row8_else e, row8_else e, row8_else e, row8_else e]; exact h.1 r r0 (by omega)
  · by_cases e : r = q
    · subst e; rw [g1, g2]; exact ⟨h1, h2⟩
    · rw [row8_else e, row8_else e]; exact h.2 r r0 (by omega)
theorem par_next (h : ParI U T q) (hk : 0 ≤ v0) (hl : LineOf (U (q + 1) 0) (stp v0 v1 v2 v3 v4 v5 v6 v7)) : ParI U (row8 T q v0 v1 v2 v3 v4 v5 v6 v7) (q + 1) := fun r hr => by
  obtain ⟨g0, g1, g2, g3, g4, g5, g6, g7⟩ := @row8_at T q v0 v1 v2 v3 v4 v5 v6 v7
  by_cases e : (r : Int) = q
  · unfold spR
    rw [e, g0, g1, g2, g3, g4, g5, g6, g7]
    exact ⟨hk, hl⟩
  · unfold spR
    rw [row8_else e, row8_else e, row8_else e, row8_else e, row8_else e, row8_else e, row8_else e, row8_else e]
    exact h r (by omega)
theorem line_read {k a m x y z w n b : Int} (h : RawP s k a m x y z w n b) (hb : ¬ b = 0) : 0 ≤ k ∧ LineOf s (stp k a m x y z w n) := by
  rcases h with ⟨_, h0, h1, h2, h3⟩ | ⟨h, _⟩
  · exact ⟨h0, h1, h2, h3⟩
  · exact absurd h hb
theorem line_not {k a m x y z w n b : Int} (h : RawP s k a m x y z w n b) (hb : b = 0) : ∀ t, ¬ LineOf s t := fun t ht => by
  rcases h with ⟨h, _⟩ | ⟨_, h⟩
  · exact h hb
  · exact h t ht.1 ht.2.1 ht.2.2
end
theorem rows_tail {U : Tb} {h : List UInt8} {tl : List (List UInt8)} {n : Int} (hR : RowsS U (h :: tl) n) {r : Nat} {l : List UInt8} (hl : tl[r]? = some l) : U ((r : Int) + 1) 0 = senc l := by
  have := hR.2 (r + 1) l (by simpa using hl)
  rwa [show (((r + 1 : Nat)) : Int) = (r : Int) + 1 by omega] at this
theorem rowsL_of {U T : Tb} {h : List UInt8} {tl : List (List UInt8)} {n q : Int} (hR : RowsS U (h :: tl) n) (hP : ParI U T q) {k : Nat} (hk : (k : Int) ≤ q) : RowsL T (tl.take k) := fun r l hl => by
  rw [List.getElem?_take] at hl
  split at hl
  · have := hP r (by omega)
    rwa [rows_tail hR hl] at this
  · cases hl
theorem z3 : Zero3 0 0 0 0 := ⟨rfl, rfl, rfl, rfl⟩
theorem tb0 : TbOk (fun _ _ => 0) 0 := ⟨fun r _ _ => by omega, fun r _ _ => by omega⟩
set_option maxHeartbeats 4000000 in
theorem vParse : ∀ ds, Sorts (cParse 12).sorts ds → tParse.vc (TI N) ds := by
  refine all_i fun s => all_n ?_
  set_option linter.unusedSimpArgs false in
  simp (config := { maxSteps := 10000000 }) only [tParse, e0, e1, p2, e11, e34, e62, e70, e71, e72, p109, p110, p111, e112, p113, e137, p304, p306, e311, p312, p318, p323, e327, p329, e362, e411, p448, e450, p489, e586, p589, e592, p593, e799, p816, p817, q818, q819, p820, p821, e822, p823, p824, e825, e826, e827, e828, Tree.vc, PE.den, E.den, dens, BO.ev, List.getElem?_cons_zero, List.getElem?_cons_succ, List.cons_append, List.nil_append, Option.some.injEq, D.i.injEq, D.t.injEq, exists_eq_left', exists_const, forall_const, forall_eq', one_ne, one_eq, zero_ne, zero_eq, min_i64, max_i64, min_u8, max_u8, and_true, true_and, Decidable.not_not, S3, S5, S6, S7, S8, S9, S10, S11, S12, S20, S1000, S1001, S1002, S1003, S1004, S1005, S1010, S1011, P10, P11, P12, P13, P14, P15, P16, P17, P20, P21, P22, P30, P31, P32, P33, P34, P35, P36, P37, P38, S13, S14, S15, S1008, S1009, P23, P40, P41, P42, P43, P44, P45, P46, P47, P48, P49, P50, P51, P52, P53, P54, P55, P56, P57, P58, P59, P60, P61, P62, P63, P64, P65, P66, P67, P68, P69, P70, P71, P72, P80, P73, P74, P81, P82, P83, P84]
  intro hs U n e n0 hU hL
  refine ⟨fun he => ⟨tb0, ?_⟩, fun he => ?_⟩
  · rcases hL with ⟨ls, h1, h2, ⟨h3, h4, h5⟩ | ⟨h3, h4, h5⟩⟩ | ⟨h1, h2, h3⟩
    · exact absurd h4 he
    · exact .inr (.inr (.inr (.inl ⟨ls, h1, h2, h3, h4, z3, rfl⟩)))
    · exact .inr (.inr (.inr (.inr ⟨h1, h2, z3, rfl⟩)))
  subst he
  obtain ⟨ls, h1, h2, h3, hR⟩ : ∃ ls, NoNl ls ∧ sdec s = lnsW ls ∧ ls.length ≤ 5000 ∧ RowsS U ls n := by
    rcases hL with ⟨ls, h1, h2, ⟨h3, h4, h5⟩ | ⟨h3, h4, h5⟩⟩ | ⟨h1, h2, h3⟩
    · exact ⟨ls, h1, h2, h3, h5⟩
    · cases h4
    · cases h2
  cases ls with
  | nil =>
    have : n = 0 := hR.1
    subst this
    exact ⟨fun _ => ⟨tb0, .inr (.inr (.inl ⟨[], h1, h2, h3, fun h hh => by simp at hh, rfl, z3, rfl⟩))⟩, fun h => absurd rfl h⟩
  | cons h0 tl =>
    have hn : n = (tl.length : Nat) + 1 := by have := hR.1; simpa using this
    have hU0 : U 0 0 = senc h0 := hR.2 0 h0 rfl
    have hd : sdec (U 0 0) = h0 := by rw [hU0, sdec_senc]
    have htl : tl.length < 5000 := by rw [List.length_cons] at h3; omega
    have bad : (∀ L A K, I64 L → I64 A → I64 K → sdec (U 0 0) ≠ headW L A K) → ParseP s 0 0 0 (fun _ _ => 0) 0 1 6 := fun hb => by
      refine .inr (.inr (.inl ⟨h0 :: tl, h1, h2, h3, fun h hh L A K hL hA hK e => hb L A K hL hA hK ?_, rfl, z3, rfl⟩))
      simp at hh
      rw [hd, hh, e]
    refine ⟨fun h => by omega, fun _ => ⟨by omega, hU 0 (by omega) (by omega), fun F q e q0 q1 _ hS => ⟨fun he => ⟨tb0, bad (head_bad hS he)⟩, fun he => ⟨by omega, fun w lo1 n1 b0 _ _ _ _ hF x lo2 n2 b2 hx _ _ _ hX y lo3 n3 b3 hy _ _ _ hY z lo4 n4 b4 hz _ _ _ hZ => ⟨fun hb4 => ⟨fun hn4 => ⟨tb0, bad (head_no' hS hF rfl hX hY hZ (fun h => hn4 h.2))⟩, fun hn4 => ?_⟩, fun hb4 => ⟨tb0, bad (head_no' hS hF rfl hX hY hZ (fun h => hb4 h.1))⟩⟩⟩⟩⟩⟩
    subst he; subst hb4
    obtain ⟨ix, iy, iz, hh⟩ := head_yes hS hF rfl hX hY hZ hn4
    rw [hd] at hh
    refine ⟨by omega, by omega, by omega, tb0, fun r hr => by omega, fun i T m i0 i1 m1 m2 hT hP => ⟨fun hi => ⟨by omega, by omega, hU _ (by omega) (by omega), fun k a m' x' y' z' w' n' b hk ha hm hx' hy' hz' hw' hn' hW => ⟨fun hb => ⟨by omega, ?_⟩, fun hb => ?_⟩⟩, fun hi => ⟨by omega, by omega, fun st e st0 st1 hC => ⟨fun he => ⟨by omega, ?_⟩, fun he => ?_⟩⟩⟩⟩
    · have hil : i.toNat < tl.length := by omega
      have hl : tl[i.toNat]? = some tl[i.toNat] := List.getElem?_eq_getElem hil
      have hUl := rows_tail hR hl
      rw [show ((i.toNat : Nat) : Int) + 1 = 1 + i by omega] at hUl
      refine .inr (.inl ⟨h0, tl, i.toNat, h1, h2, htl, ⟨x, y, z, ix, iy, iz, hh⟩, ⟨T, rowsL_of hR hP (by omega)⟩, ⟨_, hl, fun t => ?_⟩, rfl, z3, by omega⟩)
      rw [← hUl]
      exact line_not hW hb t
    · obtain ⟨k0, hl⟩ := line_read hW hb
      have hmi : m = i := by omega
      subst hmi
      rw [show 1 + m = m + 1 by omega] at hl
      exact ⟨by omega, by omega, by omega, by omega, by omega, by omega, tb_next hT hk ha hm hx' hy' hz' hw' hn', par_next hP k0 hl, by omega, by omega⟩
    · have hm : m = (tl.length : Nat) := by omega
      have hRL := rowsL_of hR hP (k := tl.length) (by omega)
      rw [List.take_length] at hRL
      rw [hm] at hC
      exact .inl ⟨h0, tl, st, h1, h2, htl, x, y, z, T, ix, iy, iz, hh, hRL, hC, .inr ⟨he, z3, rfl⟩⟩
    · subst he
      have hm : m = (tl.length : Nat) := by omega
      have hRL := rowsL_of hR hP (k := tl.length) (by omega)
      rw [List.take_length] at hRL
      rw [hm] at hC
      have h5 := (chk_ok hC).1
      exact ⟨by omega, .inl ⟨h0, tl, st, h1, h2, htl, x, y, z, T, ix, iy, iz, hh, hRL, hC, .inl ⟨rfl, rfl, rfl, rfl, hm, fun r _ c _ => rfl, rfl⟩⟩⟩
theorem lines_at {T : Tb} {n r : Nat} (h : r < n) : ((List.range n).map fun r : Nat => (spR T r).line)[r]? = some (spR T r).line := by
  rw [List.getElem?_map, List.getElem?_range h]; rfl
theorem parse_back {L A K s L' A' K' n' line e : Int} {T T' : Tb} {n : Int} (hL : I64 L) (hA : I64 A) (hK : I64 K) (n0 : 0 ≤ n) (hn : n ≤ 500) (hT : TbR T n) (hr : right L A K) (ho : OkI T n) (hs : s = senc (lnsW (prgL L A K T n.toNat)))
    (h : ParseP s L' A' K' T' n' line e) : e = 0 ∧ line = 0 ∧ L' = L ∧ A' = A ∧ K' = K ∧ n' = n ∧ ∀ r : Nat, (r : Int) < n → ∀ c < 8, T' r c = T r c := by
  have hd : sdec s = lnsW (prgL L A K T n.toNat) := by rw [hs, sdec_senc]
  have hno := prgL_no hL hA hK ho hT (i := n.toNat) (by omega)
  have hlen := prgL_len L A K T n.toNat
  have eq : ∀ {ls : List (List UInt8)}, NoNl ls → sdec s = lnsW ls → ls = prgL L A K T n.toNat := fun h1 h2 => lnsW_inj h1 hno (by rw [← h2, hd])
  rcases h with ⟨h, ls, st, h1, h2, h3, L2, A2, K2, T2, g1, g2, g3, g4, g5, g6, g7⟩ | ⟨h, ls, i, h1, h2, h3, _, _, ⟨l, hl, hl2⟩, _⟩ | ⟨ls, h1, h2, h3, h4, _⟩ | ⟨ls, h1, h2, h3, _⟩ | ⟨h1, _⟩
  · obtain ⟨rfl, rfl⟩ := List.cons.inj (eq h1 h2)
    obtain ⟨rfl, rfl, rfl⟩ := head_inj hL hA hK g1 g2 g3 g4
    have hll : (((List.range n.toNat).map fun r : Nat => (spR T r).line).length : Int) = n := by simp; omega
    have same : ∀ r : Int, 0 ≤ r → r < n → ∀ c < 8, T r c = T2 r c := fun r r0 r1 => by
      obtain ⟨k0, hl⟩ := g5 r.toNat _ (lines_at (show r.toNat < n.toNat by omega))
      obtain ⟨hl2, k1, _⟩ := row_line ho hT r0 r1
      rw [show ((r.toNat : Nat) : Int) = r by omega] at hl k0
      exact rows_same k1 k0 (lineOf_inj hl2 hl)
    rw [hll] at g6 g7
    obtain ⟨_, he⟩ := chk_0 g6 hn hr (ok_eq same ho)
    rcases g7 with ⟨_, e1, e2, e3, e4, e5, e6⟩ | ⟨h, _⟩
    · refine ⟨he, e6, e1, e2, e3, e4, fun r hr c hc => ?_⟩
      rw [e5 r (by simp; omega) c hc, same r (by omega) hr c hc]
    · exact absurd he h
  · obtain ⟨rfl, rfl⟩ := List.cons.inj (eq h1 h2)
    have hi : i < n.toNat := by
      have := (List.getElem?_eq_some_iff.1 hl).1
      simpa using this
    rw [lines_at hi] at hl
    obtain rfl := Option.some.inj hl
    exact absurd (row_line ho hT (r := (i : Int)) (by omega) (by omega)).1 (hl2 _)
  · obtain rfl := eq h1 h2
    exact absurd rfl (h4 _ rfl L A K hL hA hK)
  · obtain rfl := eq h1 h2
    omega
  · exact absurd hd (h1 _ hno)
set_option maxHeartbeats 4000000 in
theorem vTxs : ∀ ds, Sorts cTxs.sorts ds → tTxs.vc (TI N) ds := by
  refine all_i fun L => all_i fun A => all_i fun K => all_t fun T => all_i fun n => all_n ?_
  set_option linter.unusedSimpArgs false in
  simp (config := { maxSteps := 10000000 }) only [tTxs, e1, e11, p80, p117, p128, p132, e138, e139, e353, p365, p369, p488, e527, e586, q591, p762, p763, p764, e795, p823, e845, Tree.vc, PE.den, E.den, dens, BO.ev, List.getElem?_cons_zero, List.getElem?_cons_succ, List.cons_append, List.nil_append, Option.some.injEq, D.i.injEq, D.t.injEq, exists_eq_left', exists_const, forall_const, forall_eq', one_ne, one_eq, zero_ne, zero_eq, min_i64, max_i64, min_u8, max_u8, and_true, true_and, Decidable.not_not, S3, S5, S6, S7, S8, S9, S10, S11, S12, S20, S1000, S1001, S1002, S1003, S1004, S1005, S1010, S1011, P10, P11, P12, P13, P14, P15, P16, P17, P20, P21, P22, P30, P31, P32, P33, P34, P35, P36, P37, P38, S13, S14, S15, S1008, S1009, P23, P40, P41, P42, P43, P44, P45, P46, P47, P48, P49, P50, P51, P52, P53, P54, P55, P56, P57, P58, P59, P60, P61, P62, P63, P64, P65, P66, P67, P68, P69, P70, P71, P72, P80, P73, P74, P81, P82, P83, P84]
  intro n0 _ hT hL hA hK b hF
  refine ⟨fun _ => trivial, fun hb => ⟨fun _ => trivial, fun h60 => ⟨by omega, ⟨hT, fun r r0 r1 => by have := (hF hb).2.2 r r0 r1; omega⟩, fun s e hs hP => ⟨fun _ => trivial, fun he => ⟨by omega, fun L' A' K' T' n' line e' n0' n5' hT' _ _ _ hR => ⟨by omega, fun y f hy hQ => ?_⟩⟩⟩⟩⟩⟩
  subst he
  obtain ⟨⟨st, hC⟩, hs1, _⟩ := hP
  obtain ⟨h5, hr, ho, _⟩ := chk_ok hC
  obtain ⟨rfl, rfl, rfl, rfl, rfl, rfl, hsame⟩ := parse_back hL hA hK n0 h5 hT hr ho (hs1 rfl) hR
  have ho' : OkI T' n' := ok_eq (fun r r0 r1 c hc => by
    have := hsame r.toNat (by omega) c hc
    rw [show ((r.toNat : Nat) : Int) = r by omega] at this
    exact this.symm) ho
  obtain ⟨⟨st', hC'⟩, hy1, _⟩ := hQ
  obtain ⟨_, rfl⟩ := chk_0 hC' h5 hr ho'
  have hy2 : s = y := by
    rw [hs1 rfl, hy1 rfl, prgL_eq fun r hr c hc => (hsame r (by omega) c hc).symm]
  exact ⟨fun _ => ⟨fun _ => ⟨fun _ q hq => ⟨fun _ => ⟨fun _ => trivial, fun h => h hy2⟩, fun h => hq.2 ⟨rfl, rfl, rfl, rfl, fun r hr c hc => (hsame r hr c hc).symm⟩ h⟩, fun h => h rfl⟩, fun h => h rfl⟩, fun h => h rfl⟩
end Go.Tt
