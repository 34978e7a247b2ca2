/-
  The formulas of the contracts hold: the reference reads a step. Conditions: none; nothing here speaks of a program.
-/
import Derived.Test.YtiehemggplndcaaGreatDoorC3
import Derived.Test.YtiehemggplndcaaGreatDoorC1
namespace Go.Tt
open Go Go.Sx Go.Lib Go.Sf
variable {N : Nat}
set_option maxHeartbeats 8000000 in
theorem vRaw : ∀ ds, Sorts cRaw.sorts ds → tRaw.vc (TI N) ds := by
  refine all_i fun s => all_n ?_
  set_option linter.unusedSimpArgs false in
  simp (config := { maxSteps := 10000000 }) only [tRaw, e0, e1, p2, e34, e46, e62, e70, e85, e94, e99, p100, p107, p109, p110, p111, e112, p113, p114, p115, p117, p134, p135, e137, e138, e205, e209, q303, p304, p306, p310, e354, p365, e368, p448, p449, e450, q451, q452, e453, e454, p455, e456, e457, p458, e459, p460, e461, p462, p463, e464, p465, p466, e467, e468, p469, e470, p471, p472, q473, p474, p475, p476, p477, p478, p479, p480, p481, p482, p483, p484, p485, p486, p487, p488, p489, e490, e491, p492, p493, p494, e495, e496, e497, p498, e499, p500, q501, e502, p503, p504, p505, q506, q507, e508, q509, q510, q511, q512, q513, q514, p515, p516, p517, e518, e519, p520, p521, p522, p523, e524, e525, e526, e527, e528, q529, e530, p531, p532, p533, q534, e535, e536, e537, p538, p539, e540, p541, p542, e543, p544, p545, p546, p547, p548, e549, p550, p551, p552, p553, q554, q555, q556, q557, q558, q559, p560, e561, p562, p563, q564, q565, q566, q567, q568, q569, q570, q571, e572, p573, p574, p575, p576, p577, e578, p579, p580, q581, q582, q583, q584, e585, Tree.vc, PE.den, E.den, dens, BO.ev, List.getElem?_cons_zero, List.getElem?_cons_succ, List.cons_append, List.nil_append, Option.some.injEq, D.i.injEq, D.t.injEq, exists_eq_left', exists_const, forall_const, forall_eq', one_ne, one_eq, zero_ne, zero_eq, min_i64, max_i64, min_u8, max_u8, and_true, true_and, Decidable.not_not, S3, S5, S6, S7, S8, S9, S10, S11, S12, S20, S1000, S1001, S1002, S1003, S1004, S1005, S1010, S1011, P10, P11, P12, P13, P14, P15, P16, P17, P20, P21, P22, P30, P31, P32, P33, P34, P35, P36, P37, P38, S13, S14, S15, S1008, S1009, P23, P40, P41, P42, P43, P44, P45, P46, P47, P48, P49, P50, P51, P52, P53, P54, P55, P56, P57, P58, P59, P60, P61, P62, P63, P64, P65, P66, P67, P68, P69, P70, P71, P72, P80, P73, P74, P81, P82, P83, P84]
  intro hs f n b hn0 hS hW
  have z0 : slen 0 ≤ 100000 := by rw [slen_0]; omega
  refine ⟨fun hb => ⟨z0, rr_none (by rw [← hb]; exact hW)⟩, fun hb => ?_⟩
  obtain ⟨ws, hB, h64, hj, hR⟩ := hW.1 hb
  refine ⟨fun h0 => ⟨z0, rr_empty hB hj (by rw [← h0]; exact hR)⟩, fun h0 T hT => ⟨kw_0, fun q k hq1 hq2 hk0 hk1 hK => ⟨fun hq => ?_, fun hq => ?_⟩⟩⟩
  · have hk := (hT q.toNat (by omega) (by omega)).1
    rw [show ((q.toNat : Nat) : Int) = q by omega] at hk
    refine ⟨by omega, by omega, fun h => ⟨by omega, by omega, by omega, by omega, kw_hit hq1 (by rw [← h, hk]), by omega, by omega⟩, fun h => ⟨by omega, by omega, by omega, kw_miss hK hq1 (by rw [← hk]; exact h), by omega, by omega⟩⟩
  · have hq14 : q = 14 := by omega
    subst hq14
    refine ⟨fun hk => ⟨by omega, z0, by subst hk; exact rr_kind hB hj hR hK⟩, fun hk => ?_⟩
    have R : Rd s f n k := ⟨⟨ws, hB, hj, hR⟩, by rcases hK with ⟨h, _⟩ | ⟨_, _, h⟩; exact absurd h hk; exact h, by omega, hk1⟩
    obtain ⟨_, t1, t2, t3⟩ := hT k.toNat (by omega) (by omega)
    rw [show ((k.toNat : Nat) : Int) = k by omega] at t1 t2 t3
    have hc := knum_le k.toNat
    clear hT hK hR hj hB h64 hW hb
    refine ⟨by omega, by omega, by omega, ?_⟩
    generalize T k 1 = u at t1 ⊢
    generalize T k 2 = v at t2 ⊢
    generalize T k 3 = c at t3 ⊢
    by_cases ha : kar k.toNat = 0 <;> by_cases hm : knm k.toNat = 0
    all_goals
      have hu := @u1_iff k.toNat
      have hv := @u2_iff k.toNat
      rw [← t1] at hu
      rw [← t2] at hv
      clear t1 t2
    · have hu := hu.2 ha
      have hv := hv.2 hm
      have hA := b01_0 ha
      have hM := b01_0 hm
      have nm := @nm00 f k ha hm
      refine ⟨fun h => absurd hu h, fun _ => ⟨fun h => absurd hv h, fun _ => ?_⟩⟩
      clear ha hm hu hv hq1 hq2 hq hs
      repeat' with_reducible first | apply And.intro | intro _
      all_goals first
        | assumption
        | omega
        | exact hS _ (by omega) (by omega)
        | exact nums_0
        | exact nums_1 (by assumption) (by assumption) (by assumption) (by omega) (by omega)
        | exact nums_2 (by assumption) (by assumption) (by assumption) (by omega) (by omega)
        | exact nums_3 (by assumption) (by assumption) (by assumption) (by omega) (by omega)
        | exact rr_len R (by omega) (by omega)
        | exact rr_word R (by assumption) (by assumption) (by omega) (by omega)
        | exact rr_num R (by assumption) (by assumption) (by omega) (by omega)
        | exact rr_n R (by assumption) (by assumption) (by omega) (by omega)
        | exact rr_yes0 R nm (by assumption) (by omega) (by omega) (by omega)
        | exact rr_yes1 R nm (by assumption) (by assumption) (by assumption) (by assumption) (by omega) (by omega) (by omega) (by omega) (by omega)
        | exact rr_yes2 R nm (by assumption) (by assumption) (by assumption) (by assumption) (by omega) (by omega) (by omega) (by omega) (by omega)
    · have hu := hu.2 ha
      have hv := fun h => hm (hv.1 h)
      have hA := b01_0 ha
      have hM := b01_1 hm
      have nm := @nm01 f k ha hm
      refine ⟨fun h => absurd hu h, fun _ => ⟨fun _ => ?_, fun h => absurd h hv⟩⟩
      clear ha hm hu hv hq1 hq2 hq hs
      repeat' with_reducible first | apply And.intro | intro _
      all_goals first
        | assumption
        | omega
        | exact hS _ (by omega) (by omega)
        | exact nums_0
        | exact nums_1 (by assumption) (by assumption) (by assumption) (by omega) (by omega)
        | exact nums_2 (by assumption) (by assumption) (by assumption) (by omega) (by omega)
        | exact nums_3 (by assumption) (by assumption) (by assumption) (by omega) (by omega)
        | exact rr_len R (by omega) (by omega)
        | exact rr_word R (by assumption) (by assumption) (by omega) (by omega)
        | exact rr_num R (by assumption) (by assumption) (by omega) (by omega)
        | exact rr_n R (by assumption) (by assumption) (by omega) (by omega)
        | exact rr_yes0 R nm (by assumption) (by omega) (by omega) (by omega)
        | exact rr_yes1 R nm (by assumption) (by assumption) (by assumption) (by assumption) (by omega) (by omega) (by omega) (by omega) (by omega)
        | exact rr_yes2 R nm (by assumption) (by assumption) (by assumption) (by assumption) (by omega) (by omega) (by omega) (by omega) (by omega)
    · have hu := fun h => ha (hu.1 h)
      have hv := hv.2 hm
      have hA := b01_1 ha
      have hM := b01_0 hm
      have nm := @nm10 f k ha hm
      refine ⟨fun _ => ⟨by omega, fun h => absurd hv h, fun _ => ?_⟩, fun h => absurd h hu⟩
      clear ha hm hu hv hq1 hq2 hq hs
      repeat' with_reducible first | apply And.intro | intro _
      all_goals first
        | assumption
        | omega
        | exact hS _ (by omega) (by omega)
        | exact nums_0
        | exact nums_1 (by assumption) (by assumption) (by assumption) (by omega) (by omega)
        | exact nums_2 (by assumption) (by assumption) (by assumption) (by omega) (by omega)
        | exact nums_3 (by assumption) (by assumption) (by assumption) (by omega) (by omega)
        | exact rr_len R (by omega) (by omega)
        | exact rr_word R (by assumption) (by assumption) (by omega) (by omega)
        | exact rr_num R (by assumption) (by assumption) (by omega) (by omega)
        | exact rr_n R (by assumption) (by assumption) (by omega) (by omega)
        | exact rr_yes0 R nm (by assumption) (by omega) (by omega) (by omega)
        | exact rr_yes1 R nm (by assumption) (by assumption) (by assumption) (by assumption) (by omega) (by omega) (by omega) (by omega) (by omega)
        | exact rr_yes2 R nm (by assumption) (by assumption) (by assumption) (by assumption) (by omega) (by omega) (by omega) (by omega) (by omega)
    · have hu := fun h => ha (hu.1 h)
      have hv := fun h => hm (hv.1 h)
      have hA := b01_1 ha
      have hM := b01_1 hm
      have nm := @nm11 f k ha hm
      refine ⟨fun _ => ⟨by omega, fun _ => ?_, fun h => absurd h hv⟩, fun h => absurd h hu⟩
      clear ha hm hu hv hq1 hq2 hq hs
      repeat' with_reducible first | apply And.intro | intro _
      all_goals first
        | assumption
        | omega
        | exact hS _ (by omega) (by omega)
        | exact nums_0
        | exact nums_1 (by assumption) (by assumption) (by assumption) (by omega) (by omega)
        | exact nums_2 (by assumption) (by assumption) (by assumption) (by omega) (by omega)
        | exact nums_3 (by assumption) (by assumption) (by assumption) (by omega) (by omega)
        | exact rr_len R (by omega) (by omega)
        | exact rr_word R (by assumption) (by assumption) (by omega) (by omega)
        | exact rr_num R (by assumption) (by assumption) (by omega) (by omega)
        | exact rr_n R (by assumption) (by assumption) (by omega) (by omega)
        | exact rr_yes0 R nm (by assumption) (by omega) (by omega) (by omega)
        | exact rr_yes1 R nm (by assumption) (by assumption) (by assumption) (by assumption) (by omega) (by omega) (by omega) (by omega) (by omega)
        | exact rr_yes2 R nm (by assumption) (by assumption) (by assumption) (by assumption) (by omega) (by omega) (by omega) (by omega) (by omega)
end Go.Tt
