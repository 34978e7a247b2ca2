/-
  The formulas of JournalCuts hold. Conditions: none.
-/
import Derived.Test.YtoeacadacnnoeaaGreatDoorJnDf
import Derived.Test.YtoeacadacnnoeaaGreatDoorJnByte
import Derived.Test.YtoeacadacnnoeaaGreatDoorJnV1
namespace Go.Jn
open Go Go.Sx Go.Mg
set_option maxRecDepth 10000
def tCutsH : Tree := (.assume (.tt (.bin .le (.lit 0) (.var 4))) (.assume (.rng .i64 (.var 0)) (.assume (.rng .i64 (.var 1)) (.assume (.rng .i64 (.var 2)) (.assume (.pr 22 [(.var 3), (.var 4)]) (.assume (.rng .u16 (.var 5)) (.assume (.tt (.bin .lt (.bin .tmod (.var 5) (.bin .add (.bin .add (.lit 36) (.bin .mul (.lit 60) (.var 4))) (.lit 1))) (.lit 36))) (.branch (.bin .lt (.lit 40) (.var 4)) .ok (.assert (.tt (.bin .le (.var 4) (.lit 500))) (.havoc true (.havoc false (.assume (.same (.var 7) (.bin .add (.lit 36) (.bin .mul (.lit 60) (.var 4)))) (.assume (.pr 12 [(.var 6), (.var 0), (.var 1), (.var 2), (.var 3), (.var 4)]) (.assert (.rng .i64 (.bin .mul (.lit 60) (.var 4))) (.assert (.rng .i64 (.bin .add (.lit 36) (.bin .mul (.lit 60) (.var 4)))) (.branch (.bin .eq (.bin .eq (.bin .add (.lit 36) (.bin .mul (.lit 60) (.var 4))) (.bin .add (.lit 36) (.bin .mul (.lit 60) (.var 4)))) (.lit 0)) (.fail 100) (.assert (.rng .i64 (.bin .add (.bin .add (.lit 36) (.bin .mul (.lit 60) (.var 4))) (.lit 1))) (.assert (.tt (.bin .ne (.bin .add (.bin .add (.lit 36) (.bin .mul (.lit 60) (.var 4))) (.lit 1)) (.lit 0))) (.assert (.tt (.bin .le (.lit 0) (.bin .tmod (.wrap .i64 (.var 5)) (.bin .add (.bin .add (.lit 36) (.bin .mul (.lit 60) (.var 4))) (.lit 1))))) (.assert (.tt (.bin .le (.bin .tmod (.wrap .i64 (.var 5)) (.bin .add (.bin .add (.lit 36) (.bin .mul (.lit 60) (.var 4))) (.lit 1))) (.bin .add (.lit 36) (.bin .mul (.lit 60) (.var 4))))) (.assert (.tt (.bin .le (.bin .add (.lit 36) (.bin .mul (.lit 60) (.var 4))) (.lit 1000000))) (.assert (.tt (.bin .le (.bin .tmod (.wrap .i64 (.var 5)) (.bin .add (.bin .add (.lit 36) (.bin .mul (.lit 60) (.var 4))) (.lit 1))) (.lit 30036))) (.assert (.byt (.var 6) (.bin .add (.lit 36) (.bin .mul (.lit 60) (.var 4)))) (.assert (.pr 18 [(.var 6), (.bin .tmod (.wrap .i64 (.var 5)) (.bin .add (.bin .add (.lit 36) (.bin .mul (.lit 60) (.var 4))) (.lit 1)))]) (.branch (.bin .lt (.bin .tmod (.wrap .i64 (.var 5)) (.bin .add (.bin .add (.lit 36) (.bin .mul (.lit 60) (.var 4))) (.lit 1))) (.lit 36)) .ok (.assert (.rng .i64 (.bin .sub (.bin .tmod (.wrap .i64 (.var 5)) (.bin .add (.bin .add (.lit 36) (.bin .mul (.lit 60) (.var 4))) (.lit 1))) (.lit 36))) (.fail 100)))))))))))))))))))))))))))
def tCutsE : Tree := (.assume (.tt (.bin .le (.lit 0) (.var 4))) (.assume (.rng .i64 (.var 0)) (.assume (.rng .i64 (.var 1)) (.assume (.rng .i64 (.var 2)) (.assume (.pr 22 [(.var 3), (.var 4)]) (.assume (.rng .u16 (.var 5)) (.assume (.tt (.bin .le (.lit 36) (.bin .tmod (.var 5) (.bin .add (.bin .add (.lit 36) (.bin .mul (.lit 60) (.var 4))) (.lit 1))))) (.branch (.bin .lt (.lit 40) (.var 4)) .ok (.assert (.tt (.bin .le (.var 4) (.lit 500))) (.havoc true (.havoc false (.assume (.same (.var 7) (.bin .add (.lit 36) (.bin .mul (.lit 60) (.var 4)))) (.assume (.pr 12 [(.var 6), (.var 0), (.var 1), (.var 2), (.var 3), (.var 4)]) (.assert (.rng .i64 (.bin .mul (.lit 60) (.var 4))) (.assert (.rng .i64 (.bin .add (.lit 36) (.bin .mul (.lit 60) (.var 4)))) (.branch (.bin .eq (.bin .eq (.bin .add (.lit 36) (.bin .mul (.lit 60) (.var 4))) (.bin .add (.lit 36) (.bin .mul (.lit 60) (.var 4)))) (.lit 0)) (.fail 100) (.assert (.rng .i64 (.bin .add (.bin .add (.lit 36) (.bin .mul (.lit 60) (.var 4))) (.lit 1))) (.assert (.tt (.bin .ne (.bin .add (.bin .add (.lit 36) (.bin .mul (.lit 60) (.var 4))) (.lit 1)) (.lit 0))) (.assert (.tt (.bin .le (.lit 0) (.bin .tmod (.wrap .i64 (.var 5)) (.bin .add (.bin .add (.lit 36) (.bin .mul (.lit 60) (.var 4))) (.lit 1))))) (.assert (.tt (.bin .le (.bin .tmod (.wrap .i64 (.var 5)) (.bin .add (.bin .add (.lit 36) (.bin .mul (.lit 60) (.var 4))) (.lit 1))) (.bin .add (.lit 36) (.bin .mul (.lit 60) (.var 4))))) (.assert (.tt (.bin .le (.bin .add (.lit 36) (.bin .mul (.lit 60) (.var 4))) (.lit 1000000))) (.assert (.tt (.bin .le (.bin .tmod (.wrap .i64 (.var 5)) (.bin .add (.bin .add (.lit 36) (.bin .mul (.lit 60) (.var 4))) (.lit 1))) (.lit 30036))) (.assert (.byt (.var 6) (.bin .add (.lit 36) (.bin .mul (.lit 60) (.var 4)))) (.assert (.pr 15 [(.var 6), (.bin .tmod (.wrap .i64 (.var 5)) (.bin .add (.bin .add (.lit 36) (.bin .mul (.lit 60) (.var 4))) (.lit 1)))]) (.havoc true (.havoc false (.havoc false (.havoc false (.havoc false (.havoc false (.assume (.same (.var 10) (.fn 4 (.var 6) (.lit 8) (.lit 0) (.lit 0))) (.assume (.same (.var 11) (.fn 4 (.var 6) (.lit 16) (.lit 0) (.lit 0))) (.assume (.same (.var 12) (.fn 4 (.var 6) (.lit 24) (.lit 0) (.lit 0))) (.assume (.same (.var 13) (.bin .add (.lit 36) (.bin .mul (.lit 60) (.var 9)))) (.assume (.pr 16 [(.var 6), (.bin .tmod (.wrap .i64 (.var 5)) (.bin .add (.bin .add (.lit 36) (.bin .mul (.lit 60) (.var 4))) (.lit 1))), (.var 9)]) (.assume (.pr 17 [(.var 6), (.var 8), (.var 9)]) (.branch (.bin .lt (.bin .tmod (.wrap .i64 (.var 5)) (.bin .add (.bin .add (.lit 36) (.bin .mul (.lit 60) (.var 4))) (.lit 1))) (.lit 36)) (.fail 100) (.assert (.rng .i64 (.bin .sub (.bin .tmod (.wrap .i64 (.var 5)) (.bin .add (.bin .add (.lit 36) (.bin .mul (.lit 60) (.var 4))) (.lit 1))) (.lit 36))) (.assert (.rng .i64 (.bin .mul (.bin (.bits 6 .i64) (.bin .sub (.bin .tmod (.wrap .i64 (.var 5)) (.bin .add (.bin .add (.lit 36) (.bin .mul (.lit 60) (.var 4))) (.lit 1))) (.lit 36)) (.lit 60)) (.lit 60))) (.assert (.rng .i64 (.bin .add (.lit 36) (.bin .mul (.bin (.bits 6 .i64) (.bin .sub (.bin .tmod (.wrap .i64 (.var 5)) (.bin .add (.bin .add (.lit 36) (.bin .mul (.lit 60) (.var 4))) (.lit 1))) (.lit 36)) (.lit 60)) (.lit 60)))) (.branch (.bin .eq (.bin .eq (.bin .add (.lit 36) (.bin .mul (.lit 60) (.var 9))) (.bin .add (.lit 36) (.bin .mul (.bin (.bits 6 .i64) (.bin .sub (.bin .tmod (.wrap .i64 (.var 5)) (.bin .add (.bin .add (.lit 36) (.bin .mul (.lit 60) (.var 4))) (.lit 1))) (.lit 36)) (.lit 60)) (.lit 60)))) (.lit 0)) (.fail 100) (.assert (.tt (.bin .le (.lit 0) (.bin (.bits 6 .i64) (.bin .sub (.bin .tmod (.wrap .i64 (.var 5)) (.bin .add (.bin .add (.lit 36) (.bin .mul (.lit 60) (.var 4))) (.lit 1))) (.lit 36)) (.lit 60)))) (.assert (.tt (.bin .le (.bin (.bits 6 .i64) (.bin .sub (.bin .tmod (.wrap .i64 (.var 5)) (.bin .add (.bin .add (.lit 36) (.bin .mul (.lit 60) (.var 4))) (.lit 1))) (.lit 36)) (.lit 60)) (.var 4))) (.assert (.tt (.bin .le (.lit 0) (.var 9))) (.assert (.tt (.bin .le (.var 4) (.lit 1000000))) (.havoc false (.assume (.pr 20 [(.var 14), (.fn 4 (.var 6) (.lit 8) (.lit 0) (.lit 0)), (.fn 4 (.var 6) (.lit 16) (.lit 0) (.lit 0)), (.fn 4 (.var 6) (.lit 24) (.lit 0) (.lit 0)), (.var 8), (.var 9), (.var 0), (.var 1), (.var 2), (.var 3), (.bin (.bits 6 .i64) (.bin .sub (.bin .tmod (.wrap .i64 (.var 5)) (.bin .add (.bin .add (.lit 36) (.bin .mul (.lit 60) (.var 4))) (.lit 1))) (.lit 36)) (.lit 60))]) (.branch (.bin .eq (.var 14) (.lit 0)) (.fail 100) (.havoc true (.havoc false (.havoc false (.havoc false (.havoc false (.havoc false (.assume (.same (.var 17) (.fn 4 (.var 6) (.lit 8) (.lit 0) (.lit 0))) (.assume (.same (.var 18) (.fn 4 (.var 6) (.lit 16) (.lit 0) (.lit 0))) (.assume (.same (.var 19) (.fn 4 (.var 6) (.lit 24) (.lit 0) (.lit 0))) (.assume (.same (.var 20) (.bin .add (.lit 36) (.bin .mul (.lit 60) (.var 16)))) (.assume (.pr 16 [(.var 6), (.bin .tmod (.wrap .i64 (.var 5)) (.bin .add (.bin .add (.lit 36) (.bin .mul (.lit 60) (.var 4))) (.lit 1))), (.var 16)]) (.assume (.pr 17 [(.var 6), (.var 15), (.var 16)]) (.assert (.tt (.bin .le (.lit 0) (.bin .add (.lit 36) (.bin .mul (.lit 60) (.var 16))))) (.assert (.tt (.bin .le (.bin .add (.lit 36) (.bin .mul (.lit 60) (.var 16))) (.bin .tmod (.wrap .i64 (.var 5)) (.bin .add (.bin .add (.lit 36) (.bin .mul (.lit 60) (.var 4))) (.lit 1))))) (.assert (.tt (.bin .le (.bin .add (.lit 36) (.bin .mul (.lit 60) (.var 16))) (.bin .add (.lit 36) (.bin .mul (.lit 60) (.var 4))))) (.assert (.tt (.bin .le (.bin .add (.lit 36) (.bin .mul (.lit 60) (.var 16))) (.lit 1000000))) (.assert (.rng .i64 (.bin .sub (.bin .tmod (.wrap .i64 (.var 5)) (.bin .add (.bin .add (.lit 36) (.bin .mul (.lit 60) (.var 4))) (.lit 1))) (.bin .add (.lit 36) (.bin .mul (.lit 60) (.var 16))))) (.assert (.rng .i64 (.bin .sub (.bin .tmod (.wrap .i64 (.var 5)) (.bin .add (.bin .add (.lit 36) (.bin .mul (.lit 60) (.var 4))) (.lit 1))) (.bin .add (.lit 36) (.bin .mul (.lit 60) (.var 9))))) (.branch (.bin .eq (.bin .eq (.bin .sub (.bin .tmod (.wrap .i64 (.var 5)) (.bin .add (.bin .add (.lit 36) (.bin .mul (.lit 60) (.var 4))) (.lit 1))) (.bin .add (.lit 36) (.bin .mul (.lit 60) (.var 16)))) (.bin .sub (.bin .tmod (.wrap .i64 (.var 5)) (.bin .add (.bin .add (.lit 36) (.bin .mul (.lit 60) (.var 4))) (.lit 1))) (.bin .add (.lit 36) (.bin .mul (.lit 60) (.var 9))))) (.lit 0)) (.fail 100) (.assert (.tt (.bin .le (.lit 0) (.bin .add (.lit 36) (.bin .mul (.lit 60) (.var 9))))) (.assert (.tt (.bin .le (.bin .add (.lit 36) (.bin .mul (.lit 60) (.var 9))) (.bin .add (.lit 36) (.bin .mul (.lit 60) (.var 4))))) (.assert (.tt (.bin .le (.bin .add (.lit 36) (.bin .mul (.lit 60) (.var 16))) (.bin .add (.lit 36) (.bin .mul (.lit 60) (.var 16))))) (.assert (.byt (.var 6) (.bin .add (.lit 36) (.bin .mul (.lit 60) (.var 16)))) (.assert (.byt (.var 6) (.bin .add (.lit 36) (.bin .mul (.lit 60) (.var 9)))) (.branch (.bin .eq (.teq (.var 6) (.bin .add (.lit 36) (.bin .mul (.lit 60) (.var 16))) (.var 6) (.bin .add (.lit 36) (.bin .mul (.lit 60) (.var 9)))) (.lit 0)) (.fail 100) (.assert (.same (.bin .add (.lit 36) (.bin .mul (.lit 60) (.var 16))) (.bin .add (.lit 36) (.bin .mul (.lit 60) (.bin (.bits 6 .i64) (.bin .sub (.bin .tmod (.wrap .i64 (.var 5)) (.bin .add (.bin .add (.lit 36) (.bin .mul (.lit 60) (.var 4))) (.lit 1))) (.lit 36)) (.lit 60))))) (.assert (.pr 12 [(.var 6), (.var 0), (.var 1), (.var 2), (.var 3), (.bin (.bits 6 .i64) (.bin .sub (.bin .tmod (.wrap .i64 (.var 5)) (.bin .add (.bin .add (.lit 36) (.bin .mul (.lit 60) (.var 4))) (.lit 1))) (.lit 36)) (.lit 60))]) (.havoc false (.havoc true (.havoc false (.assume (.tt (.bin .le (.lit 0) (.var 21))) (.assume (.tt (.bin .le (.var 21) (.var 4))) (.assume (.same (.var 23) (.bin .add (.lit 36) (.bin .mul (.lit 60) (.var 21)))) (.assume (.pr 12 [(.var 22), (.var 0), (.var 1), (.var 2), (.var 3), (.var 21)]) (.branch (.bin .lt (.var 21) (.var 4)) (.assert (.tt (.bin .le (.lit 0) (.bin .add (.lit 36) (.bin .mul (.lit 60) (.var 21))))) (.assert (.tt (.bin .le (.bin .add (.lit 36) (.bin .mul (.lit 60) (.var 21))) (.bin .add (.lit 36) (.bin .mul (.lit 60) (.var 21))))) (.assert (.tt (.bin .le (.bin .add (.lit 36) (.bin .mul (.lit 60) (.var 21))) (.lit 1000000))) (.assert (.tt (.bin .le (.bin .add (.lit 36) (.bin .mul (.lit 60) (.var 21))) (.lit 30036))) (.assert (.byt (.var 22) (.bin .add (.lit 36) (.bin .mul (.lit 60) (.var 21)))) (.assert (.pr 15 [(.var 22), (.bin .add (.lit 36) (.bin .mul (.lit 60) (.var 21)))]) (.havoc true (.havoc false (.havoc false (.havoc false (.havoc false (.havoc false (.assume (.same (.var 26) (.fn 4 (.var 22) (.lit 8) (.lit 0) (.lit 0))) (.assume (.same (.var 27) (.fn 4 (.var 22) (.lit 16) (.lit 0) (.lit 0))) (.assume (.same (.var 28) (.fn 4 (.var 22) (.lit 24) (.lit 0) (.lit 0))) (.assume (.same (.var 29) (.bin .add (.lit 36) (.bin .mul (.lit 60) (.var 25)))) (.assume (.pr 16 [(.var 22), (.bin .add (.lit 36) (.bin .mul (.lit 60) (.var 21))), (.var 25)]) (.assume (.pr 17 [(.var 22), (.var 24), (.var 25)]) (.branch (.bin .lt (.bin .add (.lit 36) (.bin .mul (.lit 60) (.var 25))) (.bin .add (.lit 36) (.bin .mul (.lit 60) (.var 21)))) (.fail 100) (.branch (.bin .eq (.var 25) (.lit 500)) (.fail 100) (.havoc false (.assume (.same (.var 30) (.fn 2 (.var 22) (.lit 0) (.bin .add (.lit 36) (.bin .mul (.lit 60) (.var 21))) (.lit 2166136261))) (.assert (.tt (.bin .le (.bin .add (.lit 36) (.bin .mul (.lit 60) (.var 21))) (.lit 40000))) (.assert (.rng .u32 (.fn 2 (.var 22) (.lit 0) (.bin .add (.lit 36) (.bin .mul (.lit 60) (.var 21))) (.lit 2166136261))) (.havoc true (.havoc false (.havoc false (.assume (.same (.var 33) (.bin .add (.bin .add (.lit 36) (.bin .mul (.lit 60) (.var 21))) (.lit 60))) (.assume (.pr 11 [(.var 31), (.var 32), (.var 22), (.bin .add (.lit 36) (.bin .mul (.lit 60) (.var 21))), (.fn 2 (.var 22) (.lit 0) (.bin .add (.lit 36) (.bin .mul (.lit 60) (.var 21))) (.lit 2166136261)), (.sel (.var 3) (.var 21) 0), (.sel (.var 3) (.var 21) 1), (.sel (.var 3) (.var 21) 2), (.sel (.var 3) (.var 21) 3), (.sel (.var 3) (.var 21) 4), (.sel (.var 3) (.var 21) 5), (.sel (.var 3) (.var 21) 6)]) (.assert (.rng .i64 (.bin .add (.var 21) (.lit 1))) (.assert (.tt (.bin .le (.lit 0) (.bin .add (.var 21) (.lit 1)))) (.assert (.tt (.bin .le (.bin .add (.var 21) (.lit 1)) (.var 4))) (.assert (.same (.bin .add (.bin .add (.lit 36) (.bin .mul (.lit 60) (.var 21))) (.lit 60)) (.bin .add (.lit 36) (.bin .mul (.lit 60) (.bin .add (.var 21) (.lit 1))))) (.assert (.pr 12 [(.var 31), (.var 0), (.var 1), (.var 2), (.var 3), (.bin .add (.var 21) (.lit 1))]) (.assert (.tt (.bin .le (.lit 0) (.bin .sub (.var 4) (.bin .add (.var 21) (.lit 1))))) (.assert (.tt (.bin .lt (.bin .sub (.var 4) (.bin .add (.var 21) (.lit 1))) (.bin .sub (.var 4) (.var 21)))) .ok)))))))))))))))))))))))))))))))))))) (.assert (.tt (.bin .le (.bin .add (.lit 36) (.bin .mul (.lit 60) (.var 4))) (.bin .add (.lit 36) (.bin .mul (.lit 60) (.var 4))))) (.assert (.tt (.bin .le (.bin .add (.lit 36) (.bin .mul (.lit 60) (.var 21))) (.bin .add (.lit 36) (.bin .mul (.lit 60) (.var 21))))) (.assert (.byt (.var 22) (.bin .add (.lit 36) (.bin .mul (.lit 60) (.var 21)))) (.branch (.teq (.var 6) (.bin .add (.lit 36) (.bin .mul (.lit 60) (.var 4))) (.var 22) (.bin .add (.lit 36) (.bin .mul (.lit 60) (.var 21)))) .ok (.fail 100))))))))))))))))))))))))))))))))))))))))))))))))))))))))))))))))))))))))))))))))))))))))

theorem EncP.less {F Q : Tb} {a b c : Int} {k m : Nat} (h : EncP F a b c Q m) (hk : k ≤ m) : EncP F a b c Q k := ⟨h.head, fun j hj => h.ent j (by omega)⟩
theorem EncP.headOk {F Q : Tb} {a b c : Int} {m n : Nat} (h : EncP F a b c Q m) (hn : 36 ≤ n) : HeadOk F n := ⟨hn, h.head.magic, h.head.chk⟩
theorem EncP.valid {F Q : Tb} {a b c : Int} {k m n : Nat} (h : EncP F a b c Q m) (hk : k ≤ m) (h1 : 36 + 60 * k ≤ n) (h2 : n < 36 + 60 * k + 60) : Valid F n k := ⟨h1, fun j hj => (h.ent j (by omega)).2, fun h3 => by omega⟩

theorem vCutsH : ∀ ds, Sorts cCutsH.sorts ds → tCutsH.vc JI ds := by
  refine all_i fun a => all_i fun b => all_i fun c => all_t fun Q => all_i fun n => all_i fun at' => all_n ?_
  set_option linter.unusedSimpArgs false in
  simp only [tCutsH, Tree.vc, PE.den, E.den, dens, BO.ev, List.getElem?_cons_zero, List.getElem?_cons_succ, List.cons_append, List.nil_append, Option.some.injEq, D.i.injEq, D.t.injEq, exists_eq_left', exists_const, forall_const, forall_eq', one_ne, one_eq, zero_ne, zero_eq, min_i64, max_i64, min_u8, max_u8, min_u16, max_u16, min_u32, max_u32, min_u64, max_u64, and_true, true_and, J1, J2, J3, J4, P0, P10, P11, P12, P14, P15, P16, P17, P18, P19, P20, P22]
  intro h0 _ _ _ _ hat hlt
  refine ⟨fun _ => trivial, fun hn => ⟨by omega, ?_⟩⟩
  intro F hE
  rw [i64_same hat.1 hat.2]
  have hm : at'.tmod (36 + 60 * n + 1) = at' % (36 + 60 * n + 1) := Int.tmod_eq_emod_of_nonneg hat.1
  rw [hm] at hlt ⊢
  have hi0 : 0 ≤ at' % (36 + 60 * n + 1) := Int.emod_nonneg _ (by omega)
  have hi1 : at' % (36 + 60 * n + 1) < 36 + 60 * n + 1 := Int.emod_lt_of_pos _ (by omega)
  generalize at' % (36 + 60 * n + 1) = i at hlt hi0 hi1 ⊢
  have hnh : ¬ HeadOk F i.toNat := fun h => by have := h.1; omega
  refine ⟨by omega, by omega, fun h => h trivial, fun _ => ⟨by omega, by omega, by omega, by omega, by omega, by omega, ⟨_, _, rfl, rfl, fun r hr => hE.byte r (by omega)⟩, hnh, fun _ => trivial, fun h => absurd hlt h⟩⟩
theorem vCutsE : ∀ ds, Sorts cCutsE.sorts ds → tCutsE.vc JI ds := by
  refine all_i fun a => all_i fun b => all_i fun c => all_t fun Q => all_i fun n => all_i fun at' => all_n ?_
  set_option linter.unusedSimpArgs false in
  simp only [tCutsE, Tree.vc, PE.den, E.den, dens, BO.ev, List.getElem?_cons_zero, List.getElem?_cons_succ, List.cons_append, List.nil_append, Option.some.injEq, D.i.injEq, D.t.injEq, exists_eq_left', exists_const, forall_const, forall_eq', one_ne, one_eq, zero_ne, zero_eq, min_i64, max_i64, min_u8, max_u8, min_u16, max_u16, min_u32, max_u32, min_u64, max_u64, and_true, true_and, J1, J2, J3, J4, P0, P10, P11, P12, P14, P15, P16, P17, P18, P19, P20, P22]
  intro h0 ha hb hc hQ hat hlt
  refine ⟨fun _ => trivial, fun hn => ⟨by omega, ?_⟩⟩
  intro F hE
  rw [i64_same hat.1 hat.2]
  have hm : at'.tmod (36 + 60 * n + 1) = at' % (36 + 60 * n + 1) := Int.tmod_eq_emod_of_nonneg hat.1
  rw [hm] at hlt ⊢
  have hi0 : 0 ≤ at' % (36 + 60 * n + 1) := Int.emod_nonneg _ (by omega)
  have hi1 : at' % (36 + 60 * n + 1) < 36 + 60 * n + 1 := Int.emod_lt_of_pos _ (by omega)
  generalize at' % (36 + 60 * n + 1) = i at hlt hi0 hi1 ⊢
  rw [quo60 (by omega) (by omega)]
  have hk : 0 ≤ (i - 36) / 60 ∧ (i - 36) / 60 ≤ n ∧ 36 + 60 * ((i - 36) / 60) ≤ i ∧ i < 36 + 60 * ((i - 36) / 60) + 60 := by omega
  generalize (i - 36) / 60 = k at hk ⊢
  obtain ⟨k0, k1, k2, k3⟩ := hk
  have hV : Valid F i.toNat k.toNat := hE.valid (by omega) (by omega) (by omega)
  have g8 : getI F 8 = a := getI_enc (at' := 8) hE.head.lim (fun r hr => rfl) ha
  have g16 : getI F 16 = b := getI_enc (at' := 16) hE.head.age (fun r hr => rfl) hb
  have g24 : getI F 24 = c := getI_enc (at' := 24) hE.head.keep (fun r hr => rfl) hc
  refine ⟨by omega, by omega, fun h => h trivial, fun _ => ⟨by omega, by omega, by omega, by omega, by omega, by omega, ⟨_, _, rfl, rfl, fun r hr => hE.byte r (by omega)⟩, hE.headOk (by omega), ?_⟩⟩
  rintro f m _ _ _ _ _ _ _ _ ⟨hm0, hm1⟩ hR
  have hmk : m = k := by
    have := hm1.unique hV
    omega
  subst hmk
  have hrow : ∀ r : Int, 0 ≤ r → r < m → RowEq f Q r := fun r r0 r1 => rows_read hE (k := m.toNat) (by omega) (fun _ _ => rfl) hR (fun r a b j hj => hQ r a (by omega) j hj) r r0 (by omega)
  refine ⟨fun h => by omega, fun _ => ⟨by omega, by omega, by omega, fun h => h (by omega), fun _ => ⟨by omega, by omega, by omega, by omega, fun q hq => ⟨fun h => hq.2 ⟨⟨g8, g16, g24⟩, rfl, hrow⟩ h, fun _ => ?_⟩⟩⟩⟩
  rintro f2 m2 _ _ _ _ _ _ _ _ ⟨hm2, hm3⟩ hR2
  have hmk2 : m2 = m := by
    have := hm3.unique hV
    omega
  subst hmk2
  have hby : ∀ r : Nat, (r : Int) < 36 + 60 * m2 → 0 ≤ F r 0 ∧ F r 0 ≤ 255 := fun r hr => hE.byte r (by omega)
  refine ⟨by omega, by omega, by omega, by omega, by omega, by omega, fun h => h rfl, fun _ => ⟨by omega, by omega, by omega, ⟨_, _, rfl, rfl, hby⟩, ⟨_, _, rfl, rfl, hby⟩, fun h => strEq_iff.2 ⟨rfl, fun _ _ => rfl⟩ h, fun _ => ⟨rfl, hE.less (by omega), ?_⟩⟩⟩
  rintro j T _ hj0 hj1 rfl hT
  have hbT : ∀ r : Nat, (r : Int) < 36 + 60 * j → 0 ≤ T r 0 ∧ T r 0 ≤ 255 := fun r hr => hT.byte r (by omega)
  refine ⟨fun hlt => ?_, fun hge => ?_⟩
  · have hL : (36 + 60 * j).toNat = 36 + 60 * j.toNat := by omega
    have ej : ((j.toNat : Nat) : Int) = j := by omega
    have hVT : Valid T (36 + 60 * j.toNat) j.toNat := hT.valid (Nat.le_refl _) (by omega) (by omega)
    have hr := fnv_range T 0 offs_range (36 + 60 * j.toNat)
    rw [hL]
    refine ⟨by omega, by omega, by omega, by omega, ⟨_, _, rfl, rfl, hbT⟩, hT.headOk (by omega), ?_⟩
    rintro f3 m3 _ _ _ _ _ _ _ _ ⟨hm4, hm5⟩ hR3
    have hmk3 : m3 = j := by
      have := hm5.unique hVT
      omega
    subst hmk3
    refine ⟨fun h => by omega, fun _ => ⟨fun h => by omega, fun _ => ⟨by omega, ⟨hr.1, Int.le_of_lt_add_one hr.2⟩, ?_⟩⟩⟩
    intro R h' hA
    have hA' : Added R h' T (36 + 60 * (m3.toNat : Nat) : Int) (fnv T 0 (36 + 60 * m3.toNat) offs) (cols (Q m3 0) (Q m3 1) (Q m3 2) (Q m3 3) (Q m3 4) (Q m3 5) (Q m3 6)) := by rw [ej]; exact hA
    obtain ⟨h2, _⟩ := enc_next hT hA' fun q hq => by
      rw [ej]
      match q, hq with
      | 0, _ => rfl
      | 1, _ => rfl
      | 2, _ => rfl
      | 3, _ => rfl
      | 4, _ => rfl
      | 5, _ => rfl
      | 6, _ => rfl
    rw [show (m3 + 1).toNat = m3.toNat + 1 by omega]
    exact ⟨by omega, by omega, by omega, by omega, h2, by omega, by omega⟩
  · have hjn : j = n := by omega
    subst hjn
    exact ⟨by omega, by omega, ⟨_, _, rfl, rfl, hbT⟩, fun _ => trivial, fun h => strEq_iff.2 ⟨rfl, fun r hr => hE.unique hT r (by omega)⟩ h⟩
end Go.Jn

namespace Go.Jn
open Go Go.Sx Go.Mg
set_option maxRecDepth 10000
def tRSum : Tree := (.assume (.tt (.bin .le (.lit 0) (.var 2))) (.assume (.tt (.bin .le (.lit 0) (.var 3))) (.assume (.tt (.bin .le (.bin .add (.var 2) (.var 3)) (.var 1))) (.assume (.tt (.bin .le (.var 1) (.lit 1000000))) (.assert (.same (.lit 2166136261) (.fn 2 (.var 0) (.var 2) (.lit 0) (.lit 2166136261))) (.havoc false (.havoc false (.assume (.tt (.bin .le (.lit 0) (.var 4))) (.assume (.tt (.bin .le (.var 4) (.var 3))) (.assume (.same (.var 5) (.fn 2 (.var 0) (.var 2) (.var 4) (.lit 2166136261))) (.branch (.bin .lt (.var 4) (.var 3)) (.assert (.tt (.bin .le (.lit 0) (.bin .add (.var 2) (.var 4)))) (.assert (.tt (.bin .lt (.bin .add (.var 2) (.var 4)) (.var 1))) (.assert (.rng .i64 (.bin .add (.var 4) (.lit 1))) (.assert (.tt (.bin .le (.lit 0) (.bin .add (.var 4) (.lit 1)))) (.assert (.tt (.bin .le (.bin .add (.var 4) (.lit 1)) (.var 3))) (.assert (.same (.wrap .u32 (.bin .mul (.bin (.bits 2 .u32) (.fn 2 (.var 0) (.var 2) (.var 4) (.lit 2166136261)) (.wrap .u32 (.sel (.var 0) (.bin .add (.var 2) (.var 4)) 0))) (.lit 16777619))) (.fn 2 (.var 0) (.var 2) (.bin .add (.var 4) (.lit 1)) (.lit 2166136261))) (.assert (.tt (.bin .le (.lit 0) (.bin .sub (.var 3) (.bin .add (.var 4) (.lit 1))))) (.assert (.tt (.bin .lt (.bin .sub (.var 3) (.bin .add (.var 4) (.lit 1))) (.bin .sub (.var 3) (.var 4)))) .ok)))))))) (.assert (.same (.fn 2 (.var 0) (.var 2) (.var 4) (.lit 2166136261)) (.fn 2 (.var 0) (.var 2) (.var 3) (.lit 2166136261))) .ok))))))))))))
def tRNumber : Tree := (.assert (.same (.upd (.upd (.upd (.upd (.upd (.upd (.upd (.upd .zt (.lit 0) 0 (.wrap .u8 (.bin .tmod (.bin (.bits 6 .u64) (.bin (.bits 6 .u64) (.bin (.bits 6 .u64) (.bin (.bits 6 .u64) (.bin (.bits 6 .u64) (.bin (.bits 6 .u64) (.bin (.bits 6 .u64) (.wrap .u64 (.var 0)) (.lit 256)) (.lit 256)) (.lit 256)) (.lit 256)) (.lit 256)) (.lit 256)) (.lit 256)) (.lit 256)))) (.lit 1) 0 (.wrap .u8 (.bin .tmod (.bin (.bits 6 .u64) (.bin (.bits 6 .u64) (.bin (.bits 6 .u64) (.bin (.bits 6 .u64) (.bin (.bits 6 .u64) (.bin (.bits 6 .u64) (.wrap .u64 (.var 0)) (.lit 256)) (.lit 256)) (.lit 256)) (.lit 256)) (.lit 256)) (.lit 256)) (.lit 256)))) (.lit 2) 0 (.wrap .u8 (.bin .tmod (.bin (.bits 6 .u64) (.bin (.bits 6 .u64) (.bin (.bits 6 .u64) (.bin (.bits 6 .u64) (.bin (.bits 6 .u64) (.wrap .u64 (.var 0)) (.lit 256)) (.lit 256)) (.lit 256)) (.lit 256)) (.lit 256)) (.lit 256)))) (.lit 3) 0 (.wrap .u8 (.bin .tmod (.bin (.bits 6 .u64) (.bin (.bits 6 .u64) (.bin (.bits 6 .u64) (.bin (.bits 6 .u64) (.wrap .u64 (.var 0)) (.lit 256)) (.lit 256)) (.lit 256)) (.lit 256)) (.lit 256)))) (.lit 4) 0 (.wrap .u8 (.bin .tmod (.bin (.bits 6 .u64) (.bin (.bits 6 .u64) (.bin (.bits 6 .u64) (.wrap .u64 (.var 0)) (.lit 256)) (.lit 256)) (.lit 256)) (.lit 256)))) (.lit 5) 0 (.wrap .u8 (.bin .tmod (.bin (.bits 6 .u64) (.bin (.bits 6 .u64) (.wrap .u64 (.var 0)) (.lit 256)) (.lit 256)) (.lit 256)))) (.lit 6) 0 (.wrap .u8 (.bin .tmod (.bin (.bits 6 .u64) (.wrap .u64 (.var 0)) (.lit 256)) (.lit 256)))) (.lit 7) 0 (.wrap .u8 (.bin .tmod (.wrap .u64 (.var 0)) (.lit 256)))) (.fn 1 .zt (.lit 0) (.var 0) (.lit 0))) .ok)
def tRSealed : Tree := (.assume (.tt (.bin .le (.lit 1) (.var 2))) (.assume (.tt (.bin .le (.var 2) (.var 1))) (.assume (.tt (.bin .le (.var 1) (.lit 900000))) (.assert (.tt (.bin .le (.lit 0) (.var 2))) (.assert (.tt (.bin .le (.var 1) (.lit 1000000))) (.havoc false (.assume (.same (.var 3) (.fn 2 (.var 0) (.lit 0) (.var 2) (.lit 2166136261))) (.assert (.tt (.bin .le (.var 2) (.lit 1000000))) (.assert (.tt (.bin .le (.bin .add (.var 2) (.lit 4)) (.lit 1000000))) (.assert (.pr 21 [(.upd (.upd (.upd (.upd (.var 0) (.var 2) 0 (.wrap .u8 (.bin (.bits 6 .u32) (.fn 2 (.var 0) (.lit 0) (.var 2) (.lit 2166136261)) (.lit 16777216)))) (.bin .add (.var 2) (.lit 1)) 0 (.wrap .u8 (.bin .tmod (.bin (.bits 6 .u32) (.fn 2 (.var 0) (.lit 0) (.var 2) (.lit 2166136261)) (.lit 65536)) (.lit 256)))) (.bin .add (.var 2) (.lit 2)) 0 (.wrap .u8 (.bin .tmod (.bin (.bits 6 .u32) (.fn 2 (.var 0) (.lit 0) (.var 2) (.lit 2166136261)) (.lit 256)) (.lit 256)))) (.bin .add (.var 2) (.lit 3)) 0 (.wrap .u8 (.bin .tmod (.fn 2 (.var 0) (.lit 0) (.var 2) (.lit 2166136261)) (.lit 256)))), (.var 0), (.var 2)]) .ok))))))))))
def tRHeader : Tree := (.havoc true (.havoc false (.assume (.same (.var 4) (.lit 8)) (.assume (.same (.var 3) (.fn 1 .zt (.lit 0) (.var 0) (.lit 0))) (.havoc true (.havoc false (.assume (.same (.var 6) (.lit 8)) (.assume (.same (.var 5) (.fn 1 .zt (.lit 0) (.var 1) (.lit 0))) (.havoc true (.havoc false (.assume (.same (.var 8) (.lit 8)) (.assume (.same (.var 7) (.fn 1 .zt (.lit 0) (.var 2) (.lit 0))) (.havoc true (.havoc false (.assume (.same (.var 10) (.lit 36)) (.assume (.pr 21 [(.var 9), (.cat (.cat (.cat (.upd (.upd (.upd (.upd (.upd (.upd (.upd (.upd .zt (.lit 0) 0 (.lit 112)) (.lit 1) 0 (.lit 111)) (.lit 2) 0 (.lit 108)) (.lit 3) 0 (.lit 100)) (.lit 4) 0 (.lit 101)) (.lit 5) 0 (.lit 114)) (.lit 6) 0 (.lit 49)) (.lit 7) 0 (.lit 10)) (.lit 8) (.fn 1 .zt (.lit 0) (.var 0) (.lit 0))) (.lit 16) (.fn 1 .zt (.lit 0) (.var 1) (.lit 0))) (.lit 24) (.fn 1 .zt (.lit 0) (.var 2) (.lit 0))), (.lit 32)]) (.assert (.pr 10 [(.var 9), (.var 0), (.var 1), (.var 2)]) .ok)))))))))))))))))
def tRWith : Tree := (.assume (.tt (.bin .le (.lit 1) (.var 1))) (.assume (.tt (.bin .le (.var 1) (.lit 40000))) (.assert (.tt (.bin .le (.var 1) (.lit 1000000))) (.havoc true (.havoc false (.assume (.same (.var 10) (.lit 8)) (.assume (.same (.var 9) (.fn 1 .zt (.lit 0) (.var 2) (.lit 0))) (.assert (.tt (.bin .le (.bin .add (.var 1) (.lit 8)) (.lit 1000000))) (.havoc true (.havoc false (.assume (.same (.var 12) (.lit 8)) (.assume (.same (.var 11) (.fn 1 .zt (.lit 0) (.var 3) (.lit 0))) (.assert (.tt (.bin .le (.bin .add (.var 1) (.lit 16)) (.lit 1000000))) (.havoc true (.havoc false (.assume (.same (.var 14) (.lit 8)) (.assume (.same (.var 13) (.fn 1 .zt (.lit 0) (.var 4) (.lit 0))) (.assert (.tt (.bin .le (.bin .add (.var 1) (.lit 24)) (.lit 1000000))) (.havoc true (.havoc false (.assume (.same (.var 16) (.lit 8)) (.assume (.same (.var 15) (.fn 1 .zt (.lit 0) (.var 5) (.lit 0))) (.assert (.tt (.bin .le (.bin .add (.var 1) (.lit 32)) (.lit 1000000))) (.havoc true (.havoc false (.assume (.same (.var 18) (.lit 8)) (.assume (.same (.var 17) (.fn 1 .zt (.lit 0) (.var 6) (.lit 0))) (.assert (.tt (.bin .le (.bin .add (.var 1) (.lit 40)) (.lit 1000000))) (.havoc true (.havoc false (.assume (.same (.var 20) (.lit 8)) (.assume (.same (.var 19) (.fn 1 .zt (.lit 0) (.var 7) (.lit 0))) (.assert (.tt (.bin .le (.bin .add (.var 1) (.lit 48)) (.lit 1000000))) (.havoc true (.havoc false (.assume (.same (.var 22) (.lit 8)) (.assume (.same (.var 21) (.fn 1 .zt (.lit 0) (.var 8) (.lit 0))) (.assert (.tt (.bin .le (.bin .add (.var 1) (.lit 56)) (.lit 1000000))) (.assert (.tt (.bin .le (.lit 1) (.bin .add (.var 1) (.lit 56)))) (.assert (.tt (.bin .le (.bin .add (.var 1) (.lit 56)) (.bin .add (.var 1) (.lit 56)))) (.assert (.tt (.bin .le (.bin .add (.var 1) (.lit 56)) (.lit 900000))) (.havoc true (.havoc false (.assume (.same (.var 24) (.bin .add (.var 1) (.lit 60))) (.assume (.pr 21 [(.var 23), (.cat (.cat (.cat (.cat (.cat (.cat (.cat (.var 0) (.var 1) (.fn 1 .zt (.lit 0) (.var 2) (.lit 0))) (.bin .add (.var 1) (.lit 8)) (.fn 1 .zt (.lit 0) (.var 3) (.lit 0))) (.bin .add (.var 1) (.lit 16)) (.fn 1 .zt (.lit 0) (.var 4) (.lit 0))) (.bin .add (.var 1) (.lit 24)) (.fn 1 .zt (.lit 0) (.var 5) (.lit 0))) (.bin .add (.var 1) (.lit 32)) (.fn 1 .zt (.lit 0) (.var 6) (.lit 0))) (.bin .add (.var 1) (.lit 40)) (.fn 1 .zt (.lit 0) (.var 7) (.lit 0))) (.bin .add (.var 1) (.lit 48)) (.fn 1 .zt (.lit 0) (.var 8) (.lit 0))), (.bin .add (.var 1) (.lit 56))]) (.assert (.pr 23 [(.var 23), (.var 0), (.var 1), (.var 2), (.var 3), (.var 4), (.var 5), (.var 6), (.var 7), (.var 8)]) .ok))))))))))))))))))))))))))))))))))))))))))))))
def tREncode : Tree := (.assume (.tt (.bin .le (.lit 0) (.var 4))) (.assume (.tt (.bin .le (.var 4) (.lit 500))) (.havoc true (.havoc false (.assume (.same (.var 6) (.lit 36)) (.assume (.pr 10 [(.var 5), (.var 0), (.var 1), (.var 2)]) (.assert (.pr 12 [(.var 5), (.var 0), (.var 1), (.var 2), (.var 3), (.lit 0)]) (.havoc true (.havoc false (.havoc false (.assume (.tt (.bin .le (.lit 0) (.var 9))) (.assume (.tt (.bin .le (.var 9) (.var 4))) (.assume (.same (.var 8) (.bin .add (.lit 36) (.bin .mul (.lit 60) (.var 9)))) (.assume (.pr 12 [(.var 7), (.var 0), (.var 1), (.var 2), (.var 3), (.var 9)]) (.branch (.bin .lt (.var 9) (.var 4)) (.assert (.tt (.bin .le (.lit 1) (.bin .add (.lit 36) (.bin .mul (.lit 60) (.var 9))))) (.assert (.tt (.bin .le (.bin .add (.lit 36) (.bin .mul (.lit 60) (.var 9))) (.lit 40000))) (.havoc true (.havoc false (.assume (.same (.var 11) (.bin .add (.bin .add (.lit 36) (.bin .mul (.lit 60) (.var 9))) (.lit 60))) (.assume (.pr 23 [(.var 10), (.var 7), (.bin .add (.lit 36) (.bin .mul (.lit 60) (.var 9))), (.sel (.var 3) (.var 9) 0), (.sel (.var 3) (.var 9) 1), (.sel (.var 3) (.var 9) 2), (.sel (.var 3) (.var 9) 3), (.sel (.var 3) (.var 9) 4), (.sel (.var 3) (.var 9) 5), (.sel (.var 3) (.var 9) 6)]) (.assert (.rng .i64 (.bin .add (.var 9) (.lit 1))) (.assert (.tt (.bin .le (.lit 0) (.bin .add (.var 9) (.lit 1)))) (.assert (.tt (.bin .le (.bin .add (.var 9) (.lit 1)) (.var 4))) (.assert (.same (.bin .add (.bin .add (.lit 36) (.bin .mul (.lit 60) (.var 9))) (.lit 60)) (.bin .add (.lit 36) (.bin .mul (.lit 60) (.bin .add (.var 9) (.lit 1))))) (.assert (.pr 12 [(.var 10), (.var 0), (.var 1), (.var 2), (.var 3), (.bin .add (.var 9) (.lit 1))]) (.assert (.tt (.bin .le (.lit 0) (.bin .sub (.var 4) (.bin .add (.var 9) (.lit 1))))) (.assert (.tt (.bin .lt (.bin .sub (.var 4) (.bin .add (.var 9) (.lit 1))) (.bin .sub (.var 4) (.var 9)))) .ok))))))))))))) (.assert (.same (.bin .add (.lit 36) (.bin .mul (.lit 60) (.var 9))) (.bin .add (.lit 36) (.bin .mul (.lit 60) (.var 4)))) (.assert (.pr 12 [(.var 7), (.var 0), (.var 1), (.var 2), (.var 3), (.var 4)]) .ok)))))))))))))))))
def tLong18 : Tree := (.assume (.tt (.bin .le (.lit 501) (.var 4))) (.branch (.bin .lt (.lit 500) (.var 4)) .ok (.havoc true (.havoc false (.assume (.same (.var 6) (.lit 36)) (.assume (.pr 10 [(.var 5), (.var 0), (.var 1), (.var 2)]) (.havoc false (.assume (.same (.var 7) (.fn 2 (.var 5) (.lit 0) (.lit 36) (.lit 2166136261))) (.assert (.tt (.bin .le (.lit 0) (.var 4))) (.assert (.pr 12 [(.var 5), (.var 0), (.var 1), (.var 2), (.var 3), (.lit 0)]) (.havoc true (.havoc false (.havoc false (.havoc false (.assume (.tt (.bin .le (.lit 0) (.var 10))) (.assume (.tt (.bin .le (.var 10) (.var 4))) (.assume (.same (.var 9) (.bin .add (.lit 36) (.bin .mul (.lit 60) (.var 10)))) (.assume (.pr 12 [(.var 8), (.var 0), (.var 1), (.var 2), (.var 3), (.var 10)]) (.assume (.same (.var 11) (.fn 2 (.var 8) (.lit 0) (.bin .add (.lit 36) (.bin .mul (.lit 60) (.var 10))) (.lit 2166136261))) (.branch (.bin .lt (.var 10) (.var 4)) (.assert (.tt (.bin .le (.lit 0) (.bin .add (.lit 36) (.bin .mul (.lit 60) (.var 10))))) (.assert (.tt (.bin .le (.bin .add (.lit 36) (.bin .mul (.lit 60) (.var 10))) (.lit 40000))) (.assert (.rng .u32 (.fn 2 (.var 8) (.lit 0) (.bin .add (.lit 36) (.bin .mul (.lit 60) (.var 10))) (.lit 2166136261))) (.havoc true (.havoc false (.havoc false (.assume (.same (.var 14) (.bin .add (.bin .add (.lit 36) (.bin .mul (.lit 60) (.var 10))) (.lit 60))) (.assume (.pr 11 [(.var 12), (.var 13), (.var 8), (.bin .add (.lit 36) (.bin .mul (.lit 60) (.var 10))), (.fn 2 (.var 8) (.lit 0) (.bin .add (.lit 36) (.bin .mul (.lit 60) (.var 10))) (.lit 2166136261)), (.sel (.var 3) (.var 10) 0), (.sel (.var 3) (.var 10) 1), (.sel (.var 3) (.var 10) 2), (.sel (.var 3) (.var 10) 3), (.sel (.var 3) (.var 10) 4), (.sel (.var 3) (.var 10) 5), (.sel (.var 3) (.var 10) 6)]) (.assert (.rng .i64 (.bin .add (.var 10) (.lit 1))) (.assert (.tt (.bin .le (.lit 0) (.bin .add (.var 10) (.lit 1)))) (.assert (.tt (.bin .le (.bin .add (.var 10) (.lit 1)) (.var 4))) (.assert (.same (.bin .add (.bin .add (.lit 36) (.bin .mul (.lit 60) (.var 10))) (.lit 60)) (.bin .add (.lit 36) (.bin .mul (.lit 60) (.bin .add (.var 10) (.lit 1))))) (.assert (.pr 12 [(.var 12), (.var 0), (.var 1), (.var 2), (.var 3), (.bin .add (.var 10) (.lit 1))]) (.assert (.same (.var 13) (.fn 2 (.var 12) (.lit 0) (.bin .add (.lit 36) (.bin .mul (.lit 60) (.bin .add (.var 10) (.lit 1)))) (.lit 2166136261))) (.assert (.tt (.bin .le (.lit 0) (.bin .sub (.var 4) (.bin .add (.var 10) (.lit 1))))) (.assert (.tt (.bin .lt (.bin .sub (.var 4) (.bin .add (.var 10) (.lit 1))) (.bin .sub (.var 4) (.var 10)))) .ok)))))))))))))))) (.fail 100)))))))))))))))))))))
def tLong19 : Tree := (.assume (.tt (.bin .le (.lit 501) (.var 4))) (.branch (.bin .lt (.lit 500) (.var 4)) .ok (.havoc true (.havoc false (.assume (.same (.var 6) (.lit 36)) (.assume (.pr 10 [(.var 5), (.var 0), (.var 1), (.var 2)]) (.assert (.tt (.bin .le (.lit 0) (.var 4))) (.assert (.pr 12 [(.var 5), (.var 0), (.var 1), (.var 2), (.var 3), (.lit 0)]) (.havoc true (.havoc false (.havoc false (.assume (.tt (.bin .le (.lit 0) (.var 9))) (.assume (.tt (.bin .le (.var 9) (.var 4))) (.assume (.same (.var 8) (.bin .add (.lit 36) (.bin .mul (.lit 60) (.var 9)))) (.assume (.pr 12 [(.var 7), (.var 0), (.var 1), (.var 2), (.var 3), (.var 9)]) (.branch (.bin .lt (.var 9) (.var 4)) (.assert (.tt (.bin .le (.lit 1) (.bin .add (.lit 36) (.bin .mul (.lit 60) (.var 9))))) (.assert (.tt (.bin .le (.bin .add (.lit 36) (.bin .mul (.lit 60) (.var 9))) (.lit 40000))) (.havoc true (.havoc false (.assume (.same (.var 11) (.bin .add (.bin .add (.lit 36) (.bin .mul (.lit 60) (.var 9))) (.lit 60))) (.assume (.pr 23 [(.var 10), (.var 7), (.bin .add (.lit 36) (.bin .mul (.lit 60) (.var 9))), (.sel (.var 3) (.var 9) 0), (.sel (.var 3) (.var 9) 1), (.sel (.var 3) (.var 9) 2), (.sel (.var 3) (.var 9) 3), (.sel (.var 3) (.var 9) 4), (.sel (.var 3) (.var 9) 5), (.sel (.var 3) (.var 9) 6)]) (.assert (.rng .i64 (.bin .add (.var 9) (.lit 1))) (.assert (.tt (.bin .le (.lit 0) (.bin .add (.var 9) (.lit 1)))) (.assert (.tt (.bin .le (.bin .add (.var 9) (.lit 1)) (.var 4))) (.assert (.same (.bin .add (.bin .add (.lit 36) (.bin .mul (.lit 60) (.var 9))) (.lit 60)) (.bin .add (.lit 36) (.bin .mul (.lit 60) (.bin .add (.var 9) (.lit 1))))) (.assert (.pr 12 [(.var 10), (.var 0), (.var 1), (.var 2), (.var 3), (.bin .add (.var 9) (.lit 1))]) (.assert (.tt (.bin .le (.lit 0) (.bin .sub (.var 4) (.bin .add (.var 9) (.lit 1))))) (.assert (.tt (.bin .lt (.bin .sub (.var 4) (.bin .add (.var 9) (.lit 1))) (.bin .sub (.var 4) (.var 9)))) .ok))))))))))))) (.fail 100)))))))))))))))))
def tCodesOk : Tree := (.assume (.tt (.bin .le (.lit 0) (.var 4))) (.assume (.rng .i64 (.var 0)) (.assume (.rng .i64 (.var 1)) (.assume (.rng .i64 (.var 2)) (.assume (.pr 22 [(.var 3), (.var 4)]) (.assume (.tt (.bin .le (.var 4) (.lit 500))) (.branch (.bin .lt (.lit 60) (.var 4)) .ok (.branch (.bin .lt (.lit 510) (.var 4)) .ok (.havoc true (.havoc false (.assume (.same (.var 6) (.bin .add (.lit 36) (.bin .mul (.lit 60) (.var 4)))) (.assume (.pr 12 [(.var 5), (.var 0), (.var 1), (.var 2), (.var 3), (.var 4)]) (.havoc true (.havoc false (.assume (.same (.var 8) (.bin .add (.lit 36) (.bin .mul (.lit 60) (.var 4)))) (.assume (.pr 12 [(.var 7), (.var 0), (.var 1), (.var 2), (.var 3), (.var 4)]) (.assert (.tt (.bin .le (.bin .add (.lit 36) (.bin .mul (.lit 60) (.var 4))) (.bin .add (.lit 36) (.bin .mul (.lit 60) (.var 4))))) (.assert (.byt (.var 5) (.bin .add (.lit 36) (.bin .mul (.lit 60) (.var 4)))) (.assert (.byt (.var 7) (.bin .add (.lit 36) (.bin .mul (.lit 60) (.var 4)))) (.branch (.bin .eq (.teq (.var 5) (.bin .add (.lit 36) (.bin .mul (.lit 60) (.var 4))) (.var 7) (.bin .add (.lit 36) (.bin .mul (.lit 60) (.var 4)))) (.lit 0)) (.fail 100) (.assert (.tt (.bin .le (.lit 0) (.bin .add (.lit 36) (.bin .mul (.lit 60) (.var 4))))) (.assert (.tt (.bin .le (.bin .add (.lit 36) (.bin .mul (.lit 60) (.var 4))) (.lit 1000000))) (.assert (.tt (.bin .le (.bin .add (.lit 36) (.bin .mul (.lit 60) (.var 4))) (.lit 30036))) (.assert (.pr 15 [(.var 5), (.bin .add (.lit 36) (.bin .mul (.lit 60) (.var 4)))]) (.havoc true (.havoc false (.havoc false (.havoc false (.havoc false (.havoc false (.assume (.same (.var 11) (.fn 4 (.var 5) (.lit 8) (.lit 0) (.lit 0))) (.assume (.same (.var 12) (.fn 4 (.var 5) (.lit 16) (.lit 0) (.lit 0))) (.assume (.same (.var 13) (.fn 4 (.var 5) (.lit 24) (.lit 0) (.lit 0))) (.assume (.same (.var 14) (.bin .add (.lit 36) (.bin .mul (.lit 60) (.var 10)))) (.assume (.pr 16 [(.var 5), (.bin .add (.lit 36) (.bin .mul (.lit 60) (.var 4))), (.var 10)]) (.assume (.pr 17 [(.var 5), (.var 9), (.var 10)]) (.assert (.tt (.bin .le (.lit 0) (.var 10))) (.assert (.tt (.bin .le (.var 10) (.var 10))) (.assert (.tt (.bin .le (.var 10) (.lit 1000000))) (.havoc false (.assume (.pr 20 [(.var 15), (.var 0), (.var 1), (.var 2), (.var 3), (.var 4), (.fn 4 (.var 5) (.lit 8) (.lit 0) (.lit 0)), (.fn 4 (.var 5) (.lit 16) (.lit 0) (.lit 0)), (.fn 4 (.var 5) (.lit 24) (.lit 0) (.lit 0)), (.var 9), (.var 10)]) (.branch (.var 15) (.branch (.bin .eq (.bin .add (.lit 36) (.bin .mul (.lit 60) (.var 10))) (.bin .add (.lit 36) (.bin .mul (.lit 60) (.var 4)))) .ok (.fail 100)) (.fail 100)))))))))))))))))))))))))))))))))))))))))))
def tCodesLong : Tree := .ok

theorem vRSum : ∀ ds, Sorts rSum.sorts ds → tRSum.vc JI ds := by
  refine all_t fun T => all_i fun len => all_i fun lo => all_i fun n => all_n ?_
  set_option linter.unusedSimpArgs false in
  simp only [tRSum, Tree.vc, PE.den, E.den, dens, BO.ev, List.getElem?_cons_zero, List.getElem?_cons_succ, List.cons_append, List.nil_append, Option.some.injEq, D.i.injEq, D.t.injEq, exists_eq_left', exists_const, forall_const, forall_eq', one_ne, one_eq, zero_ne, zero_eq, min_i64, max_i64, min_u8, max_u8, min_u16, max_u16, min_u32, max_u32, min_u64, max_u64, and_true, true_and, J1, J2, J3, J4, P0, P10, P11, P12, P14, P15, P16, P17, P18, P19, P20, P21, P22, P23]
  intro h0 h1 h2 h3
  refine ⟨rfl, ?_⟩
  rintro k _ hk hkn rfl
  refine ⟨fun hlt => ⟨by omega, by omega, by omega, by omega, by omega, ?_, by omega, by omega⟩, fun hge => by rw [show k = n by omega]⟩
  rw [show (k + 1).toNat = k.toNat + 1 by omega]
  simp only [fnv, fstep, show ((k.toNat : Nat) : Int) = k by omega]
theorem q256 {y : Int} (h0 : 0 ≤ y) (h1 : y < 18446744073709551616) : bitsEv 6 .u64 y 256 = y / 256 := by
  have h2 : y.tdiv 256 = y / 256 := Int.tdiv_eq_ediv_of_nonneg h0
  simp only [bitsEv, h2]
  rw [u64_wrap, Int.emod_eq_of_lt (by omega) (by omega)]
theorem q32 {y d : Int} (h0 : 0 ≤ y) (h1 : y < 4294967296) (hd : 1 ≤ d) : bitsEv 6 .u32 y d = y / d := by
  have h2 : y.tdiv d = y / d := Int.tdiv_eq_ediv_of_nonneg h0
  simp only [bitsEv, h2]
  have h3 : 0 ≤ y / d := Int.ediv_nonneg h0 (by omega)
  have h4 : y / d ≤ y := Int.ediv_le_self d h0
  rw [u32_wrap, Int.emod_eq_of_lt h3 (by omega)]
theorem m256 {y : Int} (h0 : 0 ≤ y) : IntKind.u8.wrap (y.tmod 256) = y % 256 := by
  rw [u8_wrap, Int.tmod_eq_emod_of_nonneg h0, Int.emod_emod_of_dvd _ (Int.dvd_refl _)]
theorem vRNumber : ∀ ds, Sorts rNumber.sorts ds → tRNumber.vc JI ds := by
  refine all_i fun x => all_n ?_
  set_option linter.unusedSimpArgs false in
  simp only [tRNumber, Tree.vc, PE.den, E.den, dens, BO.ev, List.getElem?_cons_zero, List.getElem?_cons_succ, List.cons_append, List.nil_append, Option.some.injEq, D.i.injEq, D.t.injEq, exists_eq_left', exists_const, forall_const, forall_eq', one_ne, one_eq, zero_ne, zero_eq, min_i64, max_i64, min_u8, max_u8, min_u16, max_u16, min_u32, max_u32, min_u64, max_u64, and_true, true_and, J1, J2, J3, J4, P0, P10, P11, P12, P14, P15, P16, P17, P18, P19, P20, P21, P22, P23]
  rw [u64_wrap]
  have h0 : 0 ≤ x % 18446744073709551616 := Int.emod_nonneg _ (by decide)
  have h1 : x % 18446744073709551616 < 18446744073709551616 := Int.emod_lt_of_pos _ (by decide)
  have hn : ∀ i, nb x i = x % 18446744073709551616 / 2 ^ (56 - 8 * i) % 256 := fun _ => rfl
  generalize x % 18446744073709551616 = y at h0 h1 hn ⊢
  rw [q256 h0 h1, q256 (y := y / 256) (by omega) (by omega), q256 (y := y / 256 / 256) (by omega) (by omega), q256 (y := y / 256 / 256 / 256) (by omega) (by omega), q256 (y := y / 256 / 256 / 256 / 256) (by omega) (by omega),
    q256 (y := y / 256 / 256 / 256 / 256 / 256) (by omega) (by omega), q256 (y := y / 256 / 256 / 256 / 256 / 256 / 256) (by omega) (by omega)]
  rw [m256 (y := y) (by omega), m256 (y := y / 256) (by omega), m256 (y := y / 256 / 256) (by omega), m256 (y := y / 256 / 256 / 256) (by omega), m256 (y := y / 256 / 256 / 256 / 256) (by omega), m256 (y := y / 256 / 256 / 256 / 256 / 256) (by omega),
    m256 (y := y / 256 / 256 / 256 / 256 / 256 / 256) (by omega), m256 (y := y / 256 / 256 / 256 / 256 / 256 / 256 / 256) (by omega)]
  have e0 : nb x 0 = y / 256 / 256 / 256 / 256 / 256 / 256 / 256 % 256 := by rw [hn]; simp only [Nat.reduceMul, Nat.reduceSub, Int.reducePow]; omega
  have e1 : nb x 1 = y / 256 / 256 / 256 / 256 / 256 / 256 % 256 := by rw [hn]; simp only [Nat.reduceMul, Nat.reduceSub, Int.reducePow]; omega
  have e2 : nb x 2 = y / 256 / 256 / 256 / 256 / 256 % 256 := by rw [hn]; simp only [Nat.reduceMul, Nat.reduceSub, Int.reducePow]; omega
  have e3 : nb x 3 = y / 256 / 256 / 256 / 256 % 256 := by rw [hn]; simp only [Nat.reduceMul, Nat.reduceSub, Int.reducePow]; omega
  have e4 : nb x 4 = y / 256 / 256 / 256 % 256 := by rw [hn]; simp only [Nat.reduceMul, Nat.reduceSub, Int.reducePow]; omega
  have e5 : nb x 5 = y / 256 / 256 % 256 := by rw [hn]; simp only [Nat.reduceMul, Nat.reduceSub, Int.reducePow]; omega
  have e6 : nb x 6 = y / 256 % 256 := by rw [hn]; simp only [Nat.reduceMul, Nat.reduceSub, Int.reducePow]
  have e7 : nb x 7 = y % 256 := by rw [hn]; simp
  rw [← e0, ← e1, ← e2, ← e3, ← e4, ← e5, ← e6, ← e7]
  have := put_eq (fun _ _ => 0) 0 x
  simpa using this
theorem vRSealed : ∀ ds, Sorts rSealed.sorts ds → tRSealed.vc JI ds := by
  refine all_t fun T => all_i fun len => all_i fun n => all_n ?_
  set_option linter.unusedSimpArgs false in
  simp only [tRSealed, Tree.vc, PE.den, E.den, dens, BO.ev, List.getElem?_cons_zero, List.getElem?_cons_succ, List.cons_append, List.nil_append, Option.some.injEq, D.i.injEq, D.t.injEq, exists_eq_left', exists_const, forall_const, forall_eq', one_ne, one_eq, zero_ne, zero_eq, min_i64, max_i64, min_u8, max_u8, min_u16, max_u16, min_u32, max_u32, min_u64, max_u64, and_true, true_and, J1, J2, J3, J4, P0, P10, P11, P12, P14, P15, P16, P17, P18, P19, P20, P21, P22, P23]
  intro h0 h1 h2
  refine ⟨by omega, by omega, by omega, by omega, ?_⟩
  have hr := fnv_range T 0 offs_range n.toNat
  show SealedR (tupd (tupd (tupd (tupd T n 0 (IntKind.u8.wrap (bitsEv 6 .u32 (fnv T 0 n.toNat offs) 16777216))) (n + 1) 0 (IntKind.u8.wrap ((bitsEv 6 .u32 (fnv T 0 n.toNat offs) 65536).tmod 256))) (n + 2) 0 (IntKind.u8.wrap ((bitsEv 6 .u32 (fnv T 0 n.toNat offs) 256).tmod 256))) (n + 3) 0 (IntKind.u8.wrap ((fnv T 0 n.toNat offs).tmod 256))) T n
  have hs : SealedR (sealT T n (fnv T 0 n.toNat offs)) T n := ⟨fun r hr => sealT_lo hr, fun i hi => sealT_at hi⟩
  rw [seal_eq] at hs
  have hv : ∀ i, sb (fnv T 0 n.toNat offs) i = fnv T 0 n.toNat offs / 2 ^ (24 - 8 * i) % 256 := fun _ => rfl
  generalize fnv T 0 n.toNat offs = h at hr hs hv ⊢
  rw [q32 hr.1 hr.2 (by decide), q32 hr.1 hr.2 (by decide), q32 hr.1 hr.2 (by decide), m256 (y := h / 65536) (by omega), m256 (y := h / 256) (by omega), m256 hr.1, u8_wrap]
  have e0 : h / 16777216 % 256 = sb h 0 := by rw [hv]; simp only [Nat.reduceMul, Nat.reduceSub, Int.reducePow]
  have e1 : h / 65536 % 256 = sb h 1 := by rw [hv]; simp only [Nat.reduceMul, Nat.reduceSub, Int.reducePow]
  have e2 : h / 256 % 256 = sb h 2 := by rw [hv]; simp only [Nat.reduceMul, Nat.reduceSub, Int.reducePow]
  have e3 : h % 256 = sb h 3 := by rw [hv]; simp
  rw [e0, e1, e2, e3]
  exact hs
theorem cat_lo {f g : Tb} {n r : Int} (h : r < n) : tcat f n g r 0 = f r 0 := by unfold tcat; rw [if_pos h]
theorem cat_at {f : Tb} {n x : Int} {i : Nat} (h : i < 8) : tcat f n (putT (fun _ _ => 0) 0 x) (n + i) 0 = nb x i := by
  unfold tcat
  rw [if_neg (by omega), show n + (i : Int) - n = 0 + i by omega]
  exact putT_at h
theorem vRHeader : ∀ ds, Sorts rHeader.sorts ds → tRHeader.vc JI ds := by
  refine all_i fun a => all_i fun b => all_i fun c => all_n ?_
  set_option linter.unusedSimpArgs false in
  simp only [tRHeader, Tree.vc, PE.den, E.den, dens, BO.ev, List.getElem?_cons_zero, List.getElem?_cons_succ, List.cons_append, List.nil_append, Option.some.injEq, D.i.injEq, D.t.injEq, exists_eq_left', exists_const, forall_const, forall_eq', one_ne, one_eq, zero_ne, zero_eq, min_i64, max_i64, min_u8, max_u8, min_u16, max_u16, min_u32, max_u32, min_u64, max_u64, and_true, true_and, J1, J2, J3, J4, P0, P10, P11, P12, P14, P15, P16, P17, P18, P19, P20, P21, P22, P23]
  intro R h
  have h1 : SealedR R (tcat (tcat (tcat magT 8 (putT (fun _ _ => 0) 0 a)) 16 (putT (fun _ _ => 0) 0 b)) 24 (putT (fun _ _ => 0) 0 c)) 32 := h
  clear h
  refine ⟨fun i hi => ?_, fun i hi => ?_, fun i hi => ?_, fun i hi => ?_, fun i hi => ?_⟩
  · rw [h1.old _ (by omega), cat_lo (by omega), cat_lo (by omega), cat_lo (by omega)]; exact mag_at i hi
  · rw [h1.old _ (by omega), cat_lo (by omega), cat_lo (by omega)]; exact cat_at hi
  · rw [h1.old _ (by omega), cat_lo (by omega)]; exact cat_at hi
  · rw [h1.old _ (by omega)]; exact cat_at hi
  · have := h1.chk i hi
    rw [show ((32 + i : Nat) : Int) = 32 + (i : Int) by omega, this]
    exact congrArg (fun q => sb q i) (fnv_congr fun j hj => by
      have hj' : j < 32 := hj
      exact (h1.old _ (by omega)).symm)
theorem vRWith : ∀ ds, Sorts rWith.sorts ds → tRWith.vc JI ds := by
  refine all_t fun T => all_i fun n => all_i fun x0 => all_i fun x1 => all_i fun x2 => all_i fun x3 => all_i fun x4 => all_i fun x5 => all_i fun x6 => all_n ?_
  set_option linter.unusedSimpArgs false in
  simp only [tRWith, Tree.vc, PE.den, E.den, dens, BO.ev, List.getElem?_cons_zero, List.getElem?_cons_succ, List.cons_append, List.nil_append, Option.some.injEq, D.i.injEq, D.t.injEq, exists_eq_left', exists_const, forall_const, forall_eq', one_ne, one_eq, zero_ne, zero_eq, min_i64, max_i64, min_u8, max_u8, min_u16, max_u16, min_u32, max_u32, min_u64, max_u64, and_true, true_and, J1, J2, J3, J4, P0, P10, P11, P12, P14, P15, P16, P17, P18, P19, P20, P21, P22, P23]
  intro h0 h1
  refine ⟨by omega, by omega, by omega, by omega, by omega, by omega, by omega, by omega, by omega, by omega, by omega, ?_⟩
  intro R h
  have num : ∀ c i : Nat, c < 7 → i < 8 → R (n + 8 * c + i) 0 = nb (cols x0 x1 x2 x3 x4 x5 x6 c) i := by
    intro c i hc hi
    rw [h.old _ (by omega)]
    match c, hc with
    | 0, _ => rw [cat_lo (by omega), cat_lo (by omega), cat_lo (by omega), cat_lo (by omega), cat_lo (by omega), cat_lo (by omega), show n + 8 * ((0 : Nat) : Int) + (i : Int) = n + i by omega]; exact cat_at hi
    | 1, _ => rw [cat_lo (by omega), cat_lo (by omega), cat_lo (by omega), cat_lo (by omega), cat_lo (by omega), show n + 8 * ((1 : Nat) : Int) + (i : Int) = n + 8 + i by omega]; exact cat_at hi
    | 2, _ => rw [cat_lo (by omega), cat_lo (by omega), cat_lo (by omega), cat_lo (by omega), show n + 8 * ((2 : Nat) : Int) + (i : Int) = n + 16 + i by omega]; exact cat_at hi
    | 3, _ => rw [cat_lo (by omega), cat_lo (by omega), cat_lo (by omega), show n + 8 * ((3 : Nat) : Int) + (i : Int) = n + 24 + i by omega]; exact cat_at hi
    | 4, _ => rw [cat_lo (by omega), cat_lo (by omega), show n + 8 * ((4 : Nat) : Int) + (i : Int) = n + 32 + i by omega]; exact cat_at hi
    | 5, _ => rw [cat_lo (by omega), show n + 8 * ((5 : Nat) : Int) + (i : Int) = n + 40 + i by omega]; exact cat_at hi
    | 6, _ => rw [show n + 8 * ((6 : Nat) : Int) + (i : Int) = n + 48 + i by omega]; exact cat_at hi
  refine ⟨fun r hr => ?_, num, fun i hi => ?_⟩
  · rw [h.old _ (by omega), cat_lo (by omega), cat_lo (by omega), cat_lo (by omega), cat_lo (by omega), cat_lo (by omega), cat_lo (by omega), cat_lo (by omega)]
  · rw [h.chk i hi]
    exact congrArg (fun q => sb q i) (fnv_congr fun j hj => (h.old _ (by omega)).symm)
theorem AddedR.added {R F : Tb} {n : Int} {x : Nat → Int} (hn : 0 ≤ n) (h : AddedR R F n x) : Added R (fnv R n 60 (fnv F 0 n.toNat offs)) F n (fnv F 0 n.toNat offs) x where
  old r _ h1 := h.old r h1
  num := h.num
  chk i hi := by
    have hf : fnv R 0 n.toNat offs = fnv F 0 n.toNat offs := fnv_congr fun j hj => h.old _ (by omega)
    have e := fnv_add R 0 n.toNat offs 56
    rw [show (0 : Int) + (n.toNat : Int) = n by omega, hf] at e
    rw [h.chk i hi, show (n + 56).toNat = n.toNat + 56 by omega, e]
  sum := rfl
theorem cols_eq (Q : Tb) (k : Int) : ∀ q, q < 7 → cols (Q k 0) (Q k 1) (Q k 2) (Q k 3) (Q k 4) (Q k 5) (Q k 6) q = Q k q := by
  intro q hq
  match q, hq with
  | 0, _ => rfl
  | 1, _ => rfl
  | 2, _ => rfl
  | 3, _ => rfl
  | 4, _ => rfl
  | 5, _ => rfl
  | 6, _ => rfl
theorem vREncode : ∀ ds, Sorts rEncode.sorts ds → tREncode.vc JI ds := by
  refine all_i fun a => all_i fun b => all_i fun c => all_t fun Q => all_i fun n => all_n ?_
  set_option linter.unusedSimpArgs false in
  simp only [tREncode, Tree.vc, PE.den, E.den, dens, BO.ev, List.getElem?_cons_zero, List.getElem?_cons_succ, List.cons_append, List.nil_append, Option.some.injEq, D.i.injEq, D.t.injEq, exists_eq_left', exists_const, forall_const, forall_eq', one_ne, one_eq, zero_ne, zero_eq, min_i64, max_i64, min_u8, max_u8, min_u16, max_u16, min_u32, max_u32, min_u64, max_u64, and_true, true_and, J1, J2, J3, J4, P0, P10, P11, P12, P14, P15, P16, P17, P18, P19, P20, P21, P22, P23]
  intro h0 h1 f hf
  refine ⟨enc_zero hf, ?_⟩
  rintro F _ k hk hkn rfl hE
  refine ⟨fun hlt => ⟨by omega, by omega, ?_⟩, fun hge => ?_⟩
  · intro R hA
    have ek : ((k.toNat : Nat) : Int) = k := by omega
    have hA' := hA.added (by omega)
    rw [show (36 + 60 * k).toNat = 36 + 60 * k.toNat by omega] at hA'
    obtain ⟨h2, _⟩ := enc_next (k := k.toNat) (x := cols (Q k 0) (Q k 1) (Q k 2) (Q k 3) (Q k 4) (Q k 5) (Q k 6)) hE (by rw [ek]; exact hA') fun q hq => by rw [ek]; exact cols_eq Q k q hq
    rw [show (k + 1).toNat = k.toNat + 1 by omega]
    exact ⟨by omega, by omega, by omega, by omega, h2, by omega, by omega⟩
  · rw [show k = n by omega] at hE ⊢
    exact ⟨rfl, hE⟩
theorem vLong18 : ∀ ds, Sorts (cLong 18).sorts ds → tLong18.vc JI ds := by
  refine all_i fun a => all_i fun b => all_i fun c => all_t fun Q => all_i fun n => all_n ?_
  set_option linter.unusedSimpArgs false in
  simp only [tLong18, Tree.vc, PE.den, E.den, dens, BO.ev, List.getElem?_cons_zero, List.getElem?_cons_succ, List.cons_append, List.nil_append, Option.some.injEq, D.i.injEq, D.t.injEq, exists_eq_left', exists_const, forall_const, forall_eq', one_ne, one_eq, zero_ne, zero_eq, min_i64, max_i64, min_u8, max_u8, min_u16, max_u16, min_u32, max_u32, min_u64, max_u64, and_true, true_and, J1, J2, J3, J4, P0, P10, P11, P12, P14, P15, P16, P17, P18, P19, P20, P21, P22, P23]
  intro h0
  exact ⟨fun _ => trivial, fun h => absurd (by omega) h⟩
theorem vLong19 : ∀ ds, Sorts (cLong 19).sorts ds → tLong19.vc JI ds := by
  refine all_i fun a => all_i fun b => all_i fun c => all_t fun Q => all_i fun n => all_n ?_
  set_option linter.unusedSimpArgs false in
  simp only [tLong19, Tree.vc, PE.den, E.den, dens, BO.ev, List.getElem?_cons_zero, List.getElem?_cons_succ, List.cons_append, List.nil_append, Option.some.injEq, D.i.injEq, D.t.injEq, exists_eq_left', exists_const, forall_const, forall_eq', one_ne, one_eq, zero_ne, zero_eq, min_i64, max_i64, min_u8, max_u8, min_u16, max_u16, min_u32, max_u32, min_u64, max_u64, and_true, true_and, J1, J2, J3, J4, P0, P10, P11, P12, P14, P15, P16, P17, P18, P19, P20, P21, P22, P23]
  intro h0
  exact ⟨fun _ => trivial, fun h => absurd (by omega) h⟩
theorem RowEq.symm {A B : Tb} {r : Int} (h : RowEq A B r) : RowEq B A r := by
  obtain ⟨⟨a, b, c, d, e, o⟩, ⟨p, q, _⟩, _⟩ := h
  exact ⟨⟨a.symm, b.symm, c.symm, d.symm, e.symm, o⟩, ⟨p.symm, q.symm, o⟩, o⟩
theorem vCodesOk : ∀ ds, Sorts cCodesOk.sorts ds → tCodesOk.vc JI ds := by
  refine all_i fun a => all_i fun b => all_i fun c => all_t fun Q => all_i fun n => all_n ?_
  set_option linter.unusedSimpArgs false in
  simp only [tCodesOk, Tree.vc, PE.den, E.den, dens, BO.ev, List.getElem?_cons_zero, List.getElem?_cons_succ, List.cons_append, List.nil_append, Option.some.injEq, D.i.injEq, D.t.injEq, exists_eq_left', exists_const, forall_const, forall_eq', one_ne, one_eq, zero_ne, zero_eq, min_i64, max_i64, min_u8, max_u8, min_u16, max_u16, min_u32, max_u32, min_u64, max_u64, and_true, true_and, J1, J2, J3, J4, P0, P10, P11, P12, P14, P15, P16, P17, P18, P19, P20, P21, P22, P23]
  intro h0 ha hb hc hQ h500
  refine ⟨fun _ => trivial, fun hn => ⟨fun _ => trivial, fun _ => ?_⟩⟩
  intro F hE G hG
  have hbF : ∀ r : Nat, (r : Int) < 36 + 60 * n → 0 ≤ F r 0 ∧ F r 0 ≤ 255 := fun r hr => hE.byte r (by omega)
  have hbG : ∀ r : Nat, (r : Int) < 36 + 60 * n → 0 ≤ G r 0 ∧ G r 0 ≤ 255 := fun r hr => hG.byte r (by omega)
  refine ⟨by omega, ⟨_, _, rfl, rfl, hbF⟩, ⟨_, _, rfl, rfl, hbG⟩, fun h => strEq_iff.2 ⟨rfl, fun r hr => hE.unique hG r (by omega)⟩ h, fun _ => ⟨by omega, by omega, by omega, hE.headOk (by omega), ?_⟩⟩
  have hV : Valid F (36 + 60 * n).toNat n.toNat := hE.valid (Nat.le_refl _) (by omega) (by omega)
  have g8 : getI F 8 = a := getI_enc (at' := 8) hE.head.lim (fun r hr => rfl) ha
  have g16 : getI F 16 = b := getI_enc (at' := 16) hE.head.age (fun r hr => rfl) hb
  have g24 : getI F 24 = c := getI_enc (at' := 24) hE.head.keep (fun r hr => rfl) hc
  rintro f m _ _ _ _ _ _ _ _ ⟨hm0, hm1⟩ hR
  have hmn : m = n := by
    have := hm1.unique hV
    omega
  subst hmn
  have hrow : ∀ r : Int, 0 ≤ r → r < m → RowEq f Q r := fun r r0 r1 => rows_read hE (k := m.toNat) (by omega) (fun _ _ => rfl) hR (fun r a b j hj => hQ r a (by omega) j hj) r r0 (by omega)
  refine ⟨by omega, by omega, by omega, fun q hq => ⟨fun _ => ⟨fun _ => trivial, fun h => h rfl⟩, fun h => hq.2 ⟨⟨g8.symm, g16.symm, g24.symm⟩, rfl, fun r r0 r1 => (hrow r r0 r1).symm⟩ h⟩⟩
theorem vCodesLong : ∀ ds, Sorts cCodesLong.sorts ds → tCodesLong.vc JI ds := fun _ _ => trivial
end Go.Jn
