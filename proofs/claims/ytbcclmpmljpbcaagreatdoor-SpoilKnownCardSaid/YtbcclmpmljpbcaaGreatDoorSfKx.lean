/-
  SpoilKnown's contract, and what it calls. Definitions alone. Conditions: none.
-/
import Derived.Test.YtbcclmpmljpbcaaGreatDoorSfCs
import Derived.Test.YtbcclmpmljpbcaaGreatDoorSfKs
import Derived.KernelRfl
import Derived.Test.YtbcclmpmljpbcaaGreatDoorSfSpec
import Derived.Test.YtbcclmpmljpbcaaGreatDoorSfV1
namespace Go.Sf
open Go Go.Sx Go.Mg
def cKnown : Contract := { c0 with fn := 3, res := .bool (.lit 1) }
def xKnown (P : Program) : Cx := { P, cs := [st11, st22, cAw, cPrt 9, cPar 11, cFol 10] ++ loops, anns := [], kn := kn }
end Go.Sf

namespace Go.Sf
open Go Go.Sx Go.Lib

theorem it1 : itoa 1 = [49] := itoa_small (by decide) (by decide)
theorem it2 : itoa 2 = [50] := itoa_small (by decide) (by decide)
theorem it3 : itoa 3 = [51] := itoa_small (by decide) (by decide)
theorem it5 : itoa 5 = [53] := itoa_small (by decide) (by decide)
theorem node123 : prt 6 1 2 3 = -123087741972371582662712 := by
  have h : fole 6 1 2 = 0 := by decide
  unfold prt prl
  rw [if_pos h, it1, it2, it3]
  have e : senc [110, 111, 100, 101, 32, 49, 32, 50, 32, 51] = (-123087741972371582662712 : Int) := by kernel_rfl
  exact e
theorem sdec115 : sdec (-499258095415797988154) = [114, 117, 110, 32, 49, 32, 49, 32, 53] := by
  have h : (-499258095415797988154 : Int) = senc [114, 117, 110, 32, 49, 32, 49, 32, 53] := by kernel_rfl
  rw [h, sdec_senc]
theorem sdec015 : sdec (-127810072426477990165306) = [114, 117, 110, 32, 48, 49, 32, 49, 32, 53] := by
  have h : (-127810072426477990165306 : Int) = senc [114, 117, 110, 32, 48, 49, 32, 49, 32, 53] := by kernel_rfl
  rw [h, sdec_senc]
theorem slen115 : slen (-499258095415797988154) = 9 := by unfold slen; rw [sdec115]; rfl
theorem slen015 : slen (-127810072426477990165306) = 10 := by unfold slen; rw [sdec015]; rfl
theorem i64s {n : Int} (h0 : 0 ≤ n) (h : n < 10) : I64 n := ⟨by omega, by omega⟩
theorem par115 : ParP (-499258095415797988154) 1 1 1 5 0 := by
  refine .inl ⟨rfl, by decide, ?_, i64s (by decide) (by decide), i64s (by decide) (by decide), i64s (by decide) (by decide)⟩
  rw [sdec115]
  unfold prl
  rw [it1, it5]; rfl
theorem split015 : Lib.split [114, 117, 110, 32, 48, 49, 32, 49, 32, 53] [32] = [[114, 117, 110], [48, 49], [49], [53]] := by
  show Lib.split ([114, 117, 110] ++ 32 :: ([48, 49] ++ 32 :: ([49] ++ 32 :: [53]))) [32] = _
  rw [split_step (by decide), split_step (by decide), split_step (by decide), split_last (by decide)]
theorem par015 : ParP (-127810072426477990165306) 0 0 0 0 6 := by
  refine .inr ⟨rfl, rfl, rfl, rfl, rfl, fun k i f t hi _ _ h0 hs => ?_⟩
  obtain ⟨hk, _, _⟩ := fole_zero h0
  have h := congrArg (fun l => Lib.split l [32]) hs
  simp only [sdec015, split015] at h
  rw [split_prl ⟨by omega, by omega⟩] at h
  simp only [List.cons.injEq] at h
  have h2 := h.2.1
  have h3 := parse_itoa hi.1 hi.2
  rw [← h2] at h3
  have h4 : parseIntB 64 [48, 49] = .ok 1 := by kernel_rfl
  rw [h4] at h3
  cases h3
  rw [it1] at h2
  cases h2
theorem par115_of {k i f t e : Int} (h : ParP (-499258095415797988154) k i f t e) : k = 1 ∧ i = 1 ∧ f = 1 ∧ t = 5 ∧ e = 0 := by
  obtain ⟨⟨h1, h2, h3, h4⟩, h5⟩ := h.unique par115
  exact ⟨h1, h2, h3, h4, h5⟩
theorem par015_of {k i f t e : Int} (h : ParP (-127810072426477990165306) k i f t e) : k = 0 ∧ i = 0 ∧ f = 0 ∧ t = 0 ∧ e = 6 := by
  obtain ⟨⟨h1, h2, h3, h4⟩, h5⟩ := h.unique par015
  exact ⟨h1, h2, h3, h4, h5⟩
end Go.Sf

namespace Go.Sf
open Go Go.Sx Go.Lib
def tKnown : Tree := (.havoc false (.havoc false (.assume (.same (.var 1) (.fn 2 (.lit 6) (.lit 1) (.lit 2) (.lit 0))) (.assume (.same (.var 0) (.fn 4 (.lit 6) (.lit 1) (.lit 2) (.lit 3))) (.havoc false (.havoc false (.assume (.same (.var 2) (.fn 1 (.lit 6) (.lit 0) (.lit 1) (.lit 0))) (.assume (.same (.var 3) (.fn 2 (.lit 6) (.lit 0) (.lit 1) (.lit 0))) (.havoc false (.havoc false (.assume (.same (.var 4) (.fn 1 (.lit 6) (.lit 1) (.lit 1) (.lit 0))) (.assume (.same (.var 5) (.fn 2 (.lit 6) (.lit 1) (.lit 1) (.lit 0))) (.havoc false (.havoc false (.assume (.same (.var 6) (.fn 1 (.lit 12) (.lit 0) (.lit 3) (.lit 0))) (.assume (.same (.var 7) (.fn 2 (.lit 12) (.lit 0) (.lit 3) (.lit 0))) (.assert (.tt (.bin .le (.fn 1001 (.lit (-499258095415797988154)) (.lit 0) (.lit 0) (.lit 0)) (.lit 200))) (.havoc false (.havoc false (.havoc false (.havoc false (.havoc false (.assume (.pr 18 [(.lit (-499258095415797988154)), (.var 8), (.var 9), (.var 10), (.var 11), (.var 12)]) (.assert (.tt (.bin .le (.fn 1001 (.lit (-127810072426477990165306)) (.lit 0) (.lit 0) (.lit 0)) (.lit 200))) (.havoc false (.havoc false (.havoc false (.havoc false (.havoc false (.assume (.pr 18 [(.lit (-127810072426477990165306)), (.var 13), (.var 14), (.var 15), (.var 16), (.var 17)]) (.branch (.bin .eq (.fn 2 (.lit 6) (.lit 1) (.lit 2) (.lit 0)) (.lit 0)) (.branch (.bin .eq (.fn 2 (.lit 6) (.lit 0) (.lit 1) (.lit 0)) (.lit 0)) (.branch (.bin .eq (.fn 2 (.lit 6) (.lit 1) (.lit 1) (.lit 0)) (.lit 0)) (.branch (.bin .eq (.fn 2 (.lit 12) (.lit 0) (.lit 3) (.lit 0)) (.lit 0)) (.branch (.bin .eq (.var 12) (.lit 0)) (.branch (.bin .eq (.var 17) (.lit 6)) (.branch (.bin .eq (.fn 4 (.lit 6) (.lit 1) (.lit 2) (.lit 3)) (.lit (-123087741972371582662712))) (.branch (.bin .eq (.fn 1 (.lit 6) (.lit 0) (.lit 1) (.lit 0)) (.lit 0)) (.branch (.fn 1 (.lit 6) (.lit 1) (.lit 1) (.lit 0)) (.branch (.bin .eq (.fn 1 (.lit 12) (.lit 0) (.lit 3) (.lit 0)) (.lit 0)) (.branch (.bin .and (.bin .eq (.var 8) (.lit 1)) (.bin .and (.bin .eq (.var 9) (.lit 1)) (.bin .and (.bin .eq (.var 10) (.lit 1)) (.bin .and (.bin .eq (.var 11) (.lit 5)) (.lit 1))))) .ok (.fail 100)) (.fail 100)) (.fail 100)) (.fail 100)) (.fail 100)) (.fail 100)) (.fail 100)) (.fail 100)) (.fail 100)) (.fail 100)) (.fail 100))))))))))))))))))))))))))))))))

theorem vKnown : ∀ ds, Sorts cKnown.sorts ds → tKnown.vc (SI 40) ds := by
  refine all_n ?_
  set_option linter.unusedSimpArgs false in
  simp only [tKnown, Tree.vc, PE.den, E.den, dens, BO.ev, List.getElem?_cons_zero, List.getElem?_cons_succ, List.cons_append, List.nil_append, Option.some.injEq, D.i.injEq, D.t.injEq, exists_eq_left', exists_const, forall_const, forall_eq', one_ne, one_eq, zero_ne, zero_eq, and_true, true_and, Decidable.not_not, S1, S2, S4, S1001, P18]
  have e0 : fole 6 1 2 = 0 := by decide
  have e1 : fole 6 0 1 = 0 := by decide
  have e2 : fole 6 1 1 = 0 := by decide
  have e3 : fole 12 0 3 = 0 := by decide
  have f1 : fol 6 0 1 = 0 := by decide
  have f2 : fol 6 1 1 = 1 := by decide
  have f3 : fol 12 0 3 = 0 := by decide
  rw [e0, e1, e2, e3, f1, f2, f3, node123, slen115, slen015]
  intro _ _ _ _ _ _ _ _ _ _ _ _
  refine ⟨by decide, fun k i f t e h => ⟨by decide, fun k2 i2 f2 t2 e2 h2 => ?_⟩⟩
  obtain ⟨rfl, rfl, rfl, rfl, rfl⟩ := par115_of h
  obtain ⟨rfl, rfl, rfl, rfl, rfl⟩ := par015_of h2
  simp
end Go.Sf
