/-
  For the formulas of contracts: small laws that turn them into plain words. Conditions: none.
-/
import Derived.Test.YtbcclmpmljpbcaaGreatDoorSxRow
namespace Go.Sx
open Go

theorem one_ne {P : Prop} [Decidable P] : ((if P then (1 : Int) else 0) ≠ 0) = P := by by_cases h : P <;> simp [h]
theorem one_eq {P : Prop} [Decidable P] : ((if P then (1 : Int) else 0) = 0) = ¬ P := by by_cases h : P <;> simp [h]
theorem zero_ne {P : Prop} [Decidable P] : ((if P then (0 : Int) else 1) ≠ 0) = ¬ P := by by_cases h : P <;> simp [h]
theorem zero_eq {P : Prop} [Decidable P] : ((if P then (0 : Int) else 1) = 0) = P := by by_cases h : P <;> simp [h]
theorem min_i64 : IntKind.i64.min = -9223372036854775808 := rfl
theorem max_i64 : IntKind.i64.max = 9223372036854775807 := rfl
theorem min_u8 : IntKind.u8.min = 0 := rfl
theorem max_u8 : IntKind.u8.max = 255 := rfl
theorem min_u16 : IntKind.u16.min = 0 := rfl
theorem max_u16 : IntKind.u16.max = 65535 := rfl
theorem min_u32 : IntKind.u32.min = 0 := rfl
theorem max_u32 : IntKind.u32.max = 4294967295 := rfl
theorem min_u64 : IntKind.u64.min = 0 := rfl
theorem max_u64 : IntKind.u64.max = 18446744073709551615 := rfl

theorem all_t {l : List Bool} {Q : List D → Prop} (h : ∀ T ds, Sorts l ds → Q (.t T :: ds)) : ∀ ds, Sorts (true :: l) ds → Q ds := by
  intro ds hs
  match ds, hs with
  | .t T :: ds, hs => exact h T ds hs
  | [], hs => exact hs.elim
  | .i _ :: _, hs => exact hs.elim
theorem all_i {l : List Bool} {Q : List D → Prop} (h : ∀ n ds, Sorts l ds → Q (.i n :: ds)) : ∀ ds, Sorts (false :: l) ds → Q ds := by
  intro ds hs
  match ds, hs with
  | .i n :: ds, hs => exact h n ds hs
  | [], hs => exact hs.elim
  | .t _ :: _, hs => exact hs.elim
theorem all_n {Q : List D → Prop} (h : Q []) : ∀ ds, Sorts [] ds → Q ds := by
  intro ds hs
  match ds, hs with
  | [], _ => exact h
  | _ :: _, hs => exact hs.elim

theorem cs_nil {I : Itp} {P : Program} {gl : List Glob} : ∀ c ∈ ([] : List Contract), COk I P gl c := fun _ h => by cases h
theorem cs_cons {I : Itp} {P : Program} {gl : List Glob} {c : Contract} {l : List Contract} (h : COk I P gl c) (hl : ∀ c ∈ l, COk I P gl c) : ∀ d ∈ c :: l, COk I P gl d := fun d hd => by
  rcases List.mem_cons.1 hd with rfl | hd
  · exact h
  · exact hl d hd
/-- A contract by its tree: the kernel computes it, a plain proof shows it. -/
theorem ok_of {fs : Nat → Option Bool} {I : Itp} (hI : I.tot fs) {cx : Cx} {fuel : Nat} {c : Contract} {t : Tree} (hC : ∀ c ∈ cx.cs, COk I cx.P cx.kn.globs c) (ht : tidied fs cx fuel c = t) (h : ∀ ds, Sorts c.sorts ds → t.vc I ds) : COk I cx.P cx.kn.globs c :=
  tidied_sound hI hC fun ds hs => by rw [ht]; exact h ds hs

/-- A word of 64 bits, by pages. -/
theorem quo64 {x : Int} (h0 : 0 ≤ x) (h1 : x < 1024) : bitsEv 6 .i64 x 64 = x / 64 := by
  have h2 : x.tdiv 64 = x / 64 := Int.tdiv_eq_ediv_of_nonneg h0
  simp only [bitsEv, h2, IntKind.wrap, IntKind.signed, IntKind.bits]
  have : x / 64 % 18446744073709551616 = x / 64 := Int.emod_eq_of_lt (by omega) (by omega)
  simp only [Int.reducePow, Bool.true_and, this]
  rw [if_neg]
  simp; omega
theorem bits_zero (x : Int) : bitsEv 0 .u64 (bitsEv 5 .u64 0 x) 1 = 0 := by
  have : bitsEv 5 .u64 0 x = 0 := by simp [bitsEv]
  rw [this]; rfl
end Go.Sx
