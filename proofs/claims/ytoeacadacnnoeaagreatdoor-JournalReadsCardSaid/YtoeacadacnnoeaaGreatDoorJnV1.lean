/-
  The formulas of the journal's functions hold: numbers, checksums, the header, entries. Conditions: none.
-/
import Derived.Test.YtoeacadacnnoeaaGreatDoorJnSpec
import Derived.Test.YtoeacadacnnoeaaGreatDoorJnT
namespace Go.Jn
open Go Go.Sx Go.Mg

theorem shr8 (x : Int) (s : Nat) (h : s ≤ 64) : IntKind.u8.wrap (bitsEv 5 .u64 (IntKind.u64.wrap x) (s : Int)) = x % 18446744073709551616 / 2 ^ s % 256 := by
  rw [u8_wrap, u64_wrap]
  simp only [bitsEv, IntKind.bits, Int.toNat_natCast, Nat.min_eq_left h]
  rw [Int.fdiv_eq_ediv_of_nonneg _ (Int.pow_nonneg (by decide))]
theorem shr4 (x : Int) (s : Nat) (h : s ≤ 32) : IntKind.u8.wrap (bitsEv 5 .u32 x (s : Int)) = x / 2 ^ s % 256 := by
  rw [u8_wrap]
  simp only [bitsEv, IntKind.bits, Int.toNat_natCast, Nat.min_eq_left h]
  rw [Int.fdiv_eq_ediv_of_nonneg _ (Int.pow_nonneg (by decide))]
theorem nb_eq (x : Int) (i : Nat) : nb x i = x % 18446744073709551616 / 2 ^ (56 - 8 * i) % 256 := rfl

theorem putT_lo {T : Tb} {n x r : Int} (h : r < n) : putT T n x r 0 = T r 0 := by unfold putT; rw [if_neg (by omega)]
theorem putT_at {T : Tb} {n x : Int} {i : Nat} (h : i < 8) : putT T n x (n + i) 0 = nb x i := by
  unfold putT
  rw [if_pos ⟨rfl, by omega, by omega⟩, show (n + (i : Int) - n).toNat = i by omega]
theorem sealT_lo {T : Tb} {n x r : Int} (h : r < n) : sealT T n x r 0 = T r 0 := by unfold sealT; rw [if_neg (by omega)]
theorem sealT_at {T : Tb} {n x : Int} {i : Nat} (h : i < 4) : sealT T n x (n + i) 0 = sb x i := by
  unfold sealT
  rw [if_pos ⟨rfl, by omega, by omega⟩, show (n + (i : Int) - n).toNat = i by omega]
theorem tupd_at {T : Tb} {r x : Int} : tupd T r 0 x r 0 = x := by simp [tupd]
theorem tupd_far {T : Tb} {r x q : Int} {c : Nat} (h : ¬ (q = r ∧ c = 0)) : tupd T r 0 x q c = T q c := by simp [tupd, h]

theorem put_eq (T : Tb) (n x : Int) : putT T n x = tupd (tupd (tupd (tupd (tupd (tupd (tupd (tupd T n 0 (nb x 0)) (n + 1) 0 (nb x 1)) (n + 2) 0 (nb x 2)) (n + 3) 0 (nb x 3)) (n + 4) 0 (nb x 4)) (n + 5) 0 (nb x 5)) (n + 6) 0 (nb x 6)) (n + 7) 0 (nb x 7) := by
  funext r c
  unfold putT
  by_cases h : c = 0 ∧ n ≤ r ∧ r < n + 8
  · rw [if_pos h]
    obtain ⟨rfl, h1, h2⟩ := h
    have : r = n ∨ r = n + 1 ∨ r = n + 2 ∨ r = n + 3 ∨ r = n + 4 ∨ r = n + 5 ∨ r = n + 6 ∨ r = n + 7 := by omega
    rcases this with rfl | rfl | rfl | rfl | rfl | rfl | rfl | rfl
    · rw [tupd_far (by omega), tupd_far (by omega), tupd_far (by omega), tupd_far (by omega), tupd_far (by omega), tupd_far (by omega), tupd_far (by omega), tupd_at, show (r - r).toNat = 0 by omega]
    · rw [tupd_far (by omega), tupd_far (by omega), tupd_far (by omega), tupd_far (by omega), tupd_far (by omega), tupd_far (by omega), tupd_at, show (n + 1 - n).toNat = 1 by omega]
    · rw [tupd_far (by omega), tupd_far (by omega), tupd_far (by omega), tupd_far (by omega), tupd_far (by omega), tupd_at, show (n + 2 - n).toNat = 2 by omega]
    · rw [tupd_far (by omega), tupd_far (by omega), tupd_far (by omega), tupd_far (by omega), tupd_at, show (n + 3 - n).toNat = 3 by omega]
    · rw [tupd_far (by omega), tupd_far (by omega), tupd_far (by omega), tupd_at, show (n + 4 - n).toNat = 4 by omega]
    · rw [tupd_far (by omega), tupd_far (by omega), tupd_at, show (n + 5 - n).toNat = 5 by omega]
    · rw [tupd_far (by omega), tupd_at, show (n + 6 - n).toNat = 6 by omega]
    · rw [tupd_at, show (n + 7 - n).toNat = 7 by omega]
  · rw [if_neg h, tupd_far (by omega), tupd_far (by omega), tupd_far (by omega), tupd_far (by omega), tupd_far (by omega), tupd_far (by omega), tupd_far (by omega), tupd_far (by omega)]
theorem seal_eq (T : Tb) (n x : Int) : sealT T n x = tupd (tupd (tupd (tupd T n 0 (sb x 0)) (n + 1) 0 (sb x 1)) (n + 2) 0 (sb x 2)) (n + 3) 0 (sb x 3) := by
  funext r c
  unfold sealT
  by_cases h : c = 0 ∧ n ≤ r ∧ r < n + 4
  · rw [if_pos h]
    obtain ⟨rfl, h1, h2⟩ := h
    have : r = n ∨ r = n + 1 ∨ r = n + 2 ∨ r = n + 3 := by omega
    rcases this with rfl | rfl | rfl | rfl
    · rw [tupd_far (by omega), tupd_far (by omega), tupd_far (by omega), tupd_at, show (r - r).toNat = 0 by omega]
    · rw [tupd_far (by omega), tupd_far (by omega), tupd_at, show (n + 1 - n).toNat = 1 by omega]
    · rw [tupd_far (by omega), tupd_at, show (n + 2 - n).toNat = 2 by omega]
    · rw [tupd_at, show (n + 3 - n).toNat = 3 by omega]
  · rw [if_neg h, tupd_far (by omega), tupd_far (by omega), tupd_far (by omega), tupd_far (by omega)]

theorem vPut : ∀ ds, Sorts (cPut 104).sorts ds → tPut.vc JI ds := by
  refine all_t fun T => all_i fun n => all_i fun x => all_n ?_
  set_option linter.unusedSimpArgs false in
  simp only [tPut, Tree.vc, PE.den, E.den, dens, BO.ev, List.getElem?_cons_zero, List.getElem?_cons_succ, List.cons_append, List.nil_append, Option.some.injEq, D.i.injEq, D.t.injEq, exists_eq_left', exists_const, forall_const, forall_eq', one_ne, one_eq, zero_ne, zero_eq, min_i64, max_i64, min_u8, max_u8, min_u16, max_u16, min_u32, max_u32, min_u64, max_u64, and_true, true_and, J1, J2, J3, J4, P0, P10, P11, P12, P14, P15, P16, P17, P18, P19, P20, P22]
  intro h0 h1
  have e0 : IntKind.u8.wrap (bitsEv 5 .u64 (IntKind.u64.wrap x) 56) = nb x 0 := shr8 x 56 (by decide)
  have e1 : IntKind.u8.wrap (bitsEv 5 .u64 (IntKind.u64.wrap x) 48) = nb x 1 := shr8 x 48 (by decide)
  have e2 : IntKind.u8.wrap (bitsEv 5 .u64 (IntKind.u64.wrap x) 40) = nb x 2 := shr8 x 40 (by decide)
  have e3 : IntKind.u8.wrap (bitsEv 5 .u64 (IntKind.u64.wrap x) 32) = nb x 3 := shr8 x 32 (by decide)
  have e4 : IntKind.u8.wrap (bitsEv 5 .u64 (IntKind.u64.wrap x) 24) = nb x 4 := shr8 x 24 (by decide)
  have e5 : IntKind.u8.wrap (bitsEv 5 .u64 (IntKind.u64.wrap x) 16) = nb x 5 := shr8 x 16 (by decide)
  have e6 : IntKind.u8.wrap (bitsEv 5 .u64 (IntKind.u64.wrap x) 8) = nb x 6 := shr8 x 8 (by decide)
  have e7 : IntKind.u8.wrap (bitsEv 5 .u64 (IntKind.u64.wrap x) 0) = nb x 7 := shr8 x 0 (by decide)
  rw [e0, e1, e2, e3, e4, e5, e6, e7]
  exact ⟨by omega, by omega, by omega, by omega, by omega, by omega, by omega, by omega, put_eq T n x⟩
theorem vSeal : ∀ ds, Sorts cSeal.sorts ds → tSeal.vc JI ds := by
  refine all_t fun T => all_i fun n => all_i fun x => all_n ?_
  set_option linter.unusedSimpArgs false in
  simp only [tSeal, Tree.vc, PE.den, E.den, dens, BO.ev, List.getElem?_cons_zero, List.getElem?_cons_succ, List.cons_append, List.nil_append, Option.some.injEq, D.i.injEq, D.t.injEq, exists_eq_left', exists_const, forall_const, forall_eq', one_ne, one_eq, zero_ne, zero_eq, min_i64, max_i64, min_u8, max_u8, min_u16, max_u16, min_u32, max_u32, min_u64, max_u64, and_true, true_and, J1, J2, J3, J4, P0, P10, P11, P12, P14, P15, P16, P17, P18, P19, P20, P22]
  intro h0 h1 hx
  have e0 : IntKind.u8.wrap (bitsEv 5 .u32 x 24) = sb x 0 := shr4 x 24 (by decide)
  have e1 : IntKind.u8.wrap (bitsEv 5 .u32 x 16) = sb x 1 := shr4 x 16 (by decide)
  have e2 : IntKind.u8.wrap (bitsEv 5 .u32 x 8) = sb x 2 := shr4 x 8 (by decide)
  have e3 : IntKind.u8.wrap x = sb x 3 := by rw [u8_wrap]; unfold sb; simp
  rw [e0, e1, e2, e3]
  exact ⟨by omega, seal_eq T n x⟩
theorem vHash : ∀ ds, Sorts cHash.sorts ds → tHash.vc JI ds := by
  refine all_i fun h => all_t fun T => all_i fun len => all_i fun lo => all_i fun n => all_n ?_
  set_option linter.unusedSimpArgs false in
  simp only [tHash, Tree.vc, PE.den, E.den, dens, BO.ev, List.getElem?_cons_zero, List.getElem?_cons_succ, List.cons_append, List.nil_append, Option.some.injEq, D.i.injEq, D.t.injEq, exists_eq_left', exists_const, forall_const, forall_eq', one_ne, one_eq, zero_ne, zero_eq, min_i64, max_i64, min_u8, max_u8, min_u16, max_u16, min_u32, max_u32, min_u64, max_u64, and_true, true_and, J1, J2, J3, J4, P0, P10, P11, P12, P14, P15, P16, P17, P18, P19, P20, P22]
  intro hh h0 h1 h2 h3
  refine ⟨rfl, ?_⟩
  rintro k _ hk hkn rfl
  refine ⟨fun hlt => ⟨by omega, by omega, by omega, by omega, by omega, ?_, by omega, by omega⟩, fun hge => by rw [show k = n by omega]⟩
  rw [show (k + 1).toNat = k.toNat + 1 by omega]
  simp only [fnv, fstep, show ((k.toNat : Nat) : Int) = k by omega]

/-! ### The header -/

def magT : Tb := tupd (tupd (tupd (tupd (tupd (tupd (tupd (tupd (fun _ _ => 0) 0 0 112) 1 0 111) 2 0 108) 3 0 100) 4 0 101) 5 0 114) 6 0 49) 7 0 10
theorem mag_at : ∀ i : Nat, i < 8 → magT (i : Nat) 0 = magicB.getD i 0 := by
  intro i hi
  match i, hi with
  | 0, _ => rfl
  | 1, _ => rfl
  | 2, _ => rfl
  | 3, _ => rfl
  | 4, _ => rfl
  | 5, _ => rfl
  | 6, _ => rfl
  | 7, _ => rfl
theorem offs_range : 0 ≤ offs ∧ offs < 4294967296 := by unfold offs; omega
theorem head_of (a b c : Int) : Head (sealT (putT (putT (putT magT 8 a) 16 b) 24 c) 32 (fnv (putT (putT (putT magT 8 a) 16 b) 24 c) 0 32 offs)) a b c where
  magic i hi := by rw [sealT_lo (by omega), putT_lo (by omega), putT_lo (by omega), putT_lo (by omega)]; exact mag_at i hi
  lim i hi := by rw [sealT_lo (by omega), putT_lo (by omega), putT_lo (by omega)]; exact putT_at hi
  age i hi := by rw [sealT_lo (by omega), putT_lo (by omega)]; exact putT_at hi
  keep i hi := by rw [sealT_lo (by omega)]; exact putT_at hi
  chk i hi := by
    rw [show ((32 + i : Nat) : Int) = 32 + (i : Int) by omega, sealT_at hi]
    exact congrArg (fun q => sb q i) (fnv_congr fun j hj => by rw [sealT_lo (by omega)])
theorem vHeader : ∀ ds, Sorts cHeader.sorts ds → tHeader.vc JI ds := by
  refine all_i fun a => all_i fun b => all_i fun c => all_n ?_
  set_option linter.unusedSimpArgs false in
  simp only [tHeader, Tree.vc, PE.den, E.den, dens, BO.ev, List.getElem?_cons_zero, List.getElem?_cons_succ, List.cons_append, List.nil_append, Option.some.injEq, D.i.injEq, D.t.injEq, exists_eq_left', exists_const, forall_const, forall_eq', one_ne, one_eq, zero_ne, zero_eq, min_i64, max_i64, min_u8, max_u8, min_u16, max_u16, min_u32, max_u32, min_u64, max_u64, and_true, true_and, J1, J2, J3, J4, P0, P10, P11, P12, P14, P15, P16, P17, P18, P19, P20, P22]
  rintro _ _ _ _ _ _ _ _ _ _ _ _
  have hr := fnv_range (putT (putT (putT magT 8 a) 16 b) 24 c) 0 offs_range 32
  refine ⟨⟨hr.1, by have := hr.2; unfold magT offs at this; exact Int.le_of_lt_add_one this⟩, ?_⟩
  rintro _ _ _ _
  exact head_of a b c

/-! ### An entry -/

theorem added_of (T : Tb) (n h x0 x1 x2 x3 x4 x5 x6 : Int) : 
    Added (sealT (putT (putT (putT (putT (putT (putT (putT T n x0) (n + 8) x1) (n + 16) x2) (n + 24) x3) (n + 32) x4) (n + 40) x5) (n + 48) x6) (n + 56) (fnv (putT (putT (putT (putT (putT (putT (putT T n x0) (n + 8) x1) (n + 16) x2) (n + 24) x3) (n + 32) x4) (n + 40) x5) (n + 48) x6) n 56 h))
      (fnv (sealT (putT (putT (putT (putT (putT (putT (putT T n x0) (n + 8) x1) (n + 16) x2) (n + 24) x3) (n + 32) x4) (n + 40) x5) (n + 48) x6) (n + 56) (fnv (putT (putT (putT (putT (putT (putT (putT T n x0) (n + 8) x1) (n + 16) x2) (n + 24) x3) (n + 32) x4) (n + 40) x5) (n + 48) x6) n 56 h)) n 60 h)
      T n h (cols x0 x1 x2 x3 x4 x5 x6) where
  old r h0 h1 := by rw [sealT_lo (by omega), putT_lo (by omega), putT_lo (by omega), putT_lo (by omega), putT_lo (by omega), putT_lo (by omega), putT_lo (by omega), putT_lo (by omega)]
  num c i hc hi := by
    rw [sealT_lo (by omega)]
    match c, hc with
    | 0, _ => rw [putT_lo (by omega), putT_lo (by omega), putT_lo (by omega), putT_lo (by omega), putT_lo (by omega), putT_lo (by omega), show n + 8 * ((0 : Nat) : Int) + (i : Int) = n + i by omega]; exact putT_at hi
    | 1, _ => rw [putT_lo (by omega), putT_lo (by omega), putT_lo (by omega), putT_lo (by omega), putT_lo (by omega), show n + 8 * ((1 : Nat) : Int) + (i : Int) = n + 8 + i by omega]; exact putT_at hi
    | 2, _ => rw [putT_lo (by omega), putT_lo (by omega), putT_lo (by omega), putT_lo (by omega), show n + 8 * ((2 : Nat) : Int) + (i : Int) = n + 16 + i by omega]; exact putT_at hi
    | 3, _ => rw [putT_lo (by omega), putT_lo (by omega), putT_lo (by omega), show n + 8 * ((3 : Nat) : Int) + (i : Int) = n + 24 + i by omega]; exact putT_at hi
    | 4, _ => rw [putT_lo (by omega), putT_lo (by omega), show n + 8 * ((4 : Nat) : Int) + (i : Int) = n + 32 + i by omega]; exact putT_at hi
    | 5, _ => rw [putT_lo (by omega), show n + 8 * ((5 : Nat) : Int) + (i : Int) = n + 40 + i by omega]; exact putT_at hi
    | 6, _ => rw [show n + 8 * ((6 : Nat) : Int) + (i : Int) = n + 48 + i by omega]; exact putT_at hi
  chk i hi := by
    rw [sealT_at hi]
    exact congrArg (fun q => sb q i) (fnv_congr fun j hj => by rw [sealT_lo (by omega)])
  sum := rfl
theorem vAdd : ∀ ds, Sorts cAdd.sorts ds → tAdd.vc JI ds := by
  refine all_t fun T => all_i fun n => all_i fun h => all_i fun x0 => all_i fun x1 => all_i fun x2 => all_i fun x3 => all_i fun x4 => all_i fun x5 => all_i fun x6 => all_n ?_
  set_option linter.unusedSimpArgs false in
  simp only [tAdd, Tree.vc, PE.den, E.den, dens, BO.ev, List.getElem?_cons_zero, List.getElem?_cons_succ, List.cons_append, List.nil_append, Option.some.injEq, D.i.injEq, D.t.injEq, exists_eq_left', exists_const, forall_const, forall_eq', one_ne, one_eq, zero_ne, zero_eq, min_i64, max_i64, min_u8, max_u8, min_u16, max_u16, min_u32, max_u32, min_u64, max_u64, and_true, true_and, J1, J2, J3, J4, P0, P10, P11, P12, P14, P15, P16, P17, P18, P19, P20, P22]
  intro h0 h1 hh
  have e56 : (n + 56 - n).toNat = 56 := by omega
  have e60 : (n + 60 - n).toNat = 60 := by omega
  simp only [e56, e60]
  have hr := fnv_range (putT (putT (putT (putT (putT (putT (putT T n x0) (n + 8) x1) (n + 16) x2) (n + 24) x3) (n + 32) x4) (n + 40) x5) (n + 48) x6) n (h := h) (by omega) 56
  have ha := added_of T n h x0 x1 x2 x3 x4 x5 x6
  generalize putT (putT (putT (putT (putT (putT (putT T n x0) (n + 8) x1) (n + 16) x2) (n + 24) x3) (n + 32) x4) (n + 40) x5) (n + 48) x6 = A at hr ha ⊢
  generalize fnv A n 56 h = s at hr ha ⊢
  have hs : 0 ≤ s ∧ s ≤ 4294967295 := by omega
  clear hr
  repeat' (first | (refine And.intro ?_ ?_) | (intro _) | exact ha | omega)

/-! ### An encoding -/

theorem enc_next {F R E : Tb} {a b c h' : Int} {k : Nat} {x : Nat → Int} (hE : EncP F a b c E k) (hA : Added R h' F (36 + 60 * k : Int) (fnv F 0 (36 + 60 * k) offs) x) (hx : ∀ c, c < 7 → x c = E k c) :
    EncP R a b c E (k + 1) ∧ h' = fnv R 0 (36 + 60 * (k + 1)) offs := by
  have old : ∀ i : Nat, i < 36 + 60 * k → R (i : Int) 0 = F (i : Int) 0 := fun i hi => hA.old i (by omega) (by omega)
  have hf : fnv R 0 (36 + 60 * k) offs = fnv F 0 (36 + 60 * k) offs := fnv_congr fun i hi => by simpa using old i hi
  have e0 : (0 : Int) + ((36 + 60 * k : Nat) : Int) = 36 + 60 * k := by omega
  refine ⟨⟨⟨fun i hi => ?_, fun i hi => ?_, fun i hi => ?_, fun i hi => ?_, ?_⟩, fun j hj => ?_⟩, ?_⟩
  · rw [old i (by omega)]; exact hE.head.magic i hi
  · rw [old _ (by omega)]; exact hE.head.lim i hi
  · rw [old _ (by omega)]; exact hE.head.age i hi
  · rw [old _ (by omega)]; exact hE.head.keep i hi
  · exact hE.head.chk.congr fun i hi => old i (by omega)
  · by_cases hjk : j = k
    · subst hjk
      refine ⟨fun q hq i hi => ?_, fun i hi => ?_⟩
      · have := hA.num q i hq hi
        rw [hx q hq] at this
        rw [← this, show ((36 + 60 * j + 8 * q + i : Nat) : Int) = 36 + 60 * (j : Int) + 8 * q + i by omega]
      · have := hA.chk i hi
        have e1 := fnv_add R 0 (36 + 60 * j) offs 56
        rw [e0, hf] at e1
        rw [← e1] at this
        rw [← this, show ((36 + 60 * j + 56 + i : Nat) : Int) = 36 + 60 * (j : Int) + 56 + i by omega]
    · obtain ⟨h1, h2⟩ := hE.ent j (by omega)
      refine ⟨fun q hq i hi => ?_, h2.congr fun i hi => old i (by omega)⟩
      rw [old _ (by omega)]; exact h1 q hq i hi
  · have e1 := fnv_add R 0 (36 + 60 * k) offs 60
    rw [e0, hf] at e1
    rw [hA.sum, show 36 + 60 * (k + 1) = 36 + 60 * k + 60 by omega, e1]
theorem enc_zero {F E : Tb} {a b c : Int} (h : Head F a b c) : EncP F a b c E 0 := ⟨h, fun j hj => by omega⟩
theorem vEncode : ∀ ds, Sorts cEncode.sorts ds → tEncode.vc JI ds := by
  refine all_i fun a => all_i fun b => all_i fun c => all_t fun Q => all_i fun n => all_n ?_
  set_option linter.unusedSimpArgs false in
  simp only [tEncode, Tree.vc, PE.den, E.den, dens, BO.ev, List.getElem?_cons_zero, List.getElem?_cons_succ, List.cons_append, List.nil_append, Option.some.injEq, D.i.injEq, D.t.injEq, exists_eq_left', exists_const, forall_const, forall_eq', one_ne, one_eq, zero_ne, zero_eq, min_i64, max_i64, min_u8, max_u8, min_u16, max_u16, min_u32, max_u32, min_u64, max_u64, and_true, true_and, J1, J2, J3, J4, P0, P10, P11, P12, P14, P15, P16, P17, P18, P19, P20, P22]
  intro h0 h1 f hf
  refine ⟨enc_zero hf, ?_⟩
  rintro F _ k _ hk hkn rfl hE rfl
  refine ⟨fun hlt => ?_, fun hge => ?_⟩
  · have e : (36 + 60 * k).toNat = 36 + 60 * k.toNat := by omega
    have ek : ((k.toNat : Nat) : Int) = k := by omega
    have hr := fnv_range F 0 offs_range (36 + 60 * k.toNat)
    rw [e]
    refine ⟨by omega, by omega, ⟨hr.1, Int.le_of_lt_add_one hr.2⟩, ?_⟩
    intro R h' hA
    have hA' : Added R h' F (36 + 60 * (k.toNat : Nat) : Int) (fnv F 0 (36 + 60 * k.toNat) offs) (cols (Q k 0) (Q k 1) (Q k 2) (Q k 3) (Q k 4) (Q k 5) (Q k 6)) := by rw [ek]; exact hA
    obtain ⟨h2, h3⟩ := enc_next hE hA' fun q hq => by
      rw [ek]
      match q, hq with
      | 0, _ => rfl
      | 1, _ => rfl
      | 2, _ => rfl
      | 3, _ => rfl
      | 4, _ => rfl
      | 5, _ => rfl
      | 6, _ => rfl
    rw [show (k + 1).toNat = k.toNat + 1 by omega, show (36 + 60 * (k + 1)).toNat = 36 + 60 * (k.toNat + 1) by omega]
    exact ⟨by omega, by omega, by omega, by omega, h2, h3.symm, by omega, by omega⟩
  · rw [show k = n by omega] at hE ⊢
    exact ⟨rfl, hE⟩
end Go.Jn

namespace Go.Jn
open Go Go.Sx Go.Mg

theorem strEq_iff {f g : Tb} {n m : Int} : strEq f n g m ≠ 0 ↔ n = m ∧ ∀ i : Nat, i < n.toNat → f i 0 = g i 0 := by
  unfold strEq
  constructor
  · intro h
    by_cases hc : n = m ∧ ((List.range n.toNat).all fun i => f i 0 == g i 0) = true
    · refine ⟨hc.1, fun i hi => ?_⟩
      have := List.all_eq_true.1 hc.2 i (List.mem_range.2 hi)
      exact eq_of_beq this
    · rw [if_neg hc] at h; exact absurd rfl h
  · rintro ⟨h1, h2⟩
    rw [if_pos ⟨h1, List.all_eq_true.2 fun i hi => by rw [h2 i (List.mem_range.1 hi)]; exact beq_self_eq_true _⟩]
    decide
theorem vSealed : ∀ ds, Sorts cSealed.sorts ds → tSealed.vc JI ds := by
  refine all_t fun T => all_i fun len => all_i fun lo => all_i fun n => all_i fun h => all_n ?_
  set_option linter.unusedSimpArgs false in
  simp only [tSealed, Tree.vc, PE.den, E.den, dens, BO.ev, List.getElem?_cons_zero, List.getElem?_cons_succ, List.cons_append, List.nil_append, Option.some.injEq, D.i.injEq, D.t.injEq, exists_eq_left', exists_const, forall_const, forall_eq', one_ne, one_eq, zero_ne, zero_eq, min_i64, max_i64, min_u8, max_u8, min_u16, max_u16, min_u32, max_u32, min_u64, max_u64, and_true, true_and, J1, J2, J3, J4, P0, P10, P11, P12, P14, P15, P16, P17, P18, P19, P20, P22]
  intro h0 h1 h2 h3 hb hh
  have e0 : IntKind.u8.wrap (bitsEv 5 .u32 h 24) = sb h 0 := shr4 h 24 (by decide)
  have e1 : IntKind.u8.wrap (bitsEv 5 .u32 h 16) = sb h 1 := shr4 h 16 (by decide)
  have e2 : IntKind.u8.wrap (bitsEv 5 .u32 h 8) = sb h 2 := shr4 h 8 (by decide)
  have e3 : IntKind.u8.wrap h = sb h 3 := by rw [u8_wrap]; unfold sb; simp
  rw [e0, e1, e2, e3]
  have es : ∀ i : Nat, i < 4 → tupd (tupd (tupd (tupd (fun _ _ => 0) 0 0 (sb h 0)) 1 0 (sb h 1)) 2 0 (sb h 2)) 3 0 (sb h 3) (i : Int) 0 = sb h i := by
    intro i hi
    match i, hi with
    | 0, _ => rfl
    | 1, _ => rfl
    | 2, _ => rfl
    | 3, _ => rfl
  generalize tupd (tupd (tupd (tupd (fun _ _ => 0) 0 0 (sb h 0)) 1 0 (sb h 1)) 2 0 (sb h 2)) 3 0 (sb h 3) = S at es ⊢
  obtain ⟨_, _, rfl, rfl, hb⟩ := hb
  refine ⟨by omega, by omega, by omega, by omega, by omega, ⟨_, _, rfl, rfl, fun i hi => ?_⟩, ⟨_, _, rfl, rfl, fun i hi => ?_⟩, ?_⟩
  · have := hb (i + (lo + (n - 4))).toNat (by omega)
    rwa [show (((i + (lo + (n - 4))).toNat : Nat) : Int) = i + (lo + (n - 4)) by omega] at this
  · rw [es i (by omega)]; exact sb_range h i
  · rw [strEq_iff]
    constructor
    · rintro ⟨_, h5⟩ i hi
      have := h5 i (by omega)
      rw [es i hi] at this
      rw [← this, show (i : Int) + (lo + (n - 4)) = lo + n - 4 + i by omega]
    · intro h5
      refine ⟨by omega, fun i hi => ?_⟩
      rw [es i (by omega), ← h5 i (by omega), show (i : Int) + (lo + (n - 4)) = lo + n - 4 + i by omega]

/-! ### A number -/

theorem bit_or (x y : Nat) (hx : x < 2 ^ 64) (hy : y < 2 ^ 64) : bitsEv 1 .u64 (x : Int) (y : Int) = ((x ||| y : Nat) : Int) := by
  show IntKind.u64.wrap (((BitVec.ofInt 64 (x : Int)) ||| (BitVec.ofInt 64 (y : Int))).toNat : Int) = _
  rw [u64_wrap, BitVec.ofInt_natCast, BitVec.ofInt_natCast, BitVec.toNat_or, BitVec.toNat_ofNat, BitVec.toNat_ofNat, Nat.mod_eq_of_lt hx, Nat.mod_eq_of_lt hy]
  have := Nat.or_lt_two_pow hx hy
  exact Int.emod_eq_of_lt (by omega) (by omega)
theorem or_zero {c : Int} (c0 : 0 ≤ c) (c1 : c ≤ 255) : bitsEv 1 .u64 0 (IntKind.u64.wrap c) = c := by
  obtain ⟨k, rfl⟩ := Int.eq_ofNat_of_zero_le c0
  rw [u64_wrap, Int.emod_eq_of_lt (by omega) (by omega)]
  have := bit_or 0 k (by decide) (by omega)
  rw [Nat.zero_or] at this
  exact this
theorem or_step {a c : Int} (h0 : 0 ≤ a) (h1 : a < 72057594037927936) (c0 : 0 ≤ c) (c1 : c ≤ 255) : bitsEv 1 .u64 (bitsEv 4 .u64 a 8) (IntKind.u64.wrap c) = a * 256 + c := by
  obtain ⟨k, rfl⟩ := Int.eq_ofNat_of_zero_le c0
  obtain ⟨b, rfl⟩ := Int.eq_ofNat_of_zero_le h0
  have e1 : bitsEv 4 .u64 (b : Int) 8 = ((b * 256 : Nat) : Int) := by
    simp only [bitsEv, IntKind.bits]
    rw [u64_wrap]
    have : (2 : Int) ^ min (8 : Int).toNat 64 = 256 := by decide
    rw [this, Int.emod_eq_of_lt (by omega) (by omega)]
    simp
  rw [e1, u64_wrap, Int.emod_eq_of_lt (by omega) (by omega), bit_or _ _ (by omega) (by omega)]
  have := Nat.shiftLeft_add_eq_or_of_lt (i := 8) (b := k) (by omega) b
  rw [Nat.shiftLeft_eq] at this
  rw [show b * 256 = b * 2 ^ 8 from rfl, ← this]
  simp
theorem vGet : ∀ ds, Sorts (cGet 62).sorts ds → tGet.vc JI ds := by
  refine all_t fun T => all_i fun len => all_i fun lo => all_i fun n => all_n ?_
  set_option linter.unusedSimpArgs false in
  simp only [tGet, Tree.vc, PE.den, E.den, dens, BO.ev, List.getElem?_cons_zero, List.getElem?_cons_succ, List.cons_append, List.nil_append, Option.some.injEq, D.i.injEq, D.t.injEq, exists_eq_left', exists_const, forall_const, forall_eq', one_ne, one_eq, zero_ne, zero_eq, min_i64, max_i64, min_u8, max_u8, min_u16, max_u16, min_u32, max_u32, min_u64, max_u64, and_true, true_and, J1, J2, J3, J4, P0, P10, P11, P12, P14, P15, P16, P17, P18, P19, P20, P22]
  intro h0 h1 h2 h3 hb
  obtain ⟨_, _, rfl, rfl, hb⟩ := hb
  have hr : ∀ i : Nat, i < 8 → 0 ≤ T (lo + i) 0 ∧ T (lo + i) 0 ≤ 255 := fun i hi => by
    have := hb (lo + i).toNat (by omega)
    rwa [show (((lo + i).toNat : Nat) : Int) = lo + i by omega] at this
  have pw : ∀ k : Fin 8, (256 : Int) ^ k.val ≤ 72057594037927936 := by decide
  have ar : ∀ k : Nat, k < 8 → 0 ≤ acc T lo k ∧ acc T lo k < 72057594037927936 := fun k hk => by
    have := acc_range (f := T) (at' := lo) (n := k) fun i hi => hr i (by omega)
    have h5 := pw ⟨k, hk⟩
    simp only at h5
    exact ⟨this.1, by omega⟩
  have r0 := hr 0 (by decide)
  simp only [Int.natCast_zero, Int.add_zero] at r0
  have s1 : bitsEv 1 .u64 0 (IntKind.u64.wrap (T lo 0)) = acc T lo 1 := by
    rw [or_zero r0.1 r0.2]
    simp [acc]
  have s2 : bitsEv 1 .u64 (bitsEv 4 .u64 (acc T lo 1) 8) (IntKind.u64.wrap (T (lo + 1) 0)) = acc T lo 2 := or_step (ar 1 (by decide)).1 (ar 1 (by decide)).2 (hr 1 (by decide)).1 (hr 1 (by decide)).2
  have s3 : bitsEv 1 .u64 (bitsEv 4 .u64 (acc T lo 2) 8) (IntKind.u64.wrap (T (lo + 2) 0)) = acc T lo 3 := or_step (ar 2 (by decide)).1 (ar 2 (by decide)).2 (hr 2 (by decide)).1 (hr 2 (by decide)).2
  have s4 : bitsEv 1 .u64 (bitsEv 4 .u64 (acc T lo 3) 8) (IntKind.u64.wrap (T (lo + 3) 0)) = acc T lo 4 := or_step (ar 3 (by decide)).1 (ar 3 (by decide)).2 (hr 3 (by decide)).1 (hr 3 (by decide)).2
  have s5 : bitsEv 1 .u64 (bitsEv 4 .u64 (acc T lo 4) 8) (IntKind.u64.wrap (T (lo + 4) 0)) = acc T lo 5 := or_step (ar 4 (by decide)).1 (ar 4 (by decide)).2 (hr 4 (by decide)).1 (hr 4 (by decide)).2
  have s6 : bitsEv 1 .u64 (bitsEv 4 .u64 (acc T lo 5) 8) (IntKind.u64.wrap (T (lo + 5) 0)) = acc T lo 6 := or_step (ar 5 (by decide)).1 (ar 5 (by decide)).2 (hr 5 (by decide)).1 (hr 5 (by decide)).2
  have s7 : bitsEv 1 .u64 (bitsEv 4 .u64 (acc T lo 6) 8) (IntKind.u64.wrap (T (lo + 6) 0)) = acc T lo 7 := or_step (ar 6 (by decide)).1 (ar 6 (by decide)).2 (hr 6 (by decide)).1 (hr 6 (by decide)).2
  have s8 : bitsEv 1 .u64 (bitsEv 4 .u64 (acc T lo 7) 8) (IntKind.u64.wrap (T (lo + 7) 0)) = acc T lo 8 := or_step (ar 7 (by decide)).1 (ar 7 (by decide)).2 (hr 7 (by decide)).1 (hr 7 (by decide)).2
  rw [s1, s2, s3, s4, s5, s6, s7, s8]
  clear s1 s2 s3 s4 s5 s6 s7 s8 pw ar r0 hr hb
  refine ⟨by omega, by omega, by omega, by omega, by omega, by omega, by omega, by omega, by omega, by omega, by omega, by omega, by omega, by omega, by omega, rfl⟩
set_option maxHeartbeats 4000000 in
theorem vSameL : ∀ ds, Sorts cSameL.sorts ds → tSameL.vc JI ds := by
  refine all_i fun a0 => all_i fun a1 => all_i fun a2 => all_t fun A => all_i fun n => all_i fun b0 => all_i fun b1 => all_i fun b2 => all_t fun B => all_i fun len => all_i fun m => all_n ?_
  set_option linter.unusedSimpArgs false in
  simp only [tSameL, Tree.vc, PE.den, E.den, dens, BO.ev, List.getElem?_cons_zero, List.getElem?_cons_succ, List.cons_append, List.nil_append, Option.some.injEq, D.i.injEq, D.t.injEq, exists_eq_left', exists_const, forall_const, forall_eq', one_ne, one_eq, zero_ne, zero_eq, min_i64, max_i64, min_u8, max_u8, min_u16, max_u16, min_u32, max_u32, min_u64, max_u64, and_true, true_and, J1, J2, J3, J4, P0, P10, P11, P12, P14, P15, P16, P17, P18, P19, P20, P22]
  have e : ∀ r, ((A r 0 = B r 0 ∧ A r 1 = B r 1 ∧ A r 2 = B r 2 ∧ A r 3 = B r 3 ∧ A r 4 = B r 4 ∧ (1 : Int) ≠ 0) ∧ (A r 5 = B r 5 ∧ A r 6 = B r 6 ∧ (1 : Int) ≠ 0) ∧ (1 : Int) ≠ 0) = RowEq A B r := fun _ => rfl
  simp only [e]
  generalize RowEq A B = Q
  repeat' (first | trivial | (intro _) | (refine And.intro ?_ ?_))
  all_goals first | omega | grind

/-! ### Decoding -/

theorem Sealed.next {T : Tb} {k : Int} (hk : 0 ≤ k) (h : Sealed T k) (hs : SealAt T (36 + 60 * k.toNat + 56)) : Sealed T (k + 1) := fun j hj => by
  by_cases e : j = k.toNat
  · subst e; exact hs
  · exact h j (by omega)
theorem Sealed.zero (T : Tb) : Sealed T 0 := fun j hj => by omega
theorem Reads.zero (T E : Tb) : Reads T E 0 := fun j c hj => by omega
theorem row7_at {E : Tb} {k x0 x1 x2 x3 x4 x5 x6 : Int} {c : Nat} (hc : c < 7) : tupd (tupd (tupd (tupd (tupd (tupd (tupd E k 0 x0) k 1 x1) k 2 x2) k 3 x3) k 4 x4) k 5 x5) k 6 x6 k c = cols x0 x1 x2 x3 x4 x5 x6 c := by
  match c, hc with
  | 0, _ => simp [tupd, cols]
  | 1, _ => simp [tupd, cols]
  | 2, _ => simp [tupd, cols]
  | 3, _ => simp [tupd, cols]
  | 4, _ => simp [tupd, cols]
  | 5, _ => simp [tupd, cols]
  | 6, _ => simp [tupd, cols]
theorem row7_far {E : Tb} {k r x0 x1 x2 x3 x4 x5 x6 : Int} {c : Nat} (h : r ≠ k) : tupd (tupd (tupd (tupd (tupd (tupd (tupd E k 0 x0) k 1 x1) k 2 x2) k 3 x3) k 4 x4) k 5 x5) k 6 x6 r c = E r c := by
  simp [tupd, h]
theorem Reads.next {T E : Tb} {k : Int} (hk : 0 ≤ k) (h : Reads T E k.toNat) {x0 x1 x2 x3 x4 x5 x6 : Int}
    (hx : ∀ c, c < 7 → cols x0 x1 x2 x3 x4 x5 x6 c = getI T (36 + 60 * k + 8 * c)) :
    Reads T (tupd (tupd (tupd (tupd (tupd (tupd (tupd E k 0 x0) k 1 x1) k 2 x2) k 3 x3) k 4 x4) k 5 x5) k 6 x6) (k + 1).toNat := fun j c hj hc => by
  by_cases e : (j : Int) = k
  · rw [e, row7_at hc, hx c hc]
    congr 1
    omega
  · rw [row7_far e]
    exact h j c (by omega) hc
theorem valid_of {T : Tb} {n k : Int} (hk : 0 ≤ k) (hn : 36 + 60 * k ≤ n) (hS : Sealed T k) (h : 60 ≤ n - (36 + 60 * k) → ¬ SealAt T (36 + 60 * k.toNat + 56)) : 0 ≤ k ∧ Valid T n.toNat k.toNat :=
  ⟨hk, by omega, fun j hj => hS j (by omega), fun h1 => h (by omega)⟩
theorem seal_iff {T : Tb} {k : Int} (hk : 0 ≤ k) : (∀ i : Nat, i < 4 → T (36 + 60 * k + 60 - 4 + i) 0 = sb (fnv T (36 + 60 * k) 56 (fnv T 0 (36 + 60 * k.toNat) offs)) i) ↔ SealAt T (36 + 60 * k.toNat + 56) := by
  have e := fnv_add T 0 (36 + 60 * k.toNat) offs 56
  rw [show (0 : Int) + ((36 + 60 * k.toNat : Nat) : Int) = 36 + 60 * k by omega] at e
  rw [← e]
  refine forall_congr' fun i => forall_congr' fun _ => ?_
  rw [show ((36 + 60 * k.toNat + 56 + i : Nat) : Int) = 36 + 60 * k + 60 - 4 + i by omega]
theorem mag_of {T : Tb} (hm : ∀ i : Nat, i < 8 → T (i : Nat) 0 = magicB.getD i 0) : (((((((((1 : Int) ≠ 0 ∧ T 0 0 = 112) ∧ T 1 0 = 111) ∧ T 2 0 = 108) ∧ T 3 0 = 100) ∧ T 4 0 = 101) ∧ T 5 0 = 114) ∧ T 6 0 = 49) ∧ T 7 0 = 10) :=
  ⟨⟨⟨⟨⟨⟨⟨⟨by decide, hm 0 (by decide)⟩, hm 1 (by decide)⟩, hm 2 (by decide)⟩, hm 3 (by decide)⟩, hm 4 (by decide)⟩, hm 5 (by decide)⟩, hm 6 (by decide)⟩, hm 7 (by decide)⟩
theorem of_mag {T : Tb} (h : (((((((((1 : Int) ≠ 0 ∧ T 0 0 = 112) ∧ T 1 0 = 111) ∧ T 2 0 = 108) ∧ T 3 0 = 100) ∧ T 4 0 = 101) ∧ T 5 0 = 114) ∧ T 6 0 = 49) ∧ T 7 0 = 10)) : ∀ i : Nat, i < 8 → T (i : Nat) 0 = magicB.getD i 0 := by
  obtain ⟨⟨⟨⟨⟨⟨⟨⟨_, h0⟩, h1⟩, h2⟩, h3⟩, h4⟩, h5⟩, h6⟩, h7⟩ := h
  intro i hi
  match i, hi with
  | 0, _ => exact h0
  | 1, _ => exact h1
  | 2, _ => exact h2
  | 3, _ => exact h3
  | 4, _ => exact h4
  | 5, _ => exact h5
  | 6, _ => exact h6
  | 7, _ => exact h7
theorem head_iff {T : Tb} : (∀ i : Nat, i < 4 → T (32 + i) 0 = sb (fnv T 0 32 offs) i) ↔ SealAt T 32 := by
  refine forall_congr' fun i => forall_congr' fun _ => ?_
  rw [show ((32 + i : Nat) : Int) = 32 + (i : Int) by omega]

theorem vDecode : ∀ ds, Sorts cDecode.sorts ds → tDecode.vc JI ds := by
  refine all_t fun T => all_i fun len => all_i fun n => all_n ?_
  set_option linter.unusedSimpArgs false in
  simp only [tDecode, Tree.vc, PE.den, E.den, dens, BO.ev, List.getElem?_cons_zero, List.getElem?_cons_succ, List.cons_append, List.nil_append, Option.some.injEq, D.i.injEq, D.t.injEq, exists_eq_left', exists_const, forall_const, forall_eq', one_ne, one_eq, zero_ne, zero_eq, min_i64, max_i64, min_u8, max_u8, min_u16, max_u16, min_u32, max_u32, min_u64, max_u64, and_true, true_and, J1, J2, J3, J4, P0, P10, P11, P12, P14, P15, P16, P17, P18, P19, P20, P22]
  intro h0 h1 h2 h3 hb hH
  obtain ⟨_, _, rfl, rfl, hb⟩ := hb
  obtain ⟨hn, hm, hs⟩ := hH
  have rng : ∀ q lo h, (0 ≤ h ∧ h < 4294967296) → 0 ≤ fnv T lo q h ∧ fnv T lo q h ≤ 4294967295 := fun q lo h hh => ⟨(fnv_range T lo hh q).1, Int.le_of_lt_add_one (fnv_range T lo hh q).2⟩
  have r0 := rng 32 0 offs offs_range
  refine ⟨fun h => by omega, fun _ => ⟨by omega, by omega, ⟨_, _, rfl, rfl, fun i hi => hb i (by omega)⟩, fun h => h (mag_of hm), fun _ => ⟨by omega, by omega, by omega, r0, ?_⟩⟩⟩
  intro q hq
  refine ⟨fun hq0 => hq.2 (head_iff.2 hs) hq0, fun _ => ⟨by omega, by omega, by omega, by omega, by omega, by omega, by omega, by omega, by omega, .zero _ _, .zero _, ?_⟩⟩
  rintro E k _ _ _ hk hkn rfl rfl hR hS rfl
  rw [show (36 + 60 * k).toNat = 36 + 60 * k.toNat by omega]
  refine ⟨fun h60 => ?_, fun h60 => ⟨by omega, by omega, valid_of hk hkn hS fun h => absurd h h60⟩⟩
  have r1 := rng (36 + 60 * k.toNat) 0 offs offs_range
  have r2 := rng 56 (36 + 60 * k) _ ⟨r1.1, Int.lt_add_one_of_le r1.2⟩
  refine ⟨r1, by omega, by omega, by omega, r2, ?_⟩
  intro b hb
  have hbs := hb.trans (seal_iff hk)
  refine ⟨fun hb0 => ⟨by omega, by omega, valid_of hk hkn hS fun _ h => hbs.2 h hb0⟩, fun hb0 => ?_⟩
  have hse := hbs.1 hb0
  have e := fnv_add T 0 (36 + 60 * k.toNat) offs 60
  rw [show (0 : Int) + ((36 + 60 * k.toNat : Nat) : Int) = 36 + 60 * k by omega] at e
  refine ⟨by omega, by omega, by omega, by omega, by omega, by omega, by omega, by omega, by omega, by omega, by omega, by omega, hR.next hk fun c hc => ?_, hS.next hk hse, ?_, by omega, by omega⟩
  · match c, hc with
    | 0, _ => exact congrArg (getI T) (show 36 + 60 * k = 36 + 60 * k + 8 * ((0 : Nat) : Int) by omega)
    | 1, _ => rfl
    | 2, _ => rfl
    | 3, _ => rfl
    | 4, _ => rfl
    | 5, _ => rfl
    | 6, _ => rfl
  · rw [show (36 + 60 * (k + 1)).toNat = 36 + 60 * k.toNat + 60 by omega]
    exact e
theorem vDecodeBad : ∀ ds, Sorts cDecodeBad.sorts ds → tDecodeBad.vc JI ds := by
  refine all_t fun T => all_i fun len => all_i fun n => all_n ?_
  set_option linter.unusedSimpArgs false in
  simp only [tDecodeBad, Tree.vc, PE.den, E.den, dens, BO.ev, List.getElem?_cons_zero, List.getElem?_cons_succ, List.cons_append, List.nil_append, Option.some.injEq, D.i.injEq, D.t.injEq, exists_eq_left', exists_const, forall_const, forall_eq', one_ne, one_eq, zero_ne, zero_eq, min_i64, max_i64, min_u8, max_u8, min_u16, max_u16, min_u32, max_u32, min_u64, max_u64, and_true, true_and, J1, J2, J3, J4, P0, P10, P11, P12, P14, P15, P16, P17, P18, P19, P20, P22]
  intro h0 h1 h2 h3 hb hH
  obtain ⟨_, _, rfl, rfl, hb⟩ := hb
  have r0 : 0 ≤ fnv T 0 32 offs ∧ fnv T 0 32 offs ≤ 4294967295 := ⟨(fnv_range T 0 offs_range 32).1, Int.le_of_lt_add_one (fnv_range T 0 offs_range 32).2⟩
  refine ⟨fun h => trivial, fun hn => ⟨by omega, by omega, ⟨_, _, rfl, rfl, fun i hi => hb i (by omega)⟩, fun h => trivial, fun hm => ⟨by omega, by omega, by omega, r0, ?_⟩⟩⟩
  intro q hq
  exact ⟨fun _ => trivial, fun hq0 => absurd ⟨by omega, of_mag (Decidable.not_not.1 hm), head_iff.1 (hq.1 hq0)⟩ hH⟩
end Go.Jn
