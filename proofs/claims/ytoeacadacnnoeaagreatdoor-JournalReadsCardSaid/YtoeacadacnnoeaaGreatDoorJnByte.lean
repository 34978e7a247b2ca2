/-
  A byte that is changed is noticed. Plain Lean; no program is spoken of. Conditions: none.
-/
import Derived.Test.YtoeacadacnnoeaaGreatDoorJnSpec
import Derived.Test.YtoeacadacnnoeaaGreatDoorJnV1
namespace Go.Jn
open Go Go.Sx

def IsByte (x : Int) : Prop := 0 ≤ x ∧ x ≤ 255

theorem xor32 (x y : Nat) (hx : x < 2 ^ 32) (hy : y < 2 ^ 32) : bitsEv 2 .u32 (x : Int) (y : Int) = ((x ^^^ y : Nat) : Int) := by
  show IntKind.u32.wrap (((BitVec.ofInt 32 (x : Int)) ^^^ (BitVec.ofInt 32 (y : Int))).toNat : Int) = _
  rw [u32_wrap, BitVec.ofInt_natCast, BitVec.ofInt_natCast, BitVec.toNat_xor, BitVec.toNat_ofNat, BitVec.toNat_ofNat, Nat.mod_eq_of_lt hx, Nat.mod_eq_of_lt hy]
  have := Nat.xor_lt_two_pow hx hy
  exact Int.emod_eq_of_lt (by omega) (by omega)
theorem xor8 (x y : Nat) (hx : x < 2 ^ 8) (hy : y < 2 ^ 8) : bitsEv 2 .u8 (x : Int) (y : Int) = ((x ^^^ y : Nat) : Int) ∧ x ^^^ y < 2 ^ 8 := by
  have h := Nat.xor_lt_two_pow hx hy
  refine ⟨?_, h⟩
  show IntKind.u8.wrap (((BitVec.ofInt 8 (x : Int)) ^^^ (BitVec.ofInt 8 (y : Int))).toNat : Int) = _
  rw [u8_wrap, BitVec.ofInt_natCast, BitVec.ofInt_natCast, BitVec.toNat_xor, BitVec.toNat_ofNat, BitVec.toNat_ofNat, Nat.mod_eq_of_lt hx, Nat.mod_eq_of_lt hy]
  exact Int.emod_eq_of_lt (by omega) (by omega)
theorem xor_other {a b c : Nat} (h : a ^^^ c = b ^^^ c) : a = b := by
  have := congrArg (· ^^^ c) h
  simpa [Nat.xor_assoc] using this
theorem xor_byte {x y : Int} (hx : IsByte x) (hy : IsByte y) (h0 : y ≠ 0) : IsByte (bitsEv 2 .u8 x y) ∧ bitsEv 2 .u8 x y ≠ x := by
  obtain ⟨h1, h2⟩ := hx
  obtain ⟨h3, h4⟩ := hy
  obtain ⟨a, rfl⟩ := Int.eq_ofNat_of_zero_le h1
  obtain ⟨b, rfl⟩ := Int.eq_ofNat_of_zero_le h3
  obtain ⟨e, hl⟩ := xor8 a b (by omega) (by omega)
  rw [e]
  refine ⟨⟨by omega, by omega⟩, fun h => h0 ?_⟩
  have h5 : b ^^^ a = 0 ^^^ a := by rw [Nat.zero_xor, Nat.xor_comm]; omega
  have := xor_other h5
  omega
theorem mul_inj {x y : Int} (hx : 0 ≤ x ∧ x < 4294967296) (hy : 0 ≤ y ∧ y < 4294967296) (h : x * 16777619 % 4294967296 = y * 16777619 % 4294967296) : x = y := by
  have h1 := Int.emod_add_mul_ediv (x * 16777619) 4294967296
  have h2 := Int.emod_add_mul_ediv (y * 16777619) 4294967296
  rw [h] at h1
  generalize y * 16777619 % 4294967296 = r at h1 h2
  generalize x * 16777619 / 4294967296 = a at h1
  generalize y * 16777619 / 4294967296 = b at h2
  clear h
  have h3 : (x - y) * 16777619 = 4294967296 * (a - b) := by
    rw [Int.sub_mul, Int.mul_sub, ← h1, ← h2]
    clear h1 h2 hx hy
    generalize 4294967296 * a = u
    generalize 4294967296 * b = w
    omega
  clear h1 h2
  have hd : -4294967296 < x - y ∧ x - y < 4294967296 := by clear h3; omega
  suffices x - y = 0 by clear h3; omega
  generalize x - y = d at h3 hd ⊢
  clear hx hy
  have h4 : d * 16777619 * 899433627 = d + 4294967296 * (3513497 * d) := by
    rw [Int.mul_assoc, show (16777619 : Int) * 899433627 = 1 + 4294967296 * 3513497 by decide, Int.mul_add, Int.mul_one, Int.mul_comm d, Int.mul_assoc]
  rw [h3, Int.mul_assoc] at h4
  generalize (a - b) * 899433627 = u at h4
  generalize 3513497 * d = w at h4
  clear h3
  omega
theorem fstep_inj {h h' c c' : Int} (hh : 0 ≤ h ∧ h < 4294967296) (hh' : 0 ≤ h' ∧ h' < 4294967296) (hc : IsByte c) (hc' : IsByte c') (e : fstep h c = fstep h' c') : (h = h' → c = c') ∧ (c = c' → h = h') := by
  obtain ⟨h1, h2⟩ := hh
  obtain ⟨h3, h4⟩ := hh'
  obtain ⟨c1, c2⟩ := hc
  obtain ⟨c3, c4⟩ := hc'
  obtain ⟨a, rfl⟩ := Int.eq_ofNat_of_zero_le h1
  obtain ⟨b, rfl⟩ := Int.eq_ofNat_of_zero_le h3
  obtain ⟨p, rfl⟩ := Int.eq_ofNat_of_zero_le c1
  obtain ⟨q, rfl⟩ := Int.eq_ofNat_of_zero_le c3
  unfold fstep at e
  rw [u32_wrap ((p : Nat) : Int), u32_wrap ((q : Nat) : Int), Int.emod_eq_of_lt (by omega) (by omega), Int.emod_eq_of_lt (by omega) (by omega), xor32 a p (by omega) (by omega), xor32 b q (by omega) (by omega), u32_wrap, u32_wrap] at e
  have l1 := Nat.xor_lt_two_pow (x := a) (y := p) (n := 32) (by clear e; omega) (by clear e; omega)
  have l2 := Nat.xor_lt_two_pow (x := b) (y := q) (n := 32) (by clear e; omega) (by clear e; omega)
  have b1 : 0 ≤ ((a ^^^ p : Nat) : Int) ∧ ((a ^^^ p : Nat) : Int) < 4294967296 := by clear e; omega
  have b2 : 0 ≤ ((b ^^^ q : Nat) : Int) ∧ ((b ^^^ q : Nat) : Int) < 4294967296 := by clear e; omega
  have e1 := mul_inj b1 b2 e
  clear e
  have e2 : a ^^^ p = b ^^^ q := by omega
  refine ⟨fun hab => ?_, fun hpq => ?_⟩
  · have : a = b := by omega
    subst this
    rw [Nat.xor_comm a p, Nat.xor_comm a q] at e2
    have := xor_other e2
    omega
  · have : p = q := by omega
    subst this
    have := xor_other e2
    omega

/-- One byte is another. -/
structure Chg (F G : Int → Nat → Int) (L i : Nat) : Prop where
  lt : i < L
  byte : ∀ r : Nat, r < L → IsByte (F r 0)
  other : ∀ r : Nat, r ≠ i → G r 0 = F r 0
  new : IsByte (G i 0)
  ne : G i 0 ≠ F i 0

section
variable {F G : Int → Nat → Int} {L i : Nat} (h : Chg F G L i)
include h
theorem Chg.byteG (r : Nat) (hr : r < L) : IsByte (G r 0) := by
  by_cases e : r = i
  · subst e; exact h.new
  · rw [h.other r e]; exact h.byte r hr
theorem Chg.fnv_ne (n : Nat) : i < n → n ≤ L → fnv G 0 n offs ≠ fnv F 0 n offs := by
  induction n with
  | zero => intro h1 _; omega
  | succ n ih =>
    intro h1 h2 e
    have hr : 0 ≤ offs ∧ offs < 4294967296 := by unfold offs; omega
    simp only [fnv, Int.zero_add] at e
    obtain ⟨e1, e2⟩ := fstep_inj (fnv_range G 0 hr n) (fnv_range F 0 hr n) (h.byteG n (by omega)) (h.byte n (by omega)) e
    by_cases hn : n = i
    · subst hn
      exact h.ne (e1 (fnv_congr fun j hj => by simpa using h.other j (by omega)))
    · exact ih (by omega) (by omega) (e2 (h.other n hn))
theorem Chg.broken {at' : Nat} (hF : SealAt F at') (h1 : i < at' + 4) (h2 : at' + 4 ≤ L) : ¬ SealAt G at' := fun hG => by
  have hr : 0 ≤ offs ∧ offs < 4294967296 := by unfold offs; omega
  by_cases hi : i < at'
  · have hne := h.fnv_ne at' hi (by omega)
    have r1 := fnv_range G 0 hr at'
    have r2 := fnv_range F 0 hr at'
    have e : ∀ j : Nat, j < 4 → sb (fnv G 0 at' offs) j = sb (fnv F 0 at' offs) j := fun j hj => by
      rw [← hG j hj, ← hF j hj]
      exact h.other _ (by omega)
    have e0 := e 0 (by decide)
    have e1 := e 1 (by decide)
    have e2 := e 2 (by decide)
    have e3 := e 3 (by decide)
    generalize fnv G 0 at' offs = x at *
    generalize fnv F 0 at' offs = y at *
    simp only [sb, Nat.reduceMul, Nat.reduceSub, Int.reducePow] at e0 e1 e2 e3
    omega
  · have ef : fnv G 0 at' offs = fnv F 0 at' offs := fnv_congr fun j hj => by simpa using h.other j (by omega)
    obtain ⟨j, rfl⟩ : ∃ j, i = at' + j := ⟨i - at', by omega⟩
    apply h.ne
    rw [hG j (by omega), hF j (by omega), ef]
theorem Chg.seal {at' : Nat} (hF : SealAt F at') (h1 : at' + 4 ≤ i) : SealAt G at' := hF.congr fun r hr => h.other r (by omega)
end

theorem Head.byte {F : Int → Nat → Int} {a b c : Int} (h : Head F a b c) (r : Nat) (hr : r < 36) : IsByte (F r 0) := by
  by_cases h8 : r < 8
  · rw [h.magic r h8]
    have : ∀ k : Fin 8, 0 ≤ magicB.getD k.val 0 ∧ magicB.getD k.val 0 ≤ 255 := by decide
    exact this ⟨r, h8⟩
  by_cases h16 : r < 16
  · obtain ⟨i, hi, rfl⟩ := split8 8 (by omega) h16
    rw [h.lim i hi]; exact nb_range _ _
  by_cases h24 : r < 24
  · obtain ⟨i, hi, rfl⟩ := split8 16 (by omega) h24
    rw [h.age i hi]; exact nb_range _ _
  by_cases h32 : r < 32
  · obtain ⟨i, hi, rfl⟩ := split8 24 (by omega) h32
    rw [h.keep i hi]; exact nb_range _ _
  · obtain ⟨i, hi, rfl⟩ : ∃ i, i < 4 ∧ r = 32 + i := ⟨r - 32, by omega, by omega⟩
    rw [h.chk i hi]; exact sb_range _ _
theorem EncP.byte {F E : Int → Nat → Int} {a b c : Int} {k : Nat} (h : EncP F a b c E k) (r : Nat) (hr : r < 36 + 60 * k) : IsByte (F r 0) := by
  by_cases h36 : r < 36
  · exact h.head.byte r h36
  · obtain ⟨j, q, hq, rfl⟩ : ∃ j q, q < 60 ∧ r = 36 + 60 * j + q := ⟨(r - 36) / 60, (r - 36) % 60, Nat.mod_lt _ (by decide), by omega⟩
    obtain ⟨h1, h2⟩ := h.ent j (by omega)
    by_cases h56 : q < 56
    · obtain ⟨c, i, hi, rfl⟩ : ∃ c i, i < 8 ∧ q = 8 * c + i := ⟨q / 8, q % 8, Nat.mod_lt _ (by decide), by omega⟩
      have := h1 c (by omega) i hi
      rw [Nat.add_assoc] at this
      rw [this]; exact nb_range _ _
    · obtain ⟨i, hi, rfl⟩ : ∃ i, i < 4 ∧ q = 56 + i := ⟨q - 56, by omega, by omega⟩
      have := h2 i hi
      rw [Nat.add_assoc] at this
      rw [this]; exact sb_range _ _
theorem not_head {F G : Int → Nat → Int} {L i : Nat} {a b c : Int} (hF : Head F a b c) (h : Chg F G L i) (hi : i < 36) (hL : 36 ≤ L) : ¬ HeadOk G L := fun ⟨_, hm, hs⟩ => by
  by_cases h8 : i < 8
  · apply h.ne
    rw [hm i h8, hF.magic i h8]
  · exact h.broken hF.chk (by omega) hL hs
/-- What is read from rows that are as they were. -/
theorem getI_enc {F G : Int → Nat → Int} {x : Int} {at' : Nat} (hF : ∀ i : Nat, i < 8 → F (at' + i : Nat) 0 = nb x i) (hG : ∀ i : Nat, i < 8 → G (at' + i : Nat) 0 = F (at' + i : Nat) 0) (hx : -9223372036854775808 ≤ x ∧ x ≤ 9223372036854775807) : getI G (at' : Nat) = x :=
  getI_nb (fun i hi => by
    have := hG i hi
    rw [hF i hi] at this
    rw [← this]
    congr 1) hx
end Go.Jn

namespace Go.Jn
open Go Go.Sx Go.Mg

theorem i64_same {x : Int} (h0 : 0 ≤ x) (h1 : x ≤ 65535) : IntKind.i64.wrap x = x := by
  rw [i64_wrap, Int.emod_eq_of_lt (by omega) (by omega), if_neg (by omega)]
theorem chg_of {F E : Tb} {a b c n i by' : Int} (hn : 0 ≤ n) (hE : EncP F a b c E n.toNat) (hi : 0 ≤ i) (hl : i < 36 + 60 * n) (hb : 0 ≤ by' ∧ by' ≤ 255) (h0 : by' ≠ 0) :
    Chg F (tupd F i 0 (bitsEv 2 .u8 (F i 0) by')) (36 + 60 * n.toNat) i.toNat := by
  have e : ((i.toNat : Nat) : Int) = i := by omega
  have hx := xor_byte (x := F i 0) (y := by') (by rw [← e]; exact hE.byte _ (by omega)) hb h0
  refine ⟨by omega, fun r hr => hE.byte r hr, fun r hr => tupd_far (by omega), ?_, ?_⟩
  · rw [e, tupd_at]; exact hx.1
  · rw [e, tupd_at]; exact hx.2

theorem quo60 {x : Int} (h0 : 0 ≤ x) (h1 : x < 1000000) : bitsEv 6 .i64 x 60 = x / 60 := by
  have h2 : x.tdiv 60 = x / 60 := Int.tdiv_eq_ediv_of_nonneg h0
  simp only [bitsEv, h2]
  rw [i64_wrap, Int.emod_eq_of_lt (by omega) (by omega), if_neg (by omega)]
theorem rows_read {F G Q f : Tb} {a b c : Int} {k m : Nat} (hE : EncP F a b c Q m) (hk : k ≤ m) (hG : ∀ r : Nat, r < 36 + 60 * k → G r 0 = F r 0) (hR : Reads G f k)
    (hQ : ∀ r : Int, 0 ≤ r → r < m → ∀ j : Nat, j < 7 → -9223372036854775808 ≤ Q r j ∧ Q r j ≤ 9223372036854775807) : ∀ r : Int, 0 ≤ r → r < k → RowEq f Q r := by
  intro r h0 h1
  obtain ⟨q, rfl⟩ := Int.eq_ofNat_of_zero_le h0
  have key : ∀ j : Nat, j < 7 → f (q : Int) j = Q q j := fun j hj => by
    rw [hR q j (by omega) hj]
    exact getI_enc (F := F) (fun i hi => (hE.ent q (by omega)).1 j hj i hi) (fun i hi => hG _ (by omega)) (hQ q (by omega) (by omega) j hj)
  exact ⟨⟨key 0 (by decide), key 1 (by decide), key 2 (by decide), key 3 (by decide), key 4 (by decide), by decide⟩, ⟨key 5 (by decide), key 6 (by decide), by decide⟩, by decide⟩

theorem vBytesH : ∀ ds, Sorts cBytesH.sorts ds → tBytesH.vc JI ds := by
  refine all_i fun a => all_i fun b => all_i fun c => all_t fun Q => all_i fun n => all_i fun at' => all_i fun by' => all_n ?_
  set_option linter.unusedSimpArgs false in
  simp only [tBytesH, Tree.vc, PE.den, E.den, dens, BO.ev, List.getElem?_cons_zero, List.getElem?_cons_succ, List.cons_append, List.nil_append, Option.some.injEq, D.i.injEq, D.t.injEq, exists_eq_left', exists_const, forall_const, forall_eq', one_ne, one_eq, zero_ne, zero_eq, min_i64, max_i64, min_u8, max_u8, min_u16, max_u16, min_u32, max_u32, min_u64, max_u64, and_true, true_and, J1, J2, J3, J4, P0, P10, P11, P12, P14, P15, P16, P17, P18, P19, P20, P22]
  intro h0 _ _ _ _ hat hby hlt
  refine ⟨fun _ => trivial, fun hn => ⟨fun _ => trivial, fun hb0 => ⟨by omega, ?_⟩⟩⟩
  intro F hE
  rw [i64_same hat.1 hat.2]
  have hm : at'.tmod (36 + 60 * n) = at' % (36 + 60 * n) := Int.tmod_eq_emod_of_nonneg hat.1
  rw [hm] at hlt ⊢
  have hi0 : 0 ≤ at' % (36 + 60 * n) := Int.emod_nonneg _ (by omega)
  have hi1 : at' % (36 + 60 * n) < 36 + 60 * n := Int.emod_lt_of_pos _ (by omega)
  generalize at' % (36 + 60 * n) = i at hlt hi0 hi1 ⊢
  have hC := chg_of h0 hE hi0 hi1 hby hb0
  generalize tupd F i 0 (bitsEv 2 .u8 (F i 0) by') = G at hC ⊢
  have hL : (36 + 60 * n).toNat = 36 + 60 * n.toNat := by omega
  rw [hL]
  exact ⟨by omega, by omega, fun h => h trivial, fun _ => ⟨by omega, by omega, by omega, by omega, by omega, by omega, by omega, ⟨_, _, rfl, rfl, fun r hr => hC.byteG r (by omega)⟩, not_head hE.head hC (by omega) (by omega), fun _ => trivial, fun h => absurd hlt h⟩⟩
theorem vBytesE : ∀ ds, Sorts cBytesE.sorts ds → tBytesE.vc JI ds := by
  refine all_i fun a => all_i fun b => all_i fun c => all_t fun Q => all_i fun n => all_i fun at' => all_i fun by' => all_n ?_
  set_option linter.unusedSimpArgs false in
  simp only [tBytesE, Tree.vc, PE.den, E.den, dens, BO.ev, List.getElem?_cons_zero, List.getElem?_cons_succ, List.cons_append, List.nil_append, Option.some.injEq, D.i.injEq, D.t.injEq, exists_eq_left', exists_const, forall_const, forall_eq', one_ne, one_eq, zero_ne, zero_eq, min_i64, max_i64, min_u8, max_u8, min_u16, max_u16, min_u32, max_u32, min_u64, max_u64, and_true, true_and, J1, J2, J3, J4, P0, P10, P11, P12, P14, P15, P16, P17, P18, P19, P20, P22]
  intro h0 ha hb hc hQ hat hby hlt
  refine ⟨fun _ => trivial, fun hn => ⟨fun _ => trivial, fun hb0 => ⟨by omega, ?_⟩⟩⟩
  intro F hE
  rw [i64_same hat.1 hat.2]
  have hm : at'.tmod (36 + 60 * n) = at' % (36 + 60 * n) := Int.tmod_eq_emod_of_nonneg hat.1
  rw [hm] at hlt ⊢
  have hi0 : 0 ≤ at' % (36 + 60 * n) := Int.emod_nonneg _ (by omega)
  have hi1 : at' % (36 + 60 * n) < 36 + 60 * n := Int.emod_lt_of_pos _ (by omega)
  generalize at' % (36 + 60 * n) = i at hlt hi0 hi1 ⊢
  have hC := chg_of h0 hE hi0 hi1 hby hb0
  generalize tupd F i 0 (bitsEv 2 .u8 (F i 0) by') = G at hC ⊢
  have hL : (36 + 60 * n).toNat = 36 + 60 * n.toNat := by omega
  rw [hL, quo60 (by omega) (by omega)]
  have hk : 0 ≤ (i - 36) / 60 ∧ (i - 36) / 60 < n ∧ 36 + 60 * ((i - 36) / 60) ≤ i ∧ i < 36 + 60 * ((i - 36) / 60) + 60 := by omega
  generalize (i - 36) / 60 = k at hk ⊢
  obtain ⟨k0, k1, k2, k3⟩ := hk
  have hH : HeadOk G (36 + 60 * n.toNat) := ⟨by omega, fun r hr => by rw [hC.other r (by omega)]; exact hE.head.magic r hr, hC.seal hE.head.chk (by omega)⟩
  have hV : Valid G (36 + 60 * n.toNat) k.toNat := ⟨by omega, fun j hj => hC.seal (hE.ent j (by omega)).2 (by omega), fun _ => hC.broken (hE.ent k.toNat (by omega)).2 (by omega) (by omega)⟩
  have g8 : getI G 8 = a := getI_enc (at' := 8) hE.head.lim (fun r hr => hC.other _ (by omega)) ha
  have g16 : getI G 16 = b := getI_enc (at' := 16) hE.head.age (fun r hr => hC.other _ (by omega)) hb
  have g24 : getI G 24 = c := getI_enc (at' := 24) hE.head.keep (fun r hr => hC.other _ (by omega)) hc
  refine ⟨by omega, by omega, fun h => h trivial, fun _ => ⟨by omega, by omega, by omega, by omega, by omega, by omega, by omega, ⟨_, _, rfl, rfl, fun r hr => hC.byteG r (by omega)⟩, hH, ?_⟩⟩
  rintro f m _ _ _ _ _ _ _ _ ⟨hm0, hm1⟩ hR
  have hmk : m = k := by
    have := hm1.unique hV
    omega
  subst hmk
  refine ⟨fun h => by omega, fun _ => ⟨by omega, by omega, by omega, fun _ => ⟨by omega, by omega, by omega, by omega, fun q hq => ⟨fun _ => trivial, fun h => hq.2 ⟨⟨g8, g16, g24⟩, rfl, ?_⟩ h⟩⟩, fun h => h (by omega)⟩⟩
  intro r r0 r1
  exact rows_read hE (k := m.toNat) (by omega) (fun r hr => hC.other r (by omega)) hR (fun r a b j hj => hQ r a (by omega) j hj) r r0 (by omega)
end Go.Jn
