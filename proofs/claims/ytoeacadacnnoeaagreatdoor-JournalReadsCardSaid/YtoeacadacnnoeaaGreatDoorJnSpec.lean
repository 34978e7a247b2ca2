/-
  Journals, in plain numbers: bytes of numbers, the checksum, what an encoding is and what is read from it. Conditions: none; nothing here speaks of a program.
-/
import Derived.Test.YtoeacadacnnoeaaGreatDoorSxTidy
import Derived.Test.YtoeacadacnnoeaaGreatDoorJnDf
namespace Go.Jn
open Go Go.Sx

/-! ### Bytes of a number -/

/-- Byte i of a number of eight. -/
def nb (x : Int) (i : Nat) : Int := x % 18446744073709551616 / 2 ^ (56 - 8 * i) % 256
/-- Byte i of a checksum. -/
def sb (h : Int) (i : Nat) : Int := h / 2 ^ (24 - 8 * i) % 256

theorem nb_range (x : Int) (i : Nat) : 0 ≤ nb x i ∧ nb x i ≤ 255 := by
  unfold nb
  have := Int.emod_nonneg (x % 18446744073709551616 / 2 ^ (56 - 8 * i)) (show (256 : Int) ≠ 0 by decide)
  have := Int.emod_lt_of_pos (x % 18446744073709551616 / 2 ^ (56 - 8 * i)) (show (0 : Int) < 256 by decide)
  omega
theorem sb_range (h : Int) (i : Nat) : 0 ≤ sb h i ∧ sb h i ≤ 255 := by
  unfold sb
  have := Int.emod_nonneg (h / 2 ^ (24 - 8 * i)) (show (256 : Int) ≠ 0 by decide)
  have := Int.emod_lt_of_pos (h / 2 ^ (24 - 8 * i)) (show (0 : Int) < 256 by decide)
  omega

theorem u64_wrap (x : Int) : IntKind.u64.wrap x = x % 18446744073709551616 := by simp [IntKind.wrap, IntKind.signed, IntKind.bits]
theorem u32_wrap (x : Int) : IntKind.u32.wrap x = x % 4294967296 := by simp [IntKind.wrap, IntKind.signed, IntKind.bits]
theorem u8_wrap (x : Int) : IntKind.u8.wrap x = x % 256 := by simp [IntKind.wrap, IntKind.signed, IntKind.bits]
theorem i64_wrap (x : Int) : IntKind.i64.wrap x = if x % 18446744073709551616 ≥ 9223372036854775808 then x % 18446744073709551616 - 18446744073709551616 else x % 18446744073709551616 := by
  simp [IntKind.wrap, IntKind.signed, IntKind.bits]

/-! ### The checksum -/

def fstep (h c : Int) : Int := IntKind.u32.wrap (bitsEv 2 .u32 h (IntKind.u32.wrap c) * 16777619)
/-- The checksum of n rows of a table, from row lo on; it goes on from h. -/
def fnv (f : Int → Nat → Int) (lo : Int) : Nat → Int → Int
  | 0, h => h
  | n + 1, h => fstep (fnv f lo n h) (f (lo + n) 0)

theorem fnv_add (f : Int → Nat → Int) (lo : Int) (n : Nat) (h : Int) : ∀ m, fnv f lo (n + m) h = fnv f (lo + n) m (fnv f lo n h)
  | 0 => rfl
  | m + 1 => by
    rw [← Nat.add_assoc]
    simp only [fnv, fnv_add f lo n h m]
    congr 2
    rw [Int.add_assoc]; simp
theorem fnv_congr {f g : Int → Nat → Int} {lo lo' : Int} {h : Int} : ∀ {n : Nat}, (∀ i : Nat, i < n → f (lo + i) 0 = g (lo' + i) 0) → fnv f lo n h = fnv g lo' n h
  | 0, _ => rfl
  | n + 1, he => by
    simp only [fnv]
    rw [fnv_congr (n := n) fun i hi => he i (by omega), he n (by omega)]
theorem fstep_range (h c : Int) : 0 ≤ fstep h c ∧ fstep h c < 4294967296 := by
  unfold fstep
  rw [u32_wrap]
  exact ⟨Int.emod_nonneg _ (by decide), Int.emod_lt_of_pos _ (by decide)⟩
theorem fnv_range (f : Int → Nat → Int) (lo : Int) {h : Int} (hh : 0 ≤ h ∧ h < 4294967296) : ∀ n, 0 ≤ fnv f lo n h ∧ fnv f lo n h < 4294967296
  | 0 => hh
  | _ + 1 => fstep_range _ _

/-! ### What is read -/

/-- The number of n bytes, from row at on. -/
def acc (f : Int → Nat → Int) (at' : Int) : Nat → Int
  | 0 => 0
  | n + 1 => acc f at' n * 256 + f (at' + n) 0
def getI (f : Int → Nat → Int) (at' : Int) : Int := IntKind.i64.wrap (acc f at' 8)

theorem acc_range {f : Int → Nat → Int} {at' : Int} : ∀ {n : Nat}, (∀ i : Nat, i < n → 0 ≤ f (at' + i) 0 ∧ f (at' + i) 0 ≤ 255) → 0 ≤ acc f at' n ∧ acc f at' n < 256 ^ n
  | 0, _ => by simp [acc]
  | n + 1, h => by
    have h1 := acc_range (n := n) fun i hi => h i (by omega)
    have h2 := h n (by omega)
    simp only [acc]
    rw [Int.pow_succ]
    omega

/-- A number's bytes, read again. -/
theorem getI_nb {f : Int → Nat → Int} {at' x : Int} (h : ∀ i : Nat, i < 8 → f (at' + i) 0 = nb x i) (hx : -9223372036854775808 ≤ x ∧ x ≤ 9223372036854775807) : getI f at' = x := by
  have h0 := h 0 (by omega)
  have h1 := h 1 (by omega)
  have h2 := h 2 (by omega)
  have h3 := h 3 (by omega)
  have h4 := h 4 (by omega)
  have h5 := h 5 (by omega)
  have h6 := h 6 (by omega)
  have h7 := h 7 (by omega)
  have hm : 0 ≤ x % 18446744073709551616 ∧ x % 18446744073709551616 < 18446744073709551616 := ⟨Int.emod_nonneg _ (by decide), Int.emod_lt_of_pos _ (by decide)⟩
  have hacc : acc f at' 8 = x % 18446744073709551616 := by
    simp only [acc, Int.zero_mul, Int.zero_add]
    simp only [nb] at h0 h1 h2 h3 h4 h5 h6 h7
    simp only [Nat.reduceMul, Nat.reduceSub] at h0 h1 h2 h3 h4 h5 h6 h7
    rw [h0, h1, h2, h3, h4, h5, h6, h7]
    generalize x % 18446744073709551616 = y at hm
    omega
  unfold getI
  rw [hacc, i64_wrap]
  rw [Int.emod_emod_of_dvd _ (Int.dvd_refl _)]
  split <;> omega

/-! ### Encodings -/

def offs : Int := 2166136261
def magicB : List Int := [112, 111, 108, 100, 101, 114, 49, 10]

/-- Four rows are the checksum of all rows before them. -/
def SealAt (f : Int → Nat → Int) (at' : Nat) : Prop := ∀ i : Nat, i < 4 → f (at' + i : Nat) 0 = sb (fnv f 0 at' offs) i
structure Head (f : Int → Nat → Int) (lim age keep : Int) : Prop where
  magic : ∀ i : Nat, i < 8 → f (i : Nat) 0 = magicB.getD i 0
  lim : ∀ i : Nat, i < 8 → f (8 + i : Nat) 0 = nb lim i
  age : ∀ i : Nat, i < 8 → f (16 + i : Nat) 0 = nb age i
  keep : ∀ i : Nat, i < 8 → f (24 + i : Nat) 0 = nb keep i
  chk : SealAt f 32
/-- Entry j of a table of entries lies there. -/
def Ent (f : Int → Nat → Int) (e : Int → Nat → Int) (j : Nat) : Prop :=
  (∀ c : Nat, c < 7 → ∀ i : Nat, i < 8 → f (36 + 60 * j + 8 * c + i : Nat) 0 = nb (e j c) i) ∧ SealAt f (36 + 60 * j + 56)
/-- An encoding of a log with k entries. -/
structure EncP (f : Int → Nat → Int) (lim age keep : Int) (e : Int → Nat → Int) (k : Nat) : Prop where
  head : Head f lim age keep
  ent : ∀ j : Nat, j < k → Ent f e j

theorem SealAt.congr {f g : Int → Nat → Int} {at' : Nat} (h : SealAt f at') (he : ∀ i : Nat, i < at' + 4 → g i 0 = f i 0) : SealAt g at' := fun i hi => by
  rw [he _ (by omega), h i hi]
  congr 1
  exact fnv_congr fun j hj => by simpa using (he j (by omega)).symm

theorem split8 {r : Nat} (a : Nat) (h1 : a ≤ r) (h2 : r < a + 8) : ∃ i, i < 8 ∧ r = a + i := ⟨r - a, by omega, by omega⟩

/-- Two encodings of one log are equal. -/
theorem EncP.unique {f g : Int → Nat → Int} {lim age keep : Int} {e : Int → Nat → Int} {k : Nat} (hf : EncP f lim age keep e k) (hg : EncP g lim age keep e k) : ∀ r : Nat, r < 36 + 60 * k → f r 0 = g r 0 := by
  intro r
  induction r using Nat.strongRecOn with
  | _ r ih =>
    intro hr
    have chk : ∀ at' : Nat, SealAt f at' → SealAt g at' → at' ≤ r → r < at' + 4 → f r 0 = g r 0 := fun at' h1 h2 h3 h4 => by
      obtain ⟨i, hi, rfl⟩ : ∃ i, i < 4 ∧ r = at' + i := ⟨r - at', by omega, by omega⟩
      rw [h1 i hi, h2 i hi]
      congr 1
      exact fnv_congr fun j hj => by simpa using ih j (by omega) (by omega)
    by_cases h36 : r < 36
    · by_cases h8 : r < 8
      · rw [hf.head.magic r h8, hg.head.magic r h8]
      by_cases h16 : r < 16
      · obtain ⟨i, hi, rfl⟩ := split8 8 (by omega) h16
        rw [hf.head.lim i hi, hg.head.lim i hi]
      by_cases h24 : r < 24
      · obtain ⟨i, hi, rfl⟩ := split8 16 (by omega) h24
        rw [hf.head.age i hi, hg.head.age i hi]
      by_cases h32 : r < 32
      · obtain ⟨i, hi, rfl⟩ := split8 24 (by omega) h32
        rw [hf.head.keep i hi, hg.head.keep i hi]
      · exact chk 32 hf.head.chk hg.head.chk (by omega) h36
    · obtain ⟨j, q, hq, rfl⟩ : ∃ j q, q < 60 ∧ r = 36 + 60 * j + q := ⟨(r - 36) / 60, (r - 36) % 60, Nat.mod_lt _ (by decide), by omega⟩
      have hj : j < k := by omega
      obtain ⟨h1, h2⟩ := hf.ent j hj
      obtain ⟨h3, h4⟩ := hg.ent j hj
      by_cases h56 : q < 56
      · obtain ⟨c, i, hi, rfl⟩ : ∃ c i, i < 8 ∧ q = 8 * c + i := ⟨q / 8, q % 8, Nat.mod_lt _ (by decide), by omega⟩
        have := h1 c (by omega) i hi
        have h5 := h3 c (by omega) i hi
        rw [Nat.add_assoc] at this h5
        rw [this, h5]
      · exact chk _ h2 h4 (by omega) (by omega)

/-! ### Decoding -/

/-- The header is right. -/
def HeadOk (f : Int → Nat → Int) (n : Nat) : Prop := 36 ≤ n ∧ (∀ i : Nat, i < 8 → f (i : Nat) 0 = magicB.getD i 0) ∧ SealAt f 32
/-- So many entries are valid. -/
def Valid (f : Int → Nat → Int) (n k : Nat) : Prop :=
  36 + 60 * k ≤ n ∧ (∀ j : Nat, j < k → SealAt f (36 + 60 * j + 56)) ∧ (36 + 60 * (k + 1) ≤ n → ¬ SealAt f (36 + 60 * k + 56))
theorem Valid.unique {f : Int → Nat → Int} {n k m : Nat} (h1 : Valid f n k) (h2 : Valid f n m) : k = m := by
  rcases Nat.lt_trichotomy k m with h | h | h
  · exact absurd (h2.2.1 k h) (h1.2.2 (by have := h2.1; omega))
  · exact h
  · exact absurd (h1.2.1 m h) (h2.2.2 (by have := h1.1; omega))
/-- The entries that are read. -/
def Reads (f : Int → Nat → Int) (e : Int → Nat → Int) (k : Nat) : Prop := ∀ j c : Nat, j < k → c < 7 → e j c = getI f (36 + 60 * j + 8 * c : Nat)
end Go.Jn

namespace Go.Jn
open Go Go.Sx Go.Mg

abbrev Tb := Int → Nat → Int
/-- Eight bytes of a number behind n rows. -/
def putT (T : Tb) (n x : Int) : Tb := fun r c => if c = 0 ∧ n ≤ r ∧ r < n + 8 then nb x (r - n).toNat else T r c
/-- Four bytes of a checksum behind n rows. -/
def sealT (T : Tb) (n h : Int) : Tb := fun r c => if c = 0 ∧ n ≤ r ∧ r < n + 4 then sb h (r - n).toNat else T r c
def RowEq (A B : Tb) (r : Int) : Prop := (A r 0 = B r 0 ∧ A r 1 = B r 1 ∧ A r 2 = B r 2 ∧ A r 3 = B r 3 ∧ A r 4 = B r 4 ∧ (1 : Int) ≠ 0) ∧ (A r 5 = B r 5 ∧ A r 6 = B r 6 ∧ (1 : Int) ≠ 0) ∧ (1 : Int) ≠ 0
/-- An entry is added. -/
structure Added (R : Tb) (h' : Int) (T : Tb) (n h : Int) (x : Nat → Int) : Prop where
  old : ∀ r : Int, 0 ≤ r → r < n → R r 0 = T r 0
  num : ∀ c i : Nat, c < 7 → i < 8 → R (n + 8 * c + i) 0 = nb (x c) i
  chk : ∀ i : Nat, i < 4 → R (n + 56 + i) 0 = sb (fnv R n 56 h) i
  sum : h' = fnv R n 60 h
def cols (x0 x1 x2 x3 x4 x5 x6 : Int) (c : Nat) : Int := if c = 0 then x0 else if c = 1 then x1 else if c = 2 then x2 else if c = 3 then x3 else if c = 4 then x4 else if c = 5 then x5 else x6
/-- All entries so far are sealed. -/
def Sealed (T : Tb) (k : Int) : Prop := ∀ j : Nat, (j : Int) < k → SealAt T (36 + 60 * j + 56)

/-- A list's checksum is behind it. -/
structure SealedR (R T : Tb) (n : Int) : Prop where
  old : ∀ r : Int, r < n → R r 0 = T r 0
  chk : ∀ i : Nat, i < 4 → R (n + i) 0 = sb (fnv T 0 n.toNat offs) i
/-- An entry is added, and all is sealed. -/
structure AddedR (R T : Tb) (n : Int) (x : Nat → Int) : Prop where
  old : ∀ r : Int, r < n → R r 0 = T r 0
  num : ∀ c i : Nat, c < 7 → i < 8 → R (n + 8 * c + i) 0 = nb (x c) i
  chk : ∀ i : Nat, i < 4 → R (n + 56 + i) 0 = sb (fnv R 0 (n + 56).toNat offs) i

def JIfn (j : Nat) (a b c d : D) : D :=
  match j, a, b, c, d with
  | 1, .t T, .i n, .i x, _ => .t (putT T n x)
  | 1, _, _, _, _ => .t fun _ _ => 0
  | 2, .t T, .i lo, .i n, .i h => .i (fnv T lo n.toNat h)
  | 2, _, _, _, _ => .i 0
  | 3, .t T, .i n, .i h, _ => .t (sealT T n h)
  | 3, _, _, _, _ => .t fun _ _ => 0
  | 4, .t T, .i at', _, _ => .i (getI T at')
  | _, _, _, _, _ => .i 0
def JIpr (j : Nat) (l : List D) : Prop :=
  match j, l with
  | 0, [.t A, .t B, .i k] => ∀ r, 0 ≤ r → r < k → RowEq A B r
  | 10, [.t F, .i a, .i b, .i c] => Head F a b c
  | 11, [.t R, .i h', .t T, .i n, .i h, .i x0, .i x1, .i x2, .i x3, .i x4, .i x5, .i x6] => Added R h' T n h (cols x0 x1 x2 x3 x4 x5 x6)
  | 12, [.t F, .i a, .i b, .i c, .t E, .i k] => EncP F a b c E k.toNat
  | 14, [.i b, .t T, .i at', .i h] => b ≠ 0 ↔ ∀ i : Nat, i < 4 → T (at' + i) 0 = sb h i
  | 15, [.t T, .i n] => HeadOk T n.toNat
  | 16, [.t T, .i n, .i k] => 0 ≤ k ∧ Valid T n.toNat k.toNat
  | 17, [.t T, .t E, .i k] => Reads T E k.toNat
  | 18, [.t T, .i n] => ¬ HeadOk T n.toNat
  | 19, [.t T, .i k] => Sealed T k
  | 20, [.i b, .i a0, .i a1, .i a2, .t A, .i n, .i b0, .i b1, .i b2, .t B, .i m] => b ≠ 0 ↔ (a0 = b0 ∧ a1 = b1 ∧ a2 = b2) ∧ n = m ∧ ∀ r, 0 ≤ r → r < n → RowEq A B r
  | 21, [.t R, .t T, .i n] => SealedR R T n
  | 23, [.t R, .t T, .i n, .i x0, .i x1, .i x2, .i x3, .i x4, .i x5, .i x6] => AddedR R T n (cols x0 x1 x2 x3 x4 x5 x6)
  | 24, [.i b, .t T, .i n] => b ≠ 0 ↔ ∀ i : Nat, i < 4 → T (n + i) 0 = sb (fnv T 0 n.toNat offs) i
  | 22, [.t E, .i n] => ∀ r, 0 ≤ r → r < n → ∀ j, j < 7 → -9223372036854775808 ≤ E r j ∧ E r j ≤ 9223372036854775807
  | _, _ => False
def JI : Itp where
  fn j a b c d := some (JIfn j a b c d)
  pr := JIpr

theorem JI_tot : JI.tot fsJ := by
  intro j s hs a b c d
  refine ⟨_, rfl, ?_⟩
  unfold fsJ at hs
  split at hs
  · cases hs; cases a <;> cases b <;> cases c <;> exact trivial
  · cases hs; cases a <;> cases b <;> cases c <;> exact trivial
  · cases hs; cases a <;> cases b <;> cases c <;> cases d <;> exact trivial
  · cases hs; cases a <;> cases b <;> exact trivial
  · cases hs

theorem J1 {T : Tb} {n x : Int} {e : D} : JI.fn 1 (.t T) (.i n) (.i x) e = some (.t (putT T n x)) := rfl
theorem J2 {T : Tb} {lo n h : Int} : JI.fn 2 (.t T) (.i lo) (.i n) (.i h) = some (.i (fnv T lo n.toNat h)) := rfl
theorem J3 {T : Tb} {n h : Int} {e : D} : JI.fn 3 (.t T) (.i n) (.i h) e = some (.t (sealT T n h)) := rfl
theorem J4 {T : Tb} {at' : Int} {e1 e2 : D} : JI.fn 4 (.t T) (.i at') e1 e2 = some (.i (getI T at')) := rfl
theorem P0 {A B : Tb} {k : Int} : JI.pr 0 [.t A, .t B, .i k] = ∀ r, 0 ≤ r → r < k → RowEq A B r := rfl
theorem P10 {F : Tb} {a b c : Int} : JI.pr 10 [.t F, .i a, .i b, .i c] = Head F a b c := rfl
theorem P11 {R T : Tb} {h' n h x0 x1 x2 x3 x4 x5 x6 : Int} : JI.pr 11 [.t R, .i h', .t T, .i n, .i h, .i x0, .i x1, .i x2, .i x3, .i x4, .i x5, .i x6] = Added R h' T n h (cols x0 x1 x2 x3 x4 x5 x6) := rfl
theorem P12 {F E : Tb} {a b c k : Int} : JI.pr 12 [.t F, .i a, .i b, .i c, .t E, .i k] = EncP F a b c E k.toNat := rfl
theorem P14 {b at' h : Int} {T : Tb} : JI.pr 14 [.i b, .t T, .i at', .i h] = (b ≠ 0 ↔ ∀ i : Nat, i < 4 → T (at' + i) 0 = sb h i) := rfl
theorem P15 {T : Tb} {n : Int} : JI.pr 15 [.t T, .i n] = HeadOk T n.toNat := rfl
theorem P16 {T : Tb} {n k : Int} : JI.pr 16 [.t T, .i n, .i k] = (0 ≤ k ∧ Valid T n.toNat k.toNat) := rfl
theorem P17 {T E : Tb} {k : Int} : JI.pr 17 [.t T, .t E, .i k] = Reads T E k.toNat := rfl
theorem P18 {T : Tb} {n : Int} : JI.pr 18 [.t T, .i n] = ¬ HeadOk T n.toNat := rfl
theorem P19 {T : Tb} {k : Int} : JI.pr 19 [.t T, .i k] = Sealed T k := rfl
theorem P20 {b a0 a1 a2 n b0 b1 b2 m : Int} {A B : Tb} : JI.pr 20 [.i b, .i a0, .i a1, .i a2, .t A, .i n, .i b0, .i b1, .i b2, .t B, .i m] = (b ≠ 0 ↔ (a0 = b0 ∧ a1 = b1 ∧ a2 = b2) ∧ n = m ∧ ∀ r, 0 ≤ r → r < n → RowEq A B r) := rfl
theorem P21 {R T : Tb} {n : Int} : JI.pr 21 [.t R, .t T, .i n] = SealedR R T n := rfl
theorem P23 {R T : Tb} {n x0 x1 x2 x3 x4 x5 x6 : Int} : JI.pr 23 [.t R, .t T, .i n, .i x0, .i x1, .i x2, .i x3, .i x4, .i x5, .i x6] = AddedR R T n (cols x0 x1 x2 x3 x4 x5 x6) := rfl
theorem P24 {b n : Int} {T : Tb} : JI.pr 24 [.i b, .t T, .i n] = (b ≠ 0 ↔ ∀ i : Nat, i < 4 → T (n + i) 0 = sb (fnv T 0 n.toNat offs) i) := rfl
theorem P22 {E : Tb} {n : Int} : JI.pr 22 [.t E, .i n] = ∀ r, 0 ≤ r → r < n → ∀ j, j < 7 → -9223372036854775808 ≤ E r j ∧ E r j ≤ 9223372036854775807 := rfl
end Go.Jn
