/-
  What faults' texts are, in plain words: what the signs of the contracts' formulas mean. Conditions: none; nothing here speaks of a program.
-/
import Derived.Lib.Join
import Derived.Test.YtbcclmpmljpbcaaGreatDoorSfPlain
import Derived.Test.YtbcclmpmljpbcaaGreatDoorSfCs
import Derived.Test.YtbcclmpmljpbcaaGreatDoorSxAtom
import Derived.Test.YtbcclmpmljpbcaaGreatDoorSxEq
namespace Go.Sf
open Go Go.Sx Go.Lib

abbrev Tb := Int → Nat → Int
/-- The words of the kinds. -/
def kw : List (List UInt8) := [[], [114, 117, 110], [104, 117, 103, 101], [98, 121, 116, 101], [98, 108, 111, 99, 107], [111, 114, 100, 101, 114], [110, 111, 100, 101], [113, 117, 101, 117, 101], [100, 105, 114, 116, 121], [122, 101, 114, 111], [99, 108, 111, 99, 107], [104, 97, 110, 100, 108, 101], [97, 114, 101, 110, 97], [107, 101, 112, 116], [105, 116, 101, 109], [109, 97, 114, 107], [99, 97, 108, 108]]
def fole (k i f : Int) : Int := if k < 1 ∨ 16 < k ∨ i < 0 ∨ f < 0 then 2 else 0
def fol (k i f : Int) : Int :=
  if fole k i f ≠ 0 then 0 else
  if k = 1 ∨ k = 4 ∨ k = 5 ∨ k = 13 then 1 else
  if k = 6 then (if f = 0 ∨ f = 2 ∨ f = 4 ∨ (f = 1 ∧ 0 < i) then 1 else 0) else
  if k = 8 then (if f = 0 then 1 else 0) else
  if k = 12 then (if f = 0 ∨ f = 1 ∨ f = 2 ∨ f = 5 ∨ f = 6 then 1 else 0) else
  if k = 16 then (if 7 ≤ f ∧ f < 14 then 1 else 0) else 0
/-- A fault's text. -/
def prl (k i f t : Int) : List UInt8 := kw.getD k.toNat [] ++ 32 :: (itoa i ++ 32 :: (itoa f ++ 32 :: itoa t))
def prt (k i f t : Int) : Int := if fole k i f = 0 then senc (prl k i f t) else senc []
def I64 (n : Int) : Prop := -9223372036854775808 ≤ n ∧ n ≤ 9223372036854775807
def joinS (T : Tb) (n sep : Int) : Int := senc (Lib.join ((List.range n.toNat).map fun r : Nat => sdec (T (r : Int) 0)) (sdec sep))
def splT (s sep : Int) : Tb := fun r _ => senc ((Lib.split (sdec s) (sdec sep)).getD r.toNat [])
def splN (s sep : Int) : Int := ((Lib.split (sdec s) (sdec sep)).length : Nat)
def trimS (s p : Int) : Int := senc (Lib.trimPrefix (sdec s) (sdec p))
def hpre (s p : Int) : Int := if Lib.hasPrefix (sdec s) (sdec p) = true then 1 else 0
def pintL (l : List UInt8) : Int := match parseIntB 64 l with
  | .ok v => v
  | .range => intSat 64 l
  | _ => 0
def perrL (l : List UInt8) : Int := match parseIntB 64 l with
  | .ok _ => 0
  | _ => 1
/-- A number, digit by digit, as the reference reads it. -/
def accL (l : List UInt8) : Nat → Int
  | 0 => 0
  | i + 1 =>
    let c : Int := (((l[i]?).getD 0).toNat : Nat)
    if 48 ≤ c ∧ c ≤ 57 then
      let d := IntKind.i64.wrap (IntKind.u8.wrap (c - 48))
      IntKind.i64.wrap (IntKind.i64.wrap (10 * accL l i) + if ((((l[0]?).getD 0).toNat : Nat) : Int) = 45 then -d else d)
    else accL l i
/-- Words with blanks between them. -/
def joinW : List (List UInt8) → List UInt8
  | [] => []
  | [w] => w
  | w :: l => w ++ 32 :: joinW l
/-- Words that may stand bare. -/
def Bare (ws : List (List UInt8)) : Prop := ∀ w ∈ ws, w ≠ [] ∧ w.length ≤ 200 ∧ ∀ b ∈ w, 33 ≤ b.toNat ∧ b.toNat ≤ 126 ∧ b.toNat ≠ 34
/-- The rows are the first words. -/
def RowsW (T : Tb) (ws : List (List UInt8)) (n : Int) : Prop := ∀ r : Nat, (r : Int) < n → T r 0 = 0 ∧ ∀ w, ws[r]? = some w → T r 1 = senc w
/-- A numeral was read. -/
def IntP (s n e : Int) : Prop := ∀ m, I64 m → sdec s = itoa m → n = m ∧ e = 0
def ParP (s k i f t e : Int) : Prop :=
  (e = 0 ∧ fole k i f = 0 ∧ sdec s = prl k i f t ∧ I64 i ∧ I64 f ∧ I64 t) ∨
  (e = 6 ∧ k = 0 ∧ i = 0 ∧ f = 0 ∧ t = 0 ∧ ∀ k i f t, I64 i → I64 f → I64 t → fole k i f = 0 → sdec s ≠ prl k i f t)
def EndP (s a r : Int) : Prop := sbyte s a ≠ 34 → (∀ j, a ≤ j → j < r → sbyte s j ≠ 32) ∧ (r = slen s ∨ sbyte s r = 32)
def NoB (s a i : Int) : Prop := sbyte s a ≠ 34 → ∀ j, a ≤ j → j < i → sbyte s j ≠ 32
def TextP (s b : Int) : Prop := (sdec s).length ≤ 200 → (∀ c ∈ sdec s, 32 ≤ c.toNat ∧ c.toNat ≤ 126) → b ≠ 0
def RightP (q s b : Int) : Prop := q = 0 → sdec s ≠ [] → (sdec s).length ≤ 200 → (∀ c ∈ sdec s, 33 ≤ c.toNat ∧ c.toNat ≤ 126 ∧ c.toNat ≠ 34) → b ≠ 0
def SplP (s : Int) (T : Tb) (n e : Int) : Prop := ∀ ws, Bare ws → ws.length ≤ 64 → sdec s = joinW ws → e = 0 ∧ n = (ws.length : Nat) ∧ RowsW T ws n
def SplI (s a : Int) (T : Tb) (n : Int) : Prop := ∀ ws, Bare ws → sdec s = joinW ws → ∃ k : Nat, n = k ∧ k ≤ ws.length ∧ RowsW T ws n ∧ (if k < ws.length then (sdec s).drop a.toNat = joinW (ws.drop k) ∧ a < slen s else slen s ≤ a)
/-- None of the kinds so far has this text. -/
def NoneP (s k i f t : Int) : Prop := ∀ j, 1 ≤ j → j < k → fole j i f = 0 → prt j i f t ≠ s
/-- How deep a numeral is. -/
def dep (n : Int) : Nat := 2 * nDigits n.natAbs + if n < 0 then 1 else 0
def Short (T : Tb) (n sep : Int) : Prop := n ≤ 1000 ∧ slen sep ≤ 1000 ∧ ∀ r : Nat, (r : Int) < n → slen (T r 0) ≤ 1000

def SIfn (j : Nat) (a b c d : D) : D :=
  match j with
  | 1 => .i (fol a.int b.int c.int)
  | 2 => .i (fole a.int b.int c.int)
  | 3 => .i (senc (itoa a.int))
  | 4 => .i (prt a.int b.int c.int d.int)
  | 5 => .i (joinS a.tab b.int c.int)
  | 6 => .t (splT a.int b.int)
  | 7 => .i (splN a.int b.int)
  | 8 => .i (trimS a.int b.int)
  | 9 => .i (hpre a.int b.int)
  | 10 => .i (pintL (sdec a.int))
  | 11 => .i (perrL (sdec a.int))
  | 12 => .i (accL (sdec a.int) b.int.toNat)
  | _ => .i 0
def SIpr (N : Nat) (j : Nat) (l : List D) : Prop :=
  match j, l with
  | 10, [.i s, .i n, .i e] => IntP s n e
  | 11, [.i s, .i b] => ∀ m, I64 m → sdec s = itoa m → b ≠ 0
  | 12, [.i s, .i a, .i r] => EndP s a r
  | 13, [.i s, .i a, .i i] => NoB s a i
  | 14, [.i s, .i b] => TextP s b
  | 15, [.i q, .i s, .i b] => RightP q s b
  | 16, [.i s, .t T, .i n, .i e] => SplP s T n e
  | 17, [.i s, .i a, .t T, .i n] => SplI s a T n
  | 18, [.i s, .i k, .i i, .i f, .i t, .i e] => ParP s k i f t e
  | 19, [.i s, .i k, .i i, .i f, .i t] => NoneP s k i f t
  | 20, [.i n] => dep n < N
  | 21, [.i n] => dep n ≤ N
  | 22, [.t T, .i n] => ∀ r : Int, 0 ≤ r → r < n → slen (T r 1) ≤ 100000
  | 30, [.t T, .i n, .i sep] => Short T n sep
  | _, _ => False
def SI (N : Nat) : Itp where
  fn j a b c d := some (SIfn j a b c d)
  pr := SIpr N

variable {N : Nat}
theorem SI_tot : (SI N).tot fsS := by
  intro j s hs a b c d
  unfold Itp.ap
  unfold fsS at hs
  split at hs <;> cases hs
  all_goals first
    | exact ⟨_, (if_neg (by decide)).trans rfl, trivial⟩
    | exact ⟨_, (if_pos (by decide)).trans rfl, trivial⟩

section signs
variable {a b c d x y z u : Int} {T : Tb}
theorem S1 : (SI N).ap 1 (.i a) (.i b) (.i c) (.i d) = some (.i (fol a b c)) := rfl
theorem S2 : (SI N).ap 2 (.i a) (.i b) (.i c) (.i d) = some (.i (fole a b c)) := rfl
theorem S3 : (SI N).ap 3 (.i a) (.i b) (.i c) (.i d) = some (.i (senc (itoa a))) := rfl
theorem S4 : (SI N).ap 4 (.i a) (.i b) (.i c) (.i d) = some (.i (prt a b c d)) := rfl
theorem S5 : (SI N).ap 5 (.t T) (.i b) (.i c) (.i d) = some (.i (joinS T b c)) := rfl
theorem S6 : (SI N).ap 6 (.i a) (.i b) (.i c) (.i d) = some (.t (splT a b)) := rfl
theorem S7 : (SI N).ap 7 (.i a) (.i b) (.i c) (.i d) = some (.i (splN a b)) := rfl
theorem S8 : (SI N).ap 8 (.i a) (.i b) (.i c) (.i d) = some (.i (trimS a b)) := rfl
theorem S9 : (SI N).ap 9 (.i a) (.i b) (.i c) (.i d) = some (.i (hpre a b)) := rfl
theorem S10 : (SI N).ap 10 (.i a) (.i b) (.i c) (.i d) = some (.i (pintL (sdec a))) := rfl
theorem S11 : (SI N).ap 11 (.i a) (.i b) (.i c) (.i d) = some (.i (perrL (sdec a))) := rfl
theorem S12 : (SI N).ap 12 (.i a) (.i b) (.i c) (.i d) = some (.i (accL (sdec a) b.toNat)) := rfl
theorem S1001 : (SI N).ap 1001 (.i a) (.i b) (.i c) (.i d) = some (.i (slen a)) := rfl
theorem S1002 : (SI N).ap 1002 (.i a) (.i b) (.i c) (.i d) = some (.i (scat a b)) := rfl
theorem S1003 : (SI N).ap 1003 (.i a) (.i b) (.i c) (.i d) = some (.i (ssub a b c)) := rfl
theorem S1004 : (SI N).ap 1004 (.i a) (.i b) (.i c) (.i d) = some (.i (sbyte a b)) := rfl
theorem S1005 : (SI N).ap 1005 (.t T) (.i b) (.i c) (.i d) = some (.i (scode T b)) := rfl
theorem P10 : (SI N).pr 10 [.i a, .i b, .i c] = IntP a b c := rfl
theorem P11 : (SI N).pr 11 [.i a, .i b] = ∀ m, I64 m → sdec a = itoa m → b ≠ 0 := rfl
theorem P12 : (SI N).pr 12 [.i a, .i b, .i c] = EndP a b c := rfl
theorem P13 : (SI N).pr 13 [.i a, .i b, .i c] = NoB a b c := rfl
theorem P14 : (SI N).pr 14 [.i a, .i b] = TextP a b := rfl
theorem P15 : (SI N).pr 15 [.i a, .i b, .i c] = RightP a b c := rfl
theorem P16 : (SI N).pr 16 [.i a, .t T, .i b, .i c] = SplP a T b c := rfl
theorem P17 : (SI N).pr 17 [.i a, .i b, .t T, .i c] = SplI a b T c := rfl
theorem P18 : (SI N).pr 18 [.i a, .i b, .i c, .i d, .i x, .i y] = ParP a b c d x y := rfl
theorem P19 : (SI N).pr 19 [.i a, .i b, .i c, .i d, .i x] = NoneP a b c d x := rfl
theorem P20 : (SI N).pr 20 [.i a] = (dep a < N) := rfl
theorem P21 : (SI N).pr 21 [.i a] = (dep a ≤ N) := rfl
theorem P22 : (SI N).pr 22 [.t T, .i b] = ∀ r : Int, 0 ≤ r → r < b → slen (T r 1) ≤ 100000 := rfl
theorem P30 : (SI N).pr 30 [.t T, .i b, .i c] = Short T b c := rfl
end signs
end Go.Sf

namespace Go.Sf
open Go Go.Sx Go.Lib

theorem nDigits_le : ∀ (k u : Nat), 1 ≤ k → u < 10 ^ k → nDigits u ≤ k
  | 0, _, h, _ => by omega
  | k + 1, u, _, h => by
    by_cases h0 : u < 10
    · rw [nDigits_small h0]; omega
    · rw [nDigits_big h0]
      rw [Nat.pow_succ] at h
      have hk : 1 ≤ k := by
        cases k with
        | zero => simp at h; omega
        | succ k => omega
      have := nDigits_le k (u / 10) hk (by omega)
      omega
theorem dd_length (u : Nat) : (decDigits u).length = nDigits u := by rw [decDigits_eq]; simp
theorem itoa_len {m : Int} (h : I64 m) : (itoa m).length ≤ 20 := by
  have h1 := nDigits_le 19 m.natAbs (by omega) (by obtain ⟨h0, h1⟩ := h; omega)
  unfold itoa
  split
  · simp only [List.length_cons, dd_length]; omega
  · rw [dd_length]
    have : m.toNat = m.natAbs := by omega
    rw [this]; omega
theorem itoa_inj {a b : Int} (ha : I64 a) (hb : I64 b) (h : itoa a = itoa b) : a = b := by
  have h1 := parse_itoa ha.1 ha.2
  have h2 := parse_itoa hb.1 hb.2
  rw [h, h2] at h1
  cases h1; rfl

theorem kw_no : ∀ w ∈ kw, (32 : UInt8) ∉ w := by decide
theorem kw_inj' : ∀ a b : Fin 17, kw.getD a [] = kw.getD b [] → a = b := by decide
theorem kw_inj {k l : Int} (hk : 0 ≤ k ∧ k ≤ 16) (hl : 0 ≤ l ∧ l ≤ 16) (h : kw.getD k.toNat [] = kw.getD l.toNat []) : k = l := by
  have := kw_inj' ⟨k.toNat, by omega⟩ ⟨l.toNat, by omega⟩ h
  have := congrArg Fin.val this
  simp at this
  omega
theorem kw_mem {k : Int} (hk : 0 ≤ k ∧ k ≤ 16) : kw.getD k.toNat [] ∈ kw := by
  have : k.toNat < kw.length := by show k.toNat < 17; omega
  rw [List.getD_eq_getElem?_getD, List.getElem?_eq_getElem this]
  exact List.getElem_mem this
theorem itoa_no (n : Int) : (32 : UInt8) ∉ itoa n := fun h => by
  have := itoa_mem n _ h
  revert this; decide
theorem split_prl {k i f t : Int} (hk : 0 ≤ k ∧ k ≤ 16) : Lib.split (prl k i f t) [32] = [kw.getD k.toNat [], itoa i, itoa f, itoa t] := by
  unfold prl
  rw [split_step (kw_no _ (kw_mem hk)), split_step (itoa_no i), split_step (itoa_no f), split_last (itoa_no t)]
theorem fole_zero {k i f : Int} (h : fole k i f = 0) : (1 ≤ k ∧ k ≤ 16) ∧ 0 ≤ i ∧ 0 ≤ f := by
  unfold fole at h
  split at h
  · cases h
  · omega
theorem prl_inj {k i f t k' i' f' t' : Int} (h1 : 0 ≤ k ∧ k ≤ 16) (h2 : 0 ≤ k' ∧ k' ≤ 16) (hi : I64 i) (hf : I64 f) (ht : I64 t) (hi' : I64 i') (hf' : I64 f') (ht' : I64 t')
    (h : prl k i f t = prl k' i' f' t') : k = k' ∧ i = i' ∧ f = f' ∧ t = t' := by
  have e1 := split_prl (i := i) (f := f) (t := t) h1
  have e2 := split_prl (i := i') (f := f') (t := t') h2
  rw [h, e2] at e1
  simp only [List.cons.injEq, and_true] at e1
  exact ⟨(kw_inj h2 h1 e1.1).symm, (itoa_inj hi' hi e1.2.1).symm, (itoa_inj hf' hf e1.2.2.1).symm, (itoa_inj ht' ht e1.2.2.2).symm⟩
/-- What is read is one. -/
theorem ParP.unique {s k i f t e k' i' f' t' e' : Int} (h : ParP s k i f t e) (h' : ParP s k' i' f' t' e') : (k = k' ∧ i = i' ∧ f = f' ∧ t = t') ∧ e = e' := by
  rcases h with ⟨h1, h2, h3, h4, h5, h6⟩ | ⟨h1, h2, h3, h4, h5, h6⟩ <;> rcases h' with ⟨g1, g2, g3, g4, g5, g6⟩ | ⟨g1, g2, g3, g4, g5, g6⟩
  · have a := fole_zero h2
    have b := fole_zero g2
    obtain ⟨e1, e2, e3, e4⟩ := prl_inj (by omega) (by omega) h4 h5 h6 g4 g5 g6 (h3.symm.trans g3)
    exact ⟨⟨e1, e2, e3, e4⟩, by rw [h1, g1]⟩
  · exact absurd h3 (g6 k i f t h4 h5 h6 h2)
  · exact absurd g3 (h6 k' i' f' t' g4 g5 g6 g2)
  · exact ⟨⟨by rw [h2, g2], by rw [h3, g3], by rw [h4, g4], by rw [h5, g5]⟩, by rw [h1, g1]⟩

theorem prl_join (k i f t : Int) : prl k i f t = joinW [kw.getD k.toNat [], itoa i, itoa f, itoa t] := rfl
theorem kw_bare : ∀ a : Fin 17, 1 ≤ a.val → kw.getD a [] ≠ [] ∧ (kw.getD a []).length ≤ 200 ∧ ∀ b ∈ kw.getD a [], 33 ≤ b.toNat ∧ b.toNat ≤ 126 ∧ b.toNat ≠ 34 := by decide
theorem itoa_bare {n : Int} (h : I64 n) : itoa n ≠ [] ∧ (itoa n).length ≤ 200 ∧ ∀ b ∈ itoa n, 33 ≤ b.toNat ∧ b.toNat ≤ 126 ∧ b.toNat ≠ 34 := by
  refine ⟨itoa_ne n, ?_, fun b hb => ?_⟩
  · have := itoa_len h; omega
  · have := itoa_mem n b hb; omega
theorem prl_bare {k i f t : Int} (hk : 1 ≤ k ∧ k ≤ 16) (hi : I64 i) (hf : I64 f) (ht : I64 t) : Bare [kw.getD k.toNat [], itoa i, itoa f, itoa t] := by
  intro w hw
  simp only [List.mem_cons, List.not_mem_nil, or_false] at hw
  rcases hw with rfl | rfl | rfl | rfl
  · exact kw_bare ⟨k.toNat, by omega⟩ (by show 1 ≤ k.toNat; omega)
  · exact itoa_bare hi
  · exact itoa_bare hf
  · exact itoa_bare ht

/-! ### Fields, one after the other -/

theorem joinW_cons (w : List UInt8) (l : List (List UInt8)) : joinW (w :: l) = w ++ (if l = [] then [] else 32 :: joinW l) := by
  cases l with
  | nil => simp [joinW]
  | cons x l => simp [joinW]
theorem sbyte_at {s : Int} {a i : Nat} {w t : List UInt8} (h : (sdec s).drop a = w ++ t) (hi : i < w.length) : sbyte s ((a + i : Nat) : Int) = (w[i].toNat : Nat) := by
  unfold sbyte
  have : (sdec s)[((a + i : Nat) : Int).toNat]? = some w[i] := by
    rw [Int.toNat_natCast, ← List.getElem?_drop, h, List.getElem?_append_left hi, List.getElem?_eq_getElem hi]
  rw [this]; rfl
theorem sbyte_behind {s : Int} {a : Nat} {w t : List UInt8} {c : UInt8} (h : (sdec s).drop a = w ++ c :: t) : sbyte s ((a + w.length : Nat) : Int) = (c.toNat : Nat) := by
  unfold sbyte
  have : (sdec s)[((a + w.length : Nat) : Int).toNat]? = some c := by
    rw [Int.toNat_natCast, ← List.getElem?_drop, h, List.getElem?_append_right (Nat.le_refl _)]; simp
  rw [this]; rfl

structure Core (s a : Int) (T : Tb) (n : Int) (ws : List (List UInt8)) (k : Nat) (w : List UInt8) : Prop where
  num : n = k
  here : ws[k]? = some w
  rows : RowsW T ws n
  quote : sbyte s a ≠ 34
  fin : ∀ r, a ≤ r → r ≤ slen s → EndP s a r → r = a + w.length ∧ ssub s a r = senc w ∧
    (r < slen s → sbyte s r = 32 ∧ r + 1 < slen s ∧ k + 1 < ws.length ∧ (sdec s).drop (r + 1).toNat = joinW (ws.drop (k + 1))) ∧ (r = slen s → k + 1 = ws.length)

theorem core {s a : Int} {T : Tb} {n : Int} (hI : SplI s a T n) (ha0 : 0 ≤ a) (ha : a < slen s) {ws : List (List UInt8)} (hB : Bare ws) (hs : sdec s = joinW ws) : ∃ k w, Core s a T n ws k w := by
  obtain ⟨k, h1, h2, h3, h4⟩ := hI ws hB hs
  by_cases hk : k < ws.length
  · rw [if_pos hk] at h4
    obtain ⟨h4, _⟩ := h4
    have hd : ws.drop k = ws[k] :: ws.drop (k + 1) := List.drop_eq_getElem_cons hk
    rw [hd, joinW_cons] at h4
    obtain ⟨A, rfl⟩ := Int.eq_ofNat_of_zero_le ha0
    rw [Int.toNat_natCast] at h4
    have hw := hB ws[k] (List.getElem_mem hk)
    refine ⟨k, ws[k], h1, List.getElem?_eq_getElem hk, h3, ?_, fun r hr1 hr2 hE => ?_⟩
    · have h0 : 0 < ws[k].length := List.length_pos_iff.2 hw.1
      have := sbyte_at (i := 0) h4 h0
      simp only [Nat.add_zero] at this
      rw [this]
      have := (hw.2.2 ws[k][0] (List.getElem_mem h0)).2.2
      omega
    · have hq : sbyte s (A : Int) ≠ 34 := by
        have h0 : 0 < ws[k].length := List.length_pos_iff.2 hw.1
        have := sbyte_at (i := 0) h4 h0
        simp only [Nat.add_zero] at this
        rw [this]
        have := (hw.2.2 ws[k][0] (List.getElem_mem h0)).2.2
        omega
      obtain ⟨e1, e2⟩ := hE hq
      have hlen : (sdec s).length = A + ws[k].length + (if ws.drop (k + 1) = [] then [] else 32 :: joinW (ws.drop (k + 1))).length := by
        have := congrArg List.length h4
        rw [List.length_drop, List.length_append] at this
        simp only [slen] at ha
        omega
      have hra : r = A + ws[k].length := by
        rcases Int.lt_trichotomy r (A + ws[k].length) with hlt | heq | hgt
        · exfalso
          obtain ⟨i, hi⟩ : ∃ i : Nat, r = ((A + i : Nat) : Int) := ⟨(r - A).toNat, by omega⟩
          have hi' : i < ws[k].length := by omega
          have hb := sbyte_at (i := i) h4 hi'
          rw [← hi] at hb
          rcases e2 with e2 | e2
          · simp only [slen] at e2; omega
          · have := hw.2.2 ws[k][i] (List.getElem_mem hi')
            omega
        · exact heq
        · exfalso
          by_cases hl : ws.drop (k + 1) = []
          · rw [if_pos hl] at hlen
            simp only [slen, List.length_nil] at hr2 hlen; omega
          · rw [if_neg hl] at h4
            have hb := sbyte_behind (s := s) (a := A) h4
            have := e1 ((A + ws[k].length : Nat) : Int) (by omega) (by omega)
            rw [hb] at this
            exact this rfl
      refine ⟨hra, ?_, fun hlt => ?_, fun heq => ?_⟩
      · unfold ssub
        have : r.toNat - (A : Int).toNat = ws[k].length := by omega
        rw [this, Int.toNat_natCast, h4, List.take_left' rfl]
      · have hl : ¬ ws.drop (k + 1) = [] := fun hl => by
          rw [if_pos hl] at hlen
          simp only [slen, List.length_nil] at hlt hlen; omega
        rw [if_neg hl] at h4 hlen
        have hk1 : k + 1 < ws.length := by
          by_cases hk1 : k + 1 < ws.length
          · exact hk1
          · exact absurd (List.drop_eq_nil_of_le (by omega)) hl
        have hb := sbyte_behind (s := s) (a := A) h4
        refine ⟨by rw [hra]; exact hb, ?_, hk1, ?_⟩
        · have hd2 : ws.drop (k + 1) = ws[k + 1] :: ws.drop (k + 1 + 1) := List.drop_eq_getElem_cons hk1
          have hne := (hB ws[k + 1] (List.getElem_mem hk1)).1
          have : 0 < (joinW (ws.drop (k + 1))).length := by
            rw [hd2, joinW_cons, List.length_append]
            have := List.length_pos_iff.2 hne
            omega
          simp only [slen, List.length_cons] at hlen ⊢
          omega
        · have : (r + 1).toNat = A + (ws[k].length + 1) := by omega
          rw [this, ← List.drop_drop, h4]
          rw [List.drop_append, List.drop_eq_nil_of_le (by omega)]
          simp
      · by_cases hk1 : k + 1 < ws.length
        · exfalso
          have hl : ¬ ws.drop (k + 1) = [] := fun hl => by
            have := congrArg List.length hl
            simp at this; omega
          rw [if_neg hl] at hlen
          simp only [slen, List.length_cons] at heq hlen
          omega
        · omega
  · rw [if_neg hk] at h4
    omega
end Go.Sf

namespace Go.Sf
open Go Go.Sx Go.Lib

theorem trim_itoa (m : Int) : Lib.trimPrefix (itoa m) [45] = decDigits m.natAbs := by
  unfold itoa
  by_cases h : m < 0
  · rw [if_pos h]; simp [Lib.trimPrefix, Lib.hasPrefix]
  · rw [if_neg h]
    have hm : m.toNat = m.natAbs := by omega
    rw [hm]
    have hd := dd_digit m.natAbs
    have hne := dd_ne m.natAbs
    generalize decDigits m.natAbs = l at hd hne
    cases l with
    | nil => exact absurd rfl hne
    | cons c r =>
      have hc := hd c (by simp)
      have : ¬ (45 : UInt8) = c := fun e => by subst e; simp at hc
      simp [Lib.trimPrefix, Lib.hasPrefix, this]
theorem pre_itoa (m : Int) : Lib.hasPrefix (itoa m) [45] = decide (m < 0) := by
  unfold itoa
  by_cases h : m < 0
  · rw [if_pos h]; simp [Lib.hasPrefix, h]
  · rw [if_neg h]
    have hd := dd_digit m.toNat
    have hne := dd_ne m.toNat
    generalize decDigits m.toNat = l at hd hne
    cases l with
    | nil => exact absurd rfl hne
    | cons c r =>
      have hc := hd c (by simp)
      have : ¬ (45 : UInt8) = c := fun e => by subst e; simp at hc
      simp [Lib.hasPrefix, List.isPrefixOf, this, h]
/-- A zero ahead is all. -/
theorem dd_zero {u : Nat} {b : UInt8} (h : (decDigits u)[0]? = some b) (hb : b.toNat = 48) : u = 0 := by
  by_cases hu : 1 ≤ u
  · exact absurd hb (dd_head u hu b (by rw [List.head?_eq_getElem?]; exact h))
  · omega

theorem dval_take_le (l : List UInt8) (i : Nat) : dval 0 (l.take i) ≤ dval 0 l := by
  have h : dval 0 l = dval (dval 0 (l.take i)) (l.drop i) := by rw [← dval_append, List.take_append_drop]
  rw [h]; exact dval_ge _ _
theorem dval_take_succ {l : List UInt8} {i : Nat} {c : UInt8} (h : l[i]? = some c) : dval 0 (l.take (i + 1)) = dval 0 (l.take i) * 10 + (c.toNat - 48) := by
  obtain ⟨hi, he⟩ := List.getElem?_eq_some_iff.1 h
  rw [List.take_succ_eq_append_getElem hi, dval_append, he, dval_cons, dval_nil]
theorem w64 {x : Int} (h : -9223372036854775808 ≤ x ∧ x ≤ 9223372036854775807) : IntKind.i64.wrap x = x := wrap_rng (k := .i64) h
theorem w8 {x : Int} (h : 0 ≤ x ∧ x ≤ 255) : IntKind.u8.wrap x = x := wrap_rng (k := .u8) h

theorem accL_pos {l : List UInt8} (hd : ∀ b ∈ l, 48 ≤ b.toNat ∧ b.toNat ≤ 57) (hf : dval 0 l ≤ 9223372036854775807) : ∀ i, i ≤ l.length → accL l i = (dval 0 (l.take i) : Nat)
  | 0, _ => by simp [accL, dval]
  | i + 1, h => by
    have hi : i < l.length := by omega
    have hc := hd l[i] (List.getElem_mem hi)
    have hx := List.getElem?_eq_getElem hi
    have e := dval_take_succ hx
    have hle := dval_take_le l (i + 1)
    have hle2 := dval_take_le l i
    have h0' : ¬ ((((l[0]?).getD 0).toNat : Nat) : Int) = 45 := by
      have h0 : 0 < l.length := by omega
      have hc0 := hd l[0] (List.getElem_mem h0)
      rw [List.getElem?_eq_getElem h0, Option.getD_some]
      omega
    simp only [accL]
    rw [hx, Option.getD_some, if_pos (by omega), if_neg h0', accL_pos hd hf i (by omega), w8 (by omega), w64 (x := (l[i].toNat : Int) - 48) (by omega), w64 (x := 10 * ((dval 0 (l.take i) : Nat) : Int)) (by omega), w64 (by omega)]
    omega
theorem accL_neg {l : List UInt8} (hd : ∀ b ∈ l, 48 ≤ b.toNat ∧ b.toNat ≤ 57) (hf : dval 0 l ≤ 9223372036854775808) : ∀ i, i ≤ l.length → accL (45 :: l) (i + 1) = -(dval 0 (l.take i) : Nat)
  | 0, _ => by simp [accL, dval]
  | i + 1, h => by
    have hi : i < l.length := by omega
    have hc := hd l[i] (List.getElem_mem hi)
    have hx : (45 :: l)[i + 1]? = some l[i] := by rw [List.getElem?_cons_succ]; exact List.getElem?_eq_getElem hi
    have e := dval_take_succ (List.getElem?_eq_getElem hi)
    have hle := dval_take_le l (i + 1)
    have hle2 := dval_take_le l i
    rw [accL]
    rw [hx, Option.getD_some]
    simp only [List.getElem?_cons_zero, Option.getD_some]
    rw [if_pos (by omega), if_pos (show ((UInt8.toNat 45 : Nat) : Int) = 45 from rfl), accL_neg hd hf i (by omega), w8 (by omega), w64 (x := (l[i].toNat : Int) - 48) (by omega), w64 (x := 10 * -((dval 0 (l.take i) : Nat) : Int)) (by omega), w64 (by omega)]
    omega
theorem accL_itoa {m : Int} (h : I64 m) : accL (itoa m) (itoa m).length = m := by
  obtain ⟨h0, h1⟩ := h
  unfold itoa
  by_cases hm : m < 0
  · rw [if_pos hm, List.length_cons, accL_neg (dd_digit _) (by rw [dval_dd]; omega) _ (Nat.le_refl _), List.take_length, dval_dd]
    omega
  · rw [if_neg hm, accL_pos (dd_digit _) (by rw [dval_dd]; omega) _ (Nat.le_refl _), List.take_length, dval_dd]
    omega

/-! ### How deep -/

theorem nd_one {u : Nat} : 1 ≤ nDigits u := nDigits_pos u
theorem dep_small {n : Int} (h : 0 ≤ n) (h1 : n < 10) : dep n = 2 := by
  unfold dep; rw [if_neg (by omega), nDigits_small (by omega)]
theorem dep_big {n : Int} (h : 10 ≤ n) : dep (n.tdiv 10) < dep n ∧ dep (n.tmod 10) < dep n := by
  have e1 : n.tdiv 10 = n / 10 := Int.tdiv_eq_ediv_of_nonneg (by omega)
  have e2 : n.tmod 10 = n % 10 := Int.tmod_eq_emod_of_nonneg (by omega)
  rw [e1, e2, dep_small (n := n % 10) (by omega) (by omega)]
  unfold dep
  rw [if_neg (by omega), if_neg (by omega), nDigits_big (u := n.natAbs) (by omega)]
  have : (n / 10).natAbs = n.natAbs / 10 := by omega
  rw [this]
  have := nd_one (u := n.natAbs / 10)
  omega
theorem dep_negs {n : Int} (h : n < 0) (h1 : -10 < n) : dep (-n) < dep n := by
  rw [dep_small (n := -n) (by omega) (by omega)]
  unfold dep
  rw [if_pos h]
  have := nd_one (u := n.natAbs)
  omega
theorem dep_negb {n : Int} (h : n ≤ -10) : dep (n.tdiv 10) < dep n ∧ dep (-(n.tmod 10)) < dep n := by
  obtain ⟨u, hu⟩ := Int.eq_ofNat_of_zero_le (show 0 ≤ -n by omega)
  have hn : n = -(u : Int) := by omega
  have e1 : n.tdiv 10 = -((u / 10 : Nat) : Int) := by rw [hn, Int.neg_tdiv, Int.tdiv_eq_ediv_of_nonneg (by omega)]; rfl
  have e2 : -(n.tmod 10) = ((u % 10 : Nat) : Int) := by rw [hn, Int.neg_tmod, Int.neg_neg, Int.tmod_eq_emod_of_nonneg (by omega)]; rfl
  rw [e1, e2, dep_small (n := ((u % 10 : Nat) : Int)) (by omega) (by omega)]
  unfold dep
  rw [if_pos (by omega), if_pos (by omega), show n.natAbs = u by omega, nDigits_big (u := u) (by omega), show (-((u / 10 : Nat) : Int)).natAbs = u / 10 by omega]
  have := nd_one (u := u / 10)
  omega
theorem dep_le {n : Int} (h : I64 n) : dep n ≤ 39 := by
  have := nDigits_le 19 n.natAbs (by omega) (by obtain ⟨h0, h1⟩ := h; omega)
  unfold dep
  split <;> omega
end Go.Sf
