/-
  Strings as numbers: each number is a string, each string a number; what the executor's values say of them. Conditions: none.
-/
import Derived.Test.YtbcclmpmljpbcaaGreatDoorSxRel
noncomputable section
namespace Go.Sx
open Go

theorem decN_encN : ∀ (l : List UInt8) (f : Nat), encN l ≤ f → decN f (encN l) = l
  | [], f, _ => by cases f <;> simp [decN, encN]
  | b :: l, f, h => by
    cases f with
    | zero => simp [encN] at h
    | succ f =>
      have hb : b.toNat < 256 := b.toNat_lt
      simp only [encN] at h ⊢
      simp only [decN]
      rw [if_neg (by omega)]
      have h1 : (b.toNat + 1 + 256 * encN l - 1) % 256 = b.toNat := by omega
      have h2 : (b.toNat + 1 + 256 * encN l - 1) / 256 = encN l := by omega
      rw [h1, h2, decN_encN l f (by omega)]
      simp
theorem encN_decN : ∀ (f n : Nat), n ≤ f → encN (decN f n) = n
  | 0, n, h => by have : n = 0 := by omega
                  subst this; rfl
  | f + 1, n, h => by
    simp only [decN]
    by_cases h0 : n = 0
    · rw [if_pos h0]; simp [encN, h0]
    · rw [if_neg h0]
      simp only [encN]
      rw [encN_decN f ((n - 1) / 256) (by omega)]
      have : (UInt8.ofNat ((n - 1) % 256)).toNat = (n - 1) % 256 := by
        simp
      rw [this]; omega
theorem unzig_zig (n : Nat) : unzig (zig n) = n := by
  unfold zig
  split
  · simp only [unzig]; omega
  · simp only [unzig]; omega
theorem zig_unzig (z : Int) : zig (unzig z) = z := by
  cases z with
  | ofNat m =>
    show zig (2 * m) = _
    unfold zig
    rw [if_pos (by omega)]; congr 1; omega
  | negSucc m =>
    show zig (2 * m + 1) = _
    unfold zig
    rw [if_neg (by omega)]; congr 1; omega
theorem sdec_senc (l : List UInt8) : sdec (senc l) = l := by
  unfold sdec senc; rw [unzig_zig]; exact decN_encN l _ (Nat.le_refl _)
theorem senc_sdec (n : Int) : senc (sdec n) = n := by
  unfold sdec senc; rw [encN_decN _ _ (Nat.le_refl _), zig_unzig]
theorem senc_inj {l m : List UInt8} (h : senc l = senc m) : l = m := by rw [← sdec_senc l, h, sdec_senc]
theorem sdec_inj {n m : Int} (h : sdec n = sdec m) : n = m := by rw [← senc_sdec n, h, senc_sdec]

/-- The string that a number stands for. -/
def sval (n : Int) : Value := .string ⟨(sdec n).toArray⟩
theorem sval_senc {s : ByteArray} {l : List UInt8} (h : s.data.toList = l) : Value.string s = sval (senc l) := by
  subst h
  unfold sval; rw [sdec_senc]

variable {I : Itp} {env : List D} {g : G}

theorem den_fn {j : Nat} {a b c d : E} {x y z u : D} (ha : a.den I env = some x) (hb : b.den I env = some y) (hc : c.den I env = some z) (hd : d.den I env = some u) :
    (E.fn (1000 + j) a b c d).den I env = some (bi j x y z u) := by
  simp only [E.den, ha, hb, hc, hd]
  show (if 1000 ≤ 1000 + j then some (bi (1000 + j - 1000) x y z u) else I.fn (1000 + j) x y z u) = _
  rw [if_pos (Nat.le_add_right _ _), Nat.add_sub_cancel_left]
theorem den_mkS {j : Nat} {a b c : E} {x y z n : Int} (ha : a.den I env = some (.i x)) (hb : b.den I env = some (.i y)) (hc : c.den I env = some (.i z)) (hn : bi j (.i x) (.i y) (.i z) (.i 0) = .i n) :
    (mkS j a b c).den I env = some (.i n) := by
  unfold mkS
  split
  · simp only [E.den, Option.some.injEq, D.i.injEq] at ha hb hc
    subst ha; subst hb; subst hc
    split
    · rename_i m hm
      rw [hm] at hn; simp only [D.i.injEq] at hn; subst hn; rfl
    · rename_i m hm
      rw [hm] at hn; cases hn
  · rw [den_fn ha hb hc (show (E.lit 0).den I env = some (.i 0) from rfl), hn]
theorem den_mkLen {a : E} {x : Int} (ha : a.den I env = some (.i x)) : (mkLen a).den I env = some (.i (slen x)) :=
  den_mkS (n := slen x) ha (show (E.lit 0).den I env = some (.i 0) from rfl) (show (E.lit 0).den I env = some (.i 0) from rfl) rfl

theorem mkStr_rel {e : E} {x : Value} {n : Int} (h : e.den I g.env = some (.i n)) (hx : x = sval n) : Rel I g (mkStr e) x := by
  unfold mkStr
  split
  · rename_i m
    simp only [E.den, Option.some.injEq, D.i.injEq] at h
    subst h
    exact ⟨_, hx, by simp⟩
  · exact ⟨n, h, hx⟩

theorem code_rel {v : AV} {x : Value} {e : E} (h : v.code = some e) (hv : Rel I g v x) : ∃ n, e.den I g.env = some (.i n) ∧ x = sval n := by
  cases v with
  | sat e' => simp only [AV.code, Option.some.injEq] at h; subst h; exact hv
  | str l =>
    simp only [AV.code, Option.some.injEq] at h; subst h
    obtain ⟨s, rfl, h2⟩ := hv
    exact ⟨senc l, rfl, sval_senc h2⟩
  | strT t n =>
    simp only [AV.code, Option.some.injEq] at h; subst h
    obtain ⟨f, k, s, h1, h2, rfl, h4, h5⟩ := hv
    refine ⟨scode f k, den_fn (j := 5) h1 h2 (show (E.lit 0).den I g.env = some (.i 0) from rfl) (show (E.lit 0).den I g.env = some (.i 0) from rfl), ?_⟩
    refine sval_senc ?_
    refine List.ext_getElem? fun i => ?_
    rw [h4]
    simp only [Int.toNat_natCast, List.getElem?_map]
    by_cases hi : i < s.data.toList.length
    · rw [List.getElem?_range hi, List.getElem?_eq_getElem hi]
      simp only [Option.map_some]
      rw [h5 i _ (List.getElem?_eq_getElem hi)]
      simp
    · have h1 : s.data.toList[i]? = none := List.getElem?_eq_none (by omega)
      have h2 : (List.range s.data.toList.length)[i]? = none := List.getElem?_eq_none (by rw [List.length_range]; omega)
      rw [h1, h2]; rfl
  | _ => simp [AV.code] at h

/-- A row's value, taken as it is. -/
theorem ck_rel {c : CK} {e : E} {n : Int} (h : e.den I g.env = some (.i n)) : Rel I g (c.av e) (c.val n) := by
  cases c with
  | int k => exact ⟨n, h, rfl⟩
  | bool => exact ⟨n, h, rfl⟩
  | str => exact mkStr_rel h rfl
end Go.Sx
