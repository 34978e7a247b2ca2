/-
  The library's functions as they stand in this program: closed facts, written by the kit's tools, or a program of mine, for this program. Conditions: none.
-/
import Derived.Shelf.Strings.Builder1
import Derived.Shelf.Strconv.Itoa4
import Derived.Shelf.LaysM
import Derived.Test.YtmlimaopoghcmaaGreatDoorProg
import Derived.Test.YtmlimaopoghcmaaGreatDoorB1
import Derived.Test.YtmlimaopoghcmaaGreatDoorA4
import Derived.KernelRfl
namespace Go.Proofs
def Tryz.lays166_ren : Go.Shelf.Ren := ⟨fun | 166 => 12 | 240 => 41 | 276 => 77 | n => n, fun | 0 => 0 | 3 => 3 | 4 => 4 | 5 => 5 | 9 => 9 | 20 => 20 | 37 => 83 | 70 => 82 | 72 => 85 | 75 => 89 | 80 => 98 | 164 => 205 | n => n, fun | n => n⟩
theorem Tryz.lays166 : Go.Proofs.Lays.n166 Tryz.prog Tryz.lays166_ren where
  mixed := by kernel_rfl
  f166 := Tryz.func12.trans (congrArg some (by kernel_rfl))
  f240 := Tryz.func41.trans (congrArg some (by kernel_rfl))
  f276 := Tryz.func77.trans (congrArg some (by kernel_rfl))
  t0 := Tryz.underlying0
  a0 := Tryz.isAgg0
  z0 := Tryz.sizeOf0
  v0 := Tryz.zeroValue0
  t3 := Tryz.underlying3
  a3 := Tryz.isAgg3
  z3 := Tryz.sizeOf3
  v3 := Tryz.zeroValue3
  t4 := Tryz.underlying4
  a4 := Tryz.isAgg4
  z4 := Tryz.sizeOf4
  v4 := Tryz.zeroValue4
  t9 := Tryz.underlying9
  a9 := Tryz.isAgg9
  z9 := Tryz.sizeOf9
  v9 := Tryz.zeroValue9
  t20 := Tryz.underlying20
  a20 := Tryz.isAgg20
  z20 := Tryz.sizeOf20
  v20 := Tryz.zeroValue20
  t37 := Tryz.underlying83
  a37 := Tryz.isAgg83
  z37 := Tryz.sizeOf83
  v37 := Tryz.zeroValue83
  t70 := Tryz.underlying82
  a70 := Tryz.isAgg82
  z70 := Tryz.sizeOf82
  v70 := Tryz.zeroValue82
  t72 := Tryz.underlying85
  a72 := Tryz.isAgg85
  z72 := Tryz.sizeOf85
  v72 := Tryz.zeroValue85
  t75 := Tryz.underlying89
  a75 := Tryz.isAgg89
  z75 := Tryz.sizeOf89
  v75 := Tryz.zeroValue89
  t164 := Tryz.underlying205
  a164 := Tryz.isAgg205
  z164 := Tryz.sizeOf205
  v164 := Tryz.zeroValue205
theorem Tryz.Builder_Extra_166 : Builder.Extra Tryz.prog Tryz.lays166_ren where
  sizeBuilder := by kernel_rfl
  liesBuilder := by kernel_rfl
  t5 := Tryz.underlying5
  a5 := Tryz.isAgg5
  z5 := Tryz.sizeOf5
  v5 := Tryz.zeroValue5
  infoByte := by kernel_rfl
  cellsByte := by kernel_rfl
  sizeByte := by kernel_rfl
  neB5 := by decide
def Tryz.lays167_ren : Go.Shelf.Ren := ⟨fun | 167 => 13 | 240 => 41 | 276 => 77 | n => n, fun | 0 => 0 | 4 => 4 | 5 => 5 | 9 => 9 | 20 => 20 | 37 => 83 | 70 => 82 | 72 => 85 | 75 => 89 | 80 => 98 | 164 => 205 | n => n, fun | n => n⟩
theorem Tryz.lays167 : Go.Proofs.Lays.n167 Tryz.prog Tryz.lays167_ren where
  mixed := by kernel_rfl
  f167 := Tryz.func13.trans (congrArg some (by kernel_rfl))
  f240 := Tryz.func41.trans (congrArg some (by kernel_rfl))
  f276 := Tryz.func77.trans (congrArg some (by kernel_rfl))
  t0 := Tryz.underlying0
  a0 := Tryz.isAgg0
  z0 := Tryz.sizeOf0
  v0 := Tryz.zeroValue0
  t4 := Tryz.underlying4
  a4 := Tryz.isAgg4
  z4 := Tryz.sizeOf4
  v4 := Tryz.zeroValue4
  t5 := Tryz.underlying5
  a5 := Tryz.isAgg5
  z5 := Tryz.sizeOf5
  v5 := Tryz.zeroValue5
  t9 := Tryz.underlying9
  a9 := Tryz.isAgg9
  z9 := Tryz.sizeOf9
  v9 := Tryz.zeroValue9
  t20 := Tryz.underlying20
  a20 := Tryz.isAgg20
  z20 := Tryz.sizeOf20
  v20 := Tryz.zeroValue20
  t37 := Tryz.underlying83
  a37 := Tryz.isAgg83
  z37 := Tryz.sizeOf83
  v37 := Tryz.zeroValue83
  t70 := Tryz.underlying82
  a70 := Tryz.isAgg82
  z70 := Tryz.sizeOf82
  v70 := Tryz.zeroValue82
  t72 := Tryz.underlying85
  a72 := Tryz.isAgg85
  z72 := Tryz.sizeOf85
  v72 := Tryz.zeroValue85
  t75 := Tryz.underlying89
  a75 := Tryz.isAgg89
  z75 := Tryz.sizeOf89
  v75 := Tryz.zeroValue89
  t164 := Tryz.underlying205
  a164 := Tryz.isAgg205
  z164 := Tryz.sizeOf205
  v164 := Tryz.zeroValue205
theorem Tryz.Builder_Extra_167 : Builder.Extra Tryz.prog Tryz.lays167_ren where
  sizeBuilder := by kernel_rfl
  liesBuilder := by kernel_rfl
  t5 := Tryz.underlying5
  a5 := Tryz.isAgg5
  z5 := Tryz.sizeOf5
  v5 := Tryz.zeroValue5
  infoByte := by kernel_rfl
  cellsByte := by kernel_rfl
  sizeByte := by kernel_rfl
  neB5 := by decide
def Tryz.lays169_ren : Go.Shelf.Ren := ⟨fun | 169 => 15 | n => n, fun | 0 => 0 | 3 => 3 | 5 => 5 | 9 => 9 | 37 => 83 | 70 => 82 | 72 => 85 | 127 => 126 | n => n, fun | n => n⟩
theorem Tryz.lays169 : Go.Proofs.Lays.n169 Tryz.prog Tryz.lays169_ren where
  mixed := by kernel_rfl
  f169 := Tryz.func15.trans (congrArg some (by kernel_rfl))
  t0 := Tryz.underlying0
  a0 := Tryz.isAgg0
  z0 := Tryz.sizeOf0
  v0 := Tryz.zeroValue0
  t3 := Tryz.underlying3
  a3 := Tryz.isAgg3
  z3 := Tryz.sizeOf3
  v3 := Tryz.zeroValue3
  t9 := Tryz.underlying9
  a9 := Tryz.isAgg9
  z9 := Tryz.sizeOf9
  v9 := Tryz.zeroValue9
  t37 := Tryz.underlying83
  a37 := Tryz.isAgg83
  z37 := Tryz.sizeOf83
  v37 := Tryz.zeroValue83
  t70 := Tryz.underlying82
  a70 := Tryz.isAgg82
  z70 := Tryz.sizeOf82
  v70 := Tryz.zeroValue82
  t72 := Tryz.underlying85
  a72 := Tryz.isAgg85
  z72 := Tryz.sizeOf85
  v72 := Tryz.zeroValue85
  t127 := Tryz.underlying126
  a127 := Tryz.isAgg126
  z127 := Tryz.sizeOf126
  v127 := Tryz.zeroValue126
theorem Tryz.Builder_Extra_169 : Builder.Extra Tryz.prog Tryz.lays169_ren where
  sizeBuilder := by kernel_rfl
  liesBuilder := by kernel_rfl
  t5 := Tryz.underlying5
  a5 := Tryz.isAgg5
  z5 := Tryz.sizeOf5
  v5 := Tryz.zeroValue5
  infoByte := by kernel_rfl
  cellsByte := by kernel_rfl
  sizeByte := by kernel_rfl
  neB5 := by decide
def Tryz.laysM173_ren : Go.Shelf.Ren := ⟨fun | 173 => 14 | 246 => 42 | 283 => 78 | 284 => 79 | 285 => 80 | 286 => 81 | 129 => 139 | 317 => 138 | 318 => 140 | 319 => 141 | 320 => 142 | 337 => 212 | 338 => 213 | n => n, fun | 2 => 2 | 3 => 3 | 9 => 9 | 4 => 4 | 171 => 208 | 0 => 0 | 53 => 209 | 37 => 83 | 5 => 5 | 173 => 212 | 212 => 292 | 51 => 293 | 20 => 20 | 213 => 294 | 46 => 295 | 232 => 434 | 233 => 202 | n => n, fun | 17 => 0 | 18 => 1 | 19 => 2 | n => n⟩
theorem Tryz.laysM173 : Go.Proofs.LaysM.n173 Tryz.prog Tryz.laysM173_ren where
  mixed := by kernel_rfl
  f129 := Tryz.func139.trans (congrArg some (by kernel_rfl))
  f173 := Tryz.func14.trans (congrArg some (by kernel_rfl))
  f246 := Tryz.func42.trans (congrArg some (by kernel_rfl))
  f283 := Tryz.func78.trans (congrArg some (by kernel_rfl))
  f284 := Tryz.func79.trans (congrArg some (by kernel_rfl))
  f285 := Tryz.func80.trans (congrArg some (by kernel_rfl))
  f286 := Tryz.func81.trans (congrArg some (by kernel_rfl))
  f317 := Tryz.func138.trans (congrArg some (by kernel_rfl))
  f318 := Tryz.func140.trans (congrArg some (by kernel_rfl))
  f319 := Tryz.func141.trans (congrArg some (by kernel_rfl))
  f320 := Tryz.func142.trans (congrArg some (by kernel_rfl))
  f337 := Tryz.func212.trans (congrArg some (by kernel_rfl))
  f338 := Tryz.func213.trans (congrArg some (by kernel_rfl))
  t0 := Tryz.underlying0
  a0 := Tryz.isAgg0
  z0 := Tryz.sizeOf0
  v0 := Tryz.zeroValue0
  t2 := Tryz.underlying2
  a2 := Tryz.isAgg2
  z2 := Tryz.sizeOf2
  v2 := Tryz.zeroValue2
  t3 := Tryz.underlying3
  a3 := Tryz.isAgg3
  z3 := Tryz.sizeOf3
  v3 := Tryz.zeroValue3
  t4 := Tryz.underlying4
  a4 := Tryz.isAgg4
  z4 := Tryz.sizeOf4
  v4 := Tryz.zeroValue4
  t5 := Tryz.underlying5
  a5 := Tryz.isAgg5
  z5 := Tryz.sizeOf5
  v5 := Tryz.zeroValue5
  t9 := Tryz.underlying9
  a9 := Tryz.isAgg9
  z9 := Tryz.sizeOf9
  v9 := Tryz.zeroValue9
  t20 := Tryz.underlying20
  a20 := Tryz.isAgg20
  z20 := Tryz.sizeOf20
  v20 := Tryz.zeroValue20
  t37 := Tryz.underlying83
  a37 := Tryz.isAgg83
  z37 := Tryz.sizeOf83
  v37 := Tryz.zeroValue83
  t46 := Tryz.underlying295
  a46 := Tryz.isAgg295
  z46 := Tryz.sizeOf295
  v46 := Tryz.zeroValue295
  t51 := Tryz.underlying293
  a51 := Tryz.isAgg293
  z51 := Tryz.sizeOf293
  v51 := Tryz.zeroValue293
  t53 := Tryz.underlying209
  a53 := Tryz.isAgg209
  z53 := Tryz.sizeOf209
  v53 := Tryz.zeroValue209
  t171 := Tryz.underlying208
  a171 := Tryz.isAgg208
  z171 := Tryz.sizeOf208
  v171 := Tryz.zeroValue208
  t173 := Tryz.underlying212
  a173 := Tryz.isAgg212
  z173 := Tryz.sizeOf212
  v173 := Tryz.zeroValue212
  t212 := Tryz.underlying292
  a212 := Tryz.isAgg292
  z212 := Tryz.sizeOf292
  v212 := Tryz.zeroValue292
  t213 := Tryz.underlying294
  a213 := Tryz.isAgg294
  z213 := Tryz.sizeOf294
  t232 := Tryz.underlying434
  a232 := Tryz.isAgg434
  z232 := Tryz.sizeOf434
  v232 := Tryz.zeroValue434
  t233 := Tryz.underlying202
  a233 := Tryz.isAgg202
  z233 := Tryz.sizeOf202
  v233 := Tryz.zeroValue202
  g17 := by kernel_rfl
  g18 := by kernel_rfl
  g19 := by kernel_rfl
  i0 := by kernel_rfl
  i2 := by kernel_rfl
  i3 := by kernel_rfl
  i4 := by kernel_rfl
  i5 := by kernel_rfl
  i9 := by kernel_rfl
  i20 := by kernel_rfl
  i37 := by kernel_rfl
  i46 := by kernel_rfl
  i51 := by kernel_rfl
  i53 := by kernel_rfl
  i171 := by kernel_rfl
  i173 := by kernel_rfl
  i212 := by kernel_rfl
  i232 := by kernel_rfl
  i233 := by kernel_rfl
  m17 := by kernel_rfl
  m18 := by kernel_rfl
  m19 := by kernel_rfl
end Go.Proofs
namespace Go.Au
open Go Go.Sx Go.Lib Go.Mg Go.Proofs Go.RowKit
variable {N : Nat} {I : Itp} {g : G} {a b : AV} {xs : List Value}
theorem env1 {env : List D} (h : Sorts [false] env) : ∃ n, env = [.i n] := by
  match env, h with
  | [.i n], _ => exact ⟨n, rfl⟩
theorem env2 {env : List D} (h : Sorts [false, false] env) : ∃ n m, env = [.i n, .i m] := by
  match env, h with
  | [.i n, .i m], _ => exact ⟨n, m, rfl⟩
theorem rels2 (h : Rels I g [a, b] xs) : ∃ x y, xs = [x, y] ∧ Rel I g a x ∧ Rel I g b y := by
  match xs, h with
  | [x, y], ⟨h1, h2, _⟩ => exact ⟨x, y, rfl, h1, h2⟩
theorem rels1 (h : Rels I g [a] xs) : ∃ x, xs = [x] ∧ Rel I g a x := by
  match xs, h with
  | [x], ⟨h1, _⟩ => exact ⟨x, rfl, h1⟩
  | [], h => simp [Rels] at h
  | _ :: _ :: _, h => simp [Rels] at h
theorem grow_stays (w : World) (k : Nat) (os : Array Obj) : Stays w (Go.Sort.grow (w.drewN k) os) where
  os := rfl
  output := rfl
  size := by simp [Go.Sort.grow, World.drewN]
  block i hi := by
    show (w.heap ++ os)[i]? = _
    rw [Array.getElem?_append_left hi]
theorem okFormat : COk (AI N) Tryz.prog gls cFormat := by
  refine COk.lib rfl rfl fun g w xs hso hG hm ha hp => ?_
  obtain ⟨env, φ, nb⟩ := g
  obtain ⟨n, rfl⟩ := env1 hso
  obtain ⟨x, y, rfl, ⟨n1, h1, rfl⟩, ⟨n2, h2, rfl⟩⟩ := rels2 ha
  obtain rfl : n = n1 := D.i.inj (Option.some.inj h1)
  obtain rfl : 10 = n2 := D.i.inj (Option.some.inj h2)
  obtain ⟨m, hm1, hr⟩ := hp _ (List.mem_singleton.2 rfl)
  obtain rfl : n = m := D.i.inj (Option.some.inj hm1)
  have htab : Lib.TabIs Tryz.prog w "internal/strconv.uint64pow10" .u64 Lib.pow10Tab := by
    obtain ⟨_, _, c, T, fr, hh, _, _, hf, _⟩ := hG { g := 0, k := .int .u64, l := pow10, full := true } (by simp [gls])
    have hc := hf rfl
    have gname : Tryz.prog.globalNamed "internal/strconv.uint64pow10" = some 0 := by kernel_rfl
    have hh : w.heap[0]? = some (.cells c T fr) := hh
    unfold Lib.TabIs World.var?
    rw [gname]
    simp only [Option.bind_some, hh, hc]
    rfl
  have h : Calls Tryz.prog 14 #[.int .i64 n, .int .i64 10] w _ := Any.strconv_FormatInt_10 Tryz.laysM173 n hr.1 hr.2 w htab
  refine h.mono fun e w' he => ?_
  obtain ⟨rfl, k, os, rfl⟩ := he
  refine ⟨_, [.i (senc (Lib.itoa n))], rfl, trivial, ⟨senc (Lib.itoa n), rfl, by rw [sdec_senc]⟩, grow_stays w k os, fun p hp => ?_⟩
  simp only [cFormat, List.mem_cons, List.not_mem_nil, or_false] at hp
  rcases hp with rfl | rfl
  · exact ⟨_, rfl, rfl⟩
  · exact ⟨_, rfl, by show (if slen (senc (itoa n)) ≤ 20 then (1 : Int) else 0) ≠ 0; rw [if_pos (slen_itoa hr)]; decide⟩
theorem byteCells_len (l : List UInt8) : (Lib.byteCells l).length = l.length := by simp [Lib.byteCells]
theorem le_of_tt {g : G} {a b : E} {x y : Int} (h : (eLe a b).den (AI N) g.env) (ha : a.den (AI N) g.env = some (.i x)) (hb : b.den (AI N) g.env = some (.i y)) : x ≤ y := by
  obtain ⟨z, h1, h2⟩ := h
  simp only [E.den, ha, hb, BO.ev, Option.some.injEq, D.i.injEq] at h1
  by_cases hxy : x ≤ y
  · exact hxy
  · rw [if_neg hxy] at h1; exact absurd h1.symm h2
theorem okWS : COk (AI N) Tryz.prog gls cWS := by
  intro g w xs hso hnb hG hm ha hp
  obtain ⟨env, φ, nb⟩ := g
  obtain ⟨n, k, rfl⟩ := env2 hso
  obtain ⟨p, x, y, h1, hb, hbk, hx, hown, hy⟩ := bld_own (T := 85) (e := 5) (c := cWS) (a := v 0) (n := n) rfl hm rfl
  obtain ⟨a, b, rfl, ⟨r, p', hr, _, hφ, rfl⟩, ⟨k1, hk1, rfl⟩⟩ := rels2 ha
  obtain rfl : k = k1 := D.i.inj (Option.some.inj hk1)
  obtain rfl : p = p' := Option.some.inj (h1.symm.trans hφ)
  obtain rfl : 0 = r := D.i.inj (Option.some.inj hr)
  have hle : slen n + slen k ≤ 1000000 := le_of_tt (hp _ (List.mem_singleton.2 rfl)) rfl rfl
  have hs : (⟨(sdec k).toArray⟩ : ByteArray).size = (sdec k).length := by simp [ByteArray.size]
  have hc : Calls Tryz.prog 12 #[.pointer (some ⟨p.blk, 0, none⟩), .string ⟨(sdec k).toArray⟩] w fun e w' => e = .returned (.tuple #[.int .i64 (⟨(sdec k).toArray⟩ : ByteArray).size, .nilIface]) ∧ Wrote 85 5 p.blk y (Lib.byteCells (sdec n) ++ Lib.strCells ⟨(sdec k).toArray⟩) w w' :=
    writeString_kept Tryz.lays166 Tryz.Builder_Extra_166 p.blk x y (Lib.byteCells (sdec n)) ⟨(sdec k).toArray⟩ w hbk hx (by rw [byteCells_len]; exact hown) (by unfold slen at hle; rw [byteCells_len, hs]; omega)
  have hargs : (#[.pointer (some ⟨p.blk, p.base + (0 : Int).toNat * 0 + 0, none⟩), .string ⟨(sdec k).toArray⟩] : Array Value) = #[.pointer (some ⟨p.blk, 0, none⟩), .string ⟨(sdec k).toArray⟩] := by rw [hb]; rfl
  show Calls Tryz.prog 12 #[.pointer (some ⟨p.blk, p.base + (0 : Int).toNat * 0 + 0, none⟩), .string ⟨(sdec k).toArray⟩] w _
  rw [hargs]
  refine hc.mono fun e w' ⟨he', hw⟩ => ?_
  have hcat : Lib.byteCells (sdec n) ++ Lib.strCells ⟨(sdec k).toArray⟩ = Lib.byteCells (sdec (scat n k)) := by
    rw [strCells_sdec]; unfold scat; rw [sdec_senc]; simp [Lib.byteCells]
  rw [hcat] at hw
  obtain ⟨g', e1, e2, e3, e4⟩ := wrote_rel (k := 2) rfl hnb hm (by decide) h1 hb hy hw rfl
  refine ⟨_, [.i (scat n k)], g', he', trivial, e1, by rw [e2]; rfl, fun b hb => e3 b hb, ⟨_, rfl, ⟨slen k, by rw [e1]; rfl, by rw [hs]; rfl⟩, rfl, trivial⟩, e4, fun q hq => ?_⟩
  simp only [cWS, List.mem_singleton] at hq
  subst hq
  rw [e1]
  exact ⟨_, rfl, rfl⟩
theorem okWB {c : Int} {b : UInt8} (hc : c = b.toNat) : COk (AI N) Tryz.prog gls (cWB c [b]) := by
  intro g w xs hso hnb hG hm ha hp
  obtain ⟨env, φ, nb⟩ := g
  obtain ⟨n, rfl⟩ := env1 hso
  obtain ⟨p, x, y, h1, hb, hbk, hx, hown, hy⟩ := bld_own (T := 85) (e := 5) (c := cWB c [b]) (a := v 0) (n := n) rfl hm rfl
  obtain ⟨a, b', rfl, ⟨r, p', hr, _, hφ, rfl⟩, ⟨k1, hk1, rfl⟩⟩ := rels2 ha
  obtain rfl : c = k1 := D.i.inj (Option.some.inj hk1)
  obtain rfl : p = p' := Option.some.inj (h1.symm.trans hφ)
  obtain rfl : 0 = r := D.i.inj (Option.some.inj hr)
  have hle : slen n + 1 ≤ 1000000 := le_of_tt (hp _ (List.mem_singleton.2 rfl)) rfl rfl
  have hcl : Calls Tryz.prog 13 #[.pointer (some ⟨p.blk, 0, none⟩), .int .u8 c] w fun e w' => e = .returned .nilIface ∧ Wrote 85 5 p.blk y (Lib.byteCells (sdec n) ++ [.int .u8 c]) w w' :=
    writeByte_kept Tryz.lays167 Tryz.Builder_Extra_167 p.blk x y (Lib.byteCells (sdec n)) c w hbk hx (by rw [byteCells_len]; exact hown) (by unfold slen at hle; rw [byteCells_len]; omega)
  have hargs : (#[.pointer (some ⟨p.blk, p.base + (0 : Int).toNat * 0 + 0, none⟩), .int .u8 c] : Array Value) = #[.pointer (some ⟨p.blk, 0, none⟩), .int .u8 c] := by rw [hb]; rfl
  show Calls Tryz.prog 13 #[.pointer (some ⟨p.blk, p.base + (0 : Int).toNat * 0 + 0, none⟩), .int .u8 c] w _
  rw [hargs]
  refine hcl.mono fun e w' ⟨he', hw⟩ => ?_
  have hcat : Lib.byteCells (sdec n) ++ [.int .u8 c] = Lib.byteCells (sdec (scat n (senc [b]))) := by
    unfold scat; rw [sdec_senc, sdec_senc, hc]; simp [Lib.byteCells]
  rw [hcat] at hw
  obtain ⟨g', e1, e2, e3, e4⟩ := wrote_rel (k := 1) rfl hnb hm (by decide) h1 hb hy hw rfl
  refine ⟨_, [.i (scat n (senc [b]))], g', he', trivial, e1, by rw [e2]; rfl, fun b hb => e3 b hb, rfl, e4, fun q hq => ?_⟩
  simp only [cWB, List.mem_singleton] at hq
  subst hq
  rw [e1]
  exact ⟨_, rfl, rfl⟩
theorem okBS : COk (AI N) Tryz.prog gls cBS := by
  intro g w xs hso hnb hG hm ha hp
  obtain ⟨env, φ, nb⟩ := g
  obtain ⟨n, rfl⟩ := env1 hso
  obtain ⟨p, x, y, h1, hb, hbk, hx, hown, hy⟩ := bld_own (T := 85) (e := 5) (c := cBS) (a := v 0) (n := n) rfl hm rfl
  obtain ⟨a, rfl, ⟨r, p', hr, _, hφ, rfl⟩⟩ := rels1 ha
  obtain rfl : p = p' := Option.some.inj (h1.symm.trans hφ)
  obtain rfl : 0 = r := D.i.inj (Option.some.inj hr)
  have hcl : Calls Tryz.prog 15 #[.pointer (some ⟨p.blk, 0, none⟩)] w fun e w' => e = .returned (.string ⟨(sdec n).toArray⟩) ∧ Go.Proofs.KeptB p.blk y.ownBlock w w' := string_kept Tryz.lays169 Tryz.Builder_Extra_169 p.blk x y (sdec n) w hbk hown
  have hargs : (#[.pointer (some ⟨p.blk, p.base + (0 : Int).toNat * 0 + 0, none⟩)] : Array Value) = #[.pointer (some ⟨p.blk, 0, none⟩)] := by rw [hb]; rfl
  show Calls Tryz.prog 15 #[.pointer (some ⟨p.blk, p.base + (0 : Int).toNat * 0 + 0, none⟩)] w _
  rw [hargs]
  refine hcl.mono fun e w' ⟨he', hk⟩ => ?_
  refine ⟨_, [], ⟨[.i n], φ, nb⟩, he', trivial, (List.append_nil _).symm, hnb, fun _ _ => rfl, ⟨n, rfl, rfl⟩, ?_, fun q hq => by simp [cBS, c0] at hq⟩
  have hX : ∀ i, (i = p.blk ∨ y.ownBlock = some i) → (cBS.amb ⟨[.i n], φ, nb⟩ w).X i := by
    intro i hi
    rcases hi with rfl | hi
    · exact ⟨0, _, p, rfl, rfl, h1, rfl⟩
    · obtain ⟨q, hq, hqk⟩ := hy i hi
      exact ⟨1, _, q, rfl, rfl, hq, hqk⟩
  exact ⟨hm.wf, fun b x hb => by simp [cBS, c0, get_nil] at hb, fun b x hb => by simp [cBS, c0, get_nil] at hb, fun b c x y p q hb => by simp [cBS, c0, get_nil] at hb,
    fun b p hb => Nat.lt_of_lt_of_le (hm.bnd b p hb) hk.size, fun b x p hb => by simp [cBS, c0, get_nil] at hb, hk.size,
    fun i hi hXi => hk.block i hi (fun h => hXi (hX i (.inl h))) (fun h => hXi (hX i (.inr h.symm))), ⟨hk.os, hk.output⟩⟩
end Go.Au
