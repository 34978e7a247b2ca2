/-
  The library's functions keep the contracts: numerals written and read, texts cut, parted and joined. Conditions: none.
-/
import Derived.Test.YtbcclmpmljpbcaaGreatDoorSfShelf
import Derived.Test.YtbcclmpmljpbcaaGreatDoorSfSpec
import Derived.Test.YtbcclmpmljpbcaaGreatDoorSxLib
import Derived.KernelRfl
namespace Go.Sf
open Go Go.Sx Go.Mg Go.Proofs Go.RowKit Go.Lib
variable {N : Nat}

theorem env1 {env : List D} (h : Sorts [false] env) : ∃ n, env = [.i n] := by
  match env, h with
  | [.i n], _ => exact ⟨n, rfl⟩
theorem env2 {env : List D} (h : Sorts [false, false] env) : ∃ n m, env = [.i n, .i m] := by
  match env, h with
  | [.i n, .i m], _ => exact ⟨n, m, rfl⟩
theorem env3 {env : List D} (h : Sorts [true, false, false] env) : ∃ T n m, env = [.t T, .i n, .i m] := by
  match env, h with
  | [.t T, .i n, .i m], _ => exact ⟨T, n, m, rfl⟩
section
variable {I : Itp} {g : G} {a b c : AV} {xs : List Value}
theorem rels2 (h : Rels I g [a, b] xs) : ∃ x y, xs = [x, y] ∧ Rel I g a x ∧ Rel I g b y := by
  match xs, h with
  | [x, y], ⟨h1, h2, _⟩ => exact ⟨x, y, rfl, h1, h2⟩
theorem rels3 (h : Rels I g [a, b, c] xs) : ∃ x y z, xs = [x, y, z] ∧ Rel I g a x ∧ Rel I g b y ∧ Rel I g c z := by
  match xs, h with
  | [x, y, z], ⟨h1, h2, h3, _⟩ => exact ⟨x, y, z, rfl, h1, h2, h3⟩
end
theorem grow_stays (w : World) (k : Nat) (os : Array Obj) : Stays w (Go.Sort.grow (w.drewN k) os) where
  os := rfl
  output := rfl
  size := by simp [Go.Sort.grow, World.drewN]
  block i hi := by
    show (w.heap ++ os)[i]? = _
    rw [Array.getElem?_append_left hi]

theorem okFormat : COk (SI N) Tryz.prog gls cFormat := by
  refine COk.lib rfl rfl fun g w xs hso hG hm ha hp => ?_
  obtain ⟨env, φ, nb⟩ := g
  obtain ⟨n, rfl⟩ := env1 hso
  obtain ⟨x, y, rfl, ⟨n1, h1, rfl⟩, ⟨n2, h2, rfl⟩⟩ := rels2 ha
  obtain rfl : n = n1 := D.i.inj (Option.some.inj h1)
  obtain rfl : 10 = n2 := D.i.inj (Option.some.inj h2)
  obtain ⟨m, hm1, hr⟩ := hp _ (List.mem_singleton.2 rfl)
  obtain rfl : n = m := D.i.inj (Option.some.inj hm1)
  have htab : Lib.TabIs Tryz.prog w "internal/strconv.uint64pow10" .u64 Lib.pow10Tab := by
    obtain ⟨_, _, c, T, fr, hh, _, _, hf, _⟩ := hG { g := 1, k := .int .u64, l := pow10, full := true } (by simp [gls])
    have hc := hf rfl
    have gname : Tryz.prog.globalNamed "internal/strconv.uint64pow10" = some 1 := by kernel_rfl
    have hh : w.heap[1]? = some (.cells c T fr) := hh
    unfold Lib.TabIs World.var?
    rw [gname]
    simp only [Option.bind_some, hh, hc]
    rfl
  have h : Calls Tryz.prog 71 #[.int .i64 n, .int .i64 10] w _ := Any.strconv_FormatInt_10 Tryz.laysM173 n hr.1 hr.2 w htab
  refine h.mono fun e w' he => ?_
  obtain ⟨rfl, k, os, rfl⟩ := he
  refine ⟨_, [.i (senc (Lib.itoa n))], rfl, trivial, ⟨senc (Lib.itoa n), rfl, by rw [sdec_senc]⟩, grow_stays w k os, fun p hp => ?_⟩
  simp only [cFormat, List.mem_singleton] at hp
  subst hp
  exact ⟨_, rfl, rfl⟩

theorem okTrim : COk (SI N) Tryz.prog gls cTrim := by
  refine COk.lib rfl rfl fun g w xs hso hG hm ha hp => ?_
  obtain ⟨env, φ, nb⟩ := g
  obtain ⟨n, m, rfl⟩ := env2 hso
  obtain ⟨x, y, rfl, ⟨n1, h1, rfl⟩, ⟨n2, h2, rfl⟩⟩ := rels2 ha
  obtain rfl : n = n1 := D.i.inj (Option.some.inj h1)
  obtain rfl : m = n2 := D.i.inj (Option.some.inj h2)
  have h : Calls Tryz.prog 74 #[.string ⟨(sdec n).toArray⟩, .string ⟨(sdec m).toArray⟩] w _ := Any.strings_CutPrefix Tryz.lays103 ⟨(sdec n).toArray⟩ ⟨(sdec m).toArray⟩ w
  refine h.mono fun e w' he => ?_
  obtain ⟨rfl, rfl⟩ := he
  refine ⟨_, [.i (trimS n m), .i (hpre n m)], rfl, trivial, ⟨_, rfl, ⟨trimS n m, rfl, ?_⟩, ⟨hpre n m, rfl, ?_⟩, trivial⟩, Stays.refl _, fun p hp => ?_⟩
  · unfold trimS; rw [sdec_senc]
  · unfold hpre
    cases Lib.hasPrefix (sdec n) (sdec m) <;> rfl
  · simp only [cTrim, List.mem_cons, List.not_mem_nil, or_false] at hp
    rcases hp with rfl | rfl
    · exact ⟨_, rfl, rfl⟩
    · exact ⟨_, rfl, rfl⟩

theorem bytes_stays (w : World) (e : TypeId) (s : ByteArray) : Stays w (Lib.bytesWorld w e s) where
  os := rfl
  output := rfl
  size := by rw [Lib.bytesWorld_size]; omega
  block k hk := Lib.bytesWorld_at_old w e s k hk
theorem pint_rng (l : List UInt8) : I64 (pintL l) := by
  unfold pintL
  split
  · rename_i v h
    have := parseIntB_bounds h
    simp at this
    exact ⟨by omega, by omega⟩
  · unfold intSat
    split <;> exact ⟨by simp, by simp⟩
  · exact ⟨by omega, by omega⟩

theorem okPInt : COk (SI N) Tryz.prog gls cPInt := by
  refine COk.lib rfl rfl fun g w xs hso hG hm ha hp => ?_
  obtain ⟨env, φ, nb⟩ := g
  obtain ⟨n, rfl⟩ := env1 hso
  obtain ⟨x, y, z, rfl, ⟨n1, h1, rfl⟩, ⟨n2, h2, rfl⟩, ⟨n3, h3, rfl⟩⟩ := rels3 ha
  obtain rfl : n = n1 := D.i.inj (Option.some.inj h1)
  obtain rfl : 10 = n2 := D.i.inj (Option.some.inj h2)
  obtain rfl : 64 = n3 := D.i.inj (Option.some.inj h3)
  obtain ⟨m, hm1, hr⟩ := hp _ (List.mem_singleton.2 rfl)
  have hlen : (sdec n).length ≤ 1000000 := by
    have hm1 : (if slen n ≤ 1000000 then (1 : Int) else 0) = m := D.i.inj (Option.some.inj hm1)
    unfold slen at hm1
    by_cases h : (((sdec n).length : Nat) : Int) ≤ 1000000
    · omega
    · rw [if_neg h] at hm1; exact absurd hm1.symm hr
  have hsz : (⟨(sdec n).toArray⟩ : ByteArray).size = (sdec n).length := by
    show (sdec n).toArray.size = _
    simp
  have post : ∀ e : Int, e = perrL (sdec n) → ∀ p ∈ cPInt.post, p.den (SI N) ([.i n] ++ [.i (pintL (sdec n)), .i e]) := by
    rintro e rfl p hp
    simp only [cPInt, List.mem_cons, List.not_mem_nil, or_false] at hp
    rcases hp with rfl | rfl | rfl
    · exact ⟨_, rfl, rfl⟩
    · exact ⟨_, rfl, rfl⟩
    · exact ⟨_, rfl, pint_rng _⟩
  cases hc : parseIntB 64 (sdec n) with
  | ok v =>
    have h : Calls Tryz.prog 76 #[.string ⟨(sdec n).toArray⟩, .int .i64 10, .int .i64 64] w _ := Any.strconv_ParseInt_10_at64_ok Tryz.laysC174 ⟨(sdec n).toArray⟩ (by rw [hsz]; omega) v hc w
    refine h.mono fun e w' he => ?_
    obtain ⟨rfl, hw⟩ := he
    have e1 : pintL (sdec n) = v := by unfold pintL; rw [hc]
    have e2 : perrL (sdec n) = 0 := by unfold perrL; rw [hc]
    refine ⟨_, [.i (pintL (sdec n)), .i 0], rfl, trivial, ⟨_, rfl, ⟨pintL (sdec n), rfl, by rw [e1]⟩, ⟨0, rfl, .inl ⟨rfl, rfl⟩⟩, trivial⟩, ?_, post 0 e2.symm⟩
    rcases hw with rfl | ⟨t, rfl⟩
    · exact Stays.refl _
    · exact bytes_stays _ _ _
  | range =>
    obtain ⟨_, _, c, T, fr, hh, _, hi, _⟩ := hG { g := 3, k := .int .i64, l := [], ifc := true } (by simp [gls])
    obtain ⟨ev, hev, hev2⟩ := hi rfl
    have h : Calls Tryz.prog 76 #[.string ⟨(sdec n).toArray⟩, .int .i64 10, .int .i64 64] w _ := Any.strconv_ParseInt_10_at64_range Tryz.laysC174 ⟨(sdec n).toArray⟩ (by rw [hsz]; omega) hc ev w (by rw [← hev]; exact cell_cells hh) hev2
    refine h.mono fun e w' he => ?_
    obtain ⟨M, rfl, _, _, hb⟩ := he
    have e1 : pintL (sdec n) = intSat 64 (sdec n) := by unfold pintL; rw [hc]
    have e2 : perrL (sdec n) = 1 := by unfold perrL; rw [hc]
    exact ⟨_, [.i (pintL (sdec n)), .i 1], rfl, trivial, ⟨_, rfl, ⟨pintL (sdec n), rfl, by rw [e1]⟩, ⟨1, rfl, .inr ⟨by decide, _, _, rfl⟩⟩, trivial⟩, Stays.below hb, post 1 e2.symm⟩
  | _ =>
    obtain ⟨_, _, c, T, fr, hh, _, hi, _⟩ := hG { g := 2, k := .int .i64, l := [], ifc := true } (by simp [gls])
    obtain ⟨ev, hev, hev2⟩ := hi rfl
    have h : Calls Tryz.prog 76 #[.string ⟨(sdec n).toArray⟩, .int .i64 10, .int .i64 64] w _ := Any.strconv_ParseInt_10_at64_syntax Tryz.laysC174 ⟨(sdec n).toArray⟩ (by rw [hsz]; omega) hc ev w (by rw [← hev]; exact cell_cells hh) hev2
    refine h.mono fun e w' he => ?_
    obtain ⟨M, rfl, _, _, hb⟩ := he
    have e1 : pintL (sdec n) = 0 := by unfold pintL; rw [hc]
    have e2 : perrL (sdec n) = 1 := by unfold perrL; rw [hc]
    exact ⟨_, [.i (pintL (sdec n)), .i 1], rfl, trivial, ⟨_, rfl, ⟨pintL (sdec n), rfl, by rw [e1]⟩, ⟨1, rfl, .inr ⟨by decide, _, _, rfl⟩⟩, trivial⟩, Stays.below hb, post 1 e2.symm⟩

theorem okSplit : COk (SI N) Tryz.prog gls cSplit := by
  refine COk.libF rfl rfl fun g w xs hso hG hm ha hp hnb => ?_
  obtain ⟨env, φ, nb⟩ := g
  obtain ⟨n, m, rfl⟩ := env2 hso
  obtain ⟨x, y, rfl, ⟨n1, h1, rfl⟩, ⟨n2, h2, rfl⟩⟩ := rels2 ha
  obtain rfl : n = n1 := D.i.inj (Option.some.inj h1)
  obtain rfl : m = n2 := D.i.inj (Option.some.inj h2)
  have le : ∀ {a b k : Int}, (if a ≤ b then (1 : Int) else 0) = k → k ≠ 0 → a ≤ b := fun {a b k} h h0 => by
    by_cases hab : a ≤ b
    · exact hab
    · rw [if_neg hab] at h; exact absurd h.symm h0
  have hl1 : (sdec n).length ≤ 1000000 := by
    obtain ⟨k, hk, hk0⟩ := hp _ (List.mem_cons_self ..)
    have : slen n ≤ 1000000 := le (D.i.inj (Option.some.inj hk)) hk0
    unfold slen at this
    omega
  have hl2 : 1 ≤ (sdec m).length := by
    obtain ⟨k, hk, hk0⟩ := hp _ (List.mem_cons_of_mem _ (List.mem_cons_self ..))
    have : 1 ≤ slen m := le (D.i.inj (Option.some.inj hk)) hk0
    unfold slen at this
    omega
  obtain ⟨_, _, c, T, fr, hh, _, _, _, hi⟩ := hG { g := 0, k := .int .i64, l := [], ity := true } (by simp [gls])
  obtain ⟨mv, hmv⟩ := hi rfl
  have hsz : ∀ l : List UInt8, (⟨l.toArray⟩ : ByteArray).size = l.length := fun l => by
    show l.toArray.size = _
    simp
  have h : Calls Tryz.prog 28 #[.string ⟨(sdec n).toArray⟩, .string ⟨(sdec m).toArray⟩] w _ := Any.strings_Split Tryz.lays146 (by kernel_rfl) ⟨(sdec n).toArray⟩ ⟨(sdec m).toArray⟩ mv w (by rw [hsz]; omega)
    (by rw [← hmv]; exact cell_cells hh) (by rw [hsz]; exact hl2)
  have hdata := splitB_data ⟨(sdec m).toArray⟩ 0 (Lib.countB ⟨(sdec n).toArray⟩ ⟨(sdec m).toArray⟩) ⟨(sdec n).toArray⟩
  have hall := splitB_all ⟨(sdec m).toArray⟩ (by rw [hsz]; exact hl2) 0 _ ⟨(sdec n).toArray⟩ rfl
  have hsplit : (splitB ⟨(sdec m).toArray⟩ 0 (Lib.countB ⟨(sdec n).toArray⟩ ⟨(sdec m).toArray⟩) ⟨(sdec n).toArray⟩).map (·.data.toList) = Lib.split (sdec n) (sdec m) := hdata
  have hlen : (Lib.split (sdec n) (sdec m)).length = Lib.countB ⟨(sdec n).toArray⟩ ⟨(sdec m).toArray⟩ + 1 := by rw [← hsplit, List.length_map, hall]
  generalize splitB ⟨(sdec m).toArray⟩ 0 (Lib.countB ⟨(sdec n).toArray⟩ ⟨(sdec m).toArray⟩) ⟨(sdec n).toArray⟩ = L at h hsplit hall
  generalize Lib.countB ⟨(sdec n).toArray⟩ ⟨(sdec m).toArray⟩ = q at h hall hlen
  refine h.mono fun e w' he => ?_
  obtain ⟨rfl, rfl⟩ := he
  have hN : splN n m = ((q + 1 : Nat) : Int) := by unfold splN; rw [hlen]
  have hLl : L.length = q + 1 := hall
  let p : PB := { blk := w.heap.size, base := 0, tot := q + 1 }
  let g1 : G := (G.vars ⟨[.i n, .i m], φ, nb⟩ [.t (splT n m), .i (splN n m)]).lay (some p)
  have hφ : g1.φ nb = some p := by simp [g1, G.lay, G.vars]
  refine ⟨_, [.t (splT n m), .i (splN n m)], .cells (L.map Value.string).toArray 9, p, w, rfl, trivial, Stays.refl _, rfl, rfl, ?_, ?_, fun p hp => ?_⟩
  · refine ⟨0, splN n m, rfl, rfl, by omega, by rw [hN]; omega, .inl ⟨p, q + 1, ?_, ?_, by rw [hN]; omega, by simp [p]⟩⟩
    · have : nb = 0 := hnb
      subst this
      exact hφ
    · rw [hN]
      simp [p]
  · refine ⟨splT n m, splN n m, rfl, rfl, by rw [hN]; omega, .inl ⟨p, (L.map Value.string).toArray, 9, (0, 0), hφ, ?_, ?_, ?_⟩⟩
    · show (w.heap.push _)[w.heap.size]? = _
      exact Array.getElem?_push_size
    · intro r j k hr hk
      have hj : j = 0 ∧ k = .str := by
        cases j with
        | zero => simp [sK] at hk; exact ⟨rfl, hk.symm⟩
        | succ j => simp [sK] at hk
      obtain ⟨rfl, rfl⟩ := hj
      rw [hN] at hr
      have hr' : r < L.length := by omega
      have hs : (Lib.split (sdec n) (sdec m))[r]? = some (L[r].data.toList) := by rw [← hsplit, List.getElem?_map, List.getElem?_eq_getElem hr']; rfl
      have e0 : p.base + r * sK.length + 0 = r := by simp [p, sK]
      rw [e0, List.getElem?_toArray, List.getElem?_map, List.getElem?_eq_getElem hr']
      show some (Value.string L[r]) = some (.string ⟨(sdec (splT n m r 0)).toArray⟩)
      unfold splT
      rw [sdec_senc, List.getD_eq_getElem?_getD, Int.toNat_natCast, hs]
      simp
    · intro _
      refine ⟨.inl rfl, by simp [p, hLl], ?_⟩
      rw [hN]
      simp [p, sK]
  · simp only [cSplit, List.mem_cons, List.not_mem_nil, or_false] at hp
    rcases hp with rfl | rfl | rfl
    · exact ⟨_, rfl, rfl⟩
    · exact ⟨_, rfl, rfl⟩
    · refine ⟨if 1 ≤ splN n m then 1 else 0, rfl, ?_⟩
      rw [hN, if_pos (by omega)]; decide

theorem join_len (sep : List UInt8) : ∀ l : List (List UInt8), (∀ w ∈ l, w.length ≤ 1000) → sep.length ≤ 1000 → (Lib.join l sep).length ≤ 2000 * l.length
  | [], _, _ => by simp [Lib.join, List.intercalate]
  | [w], h, _ => by
    have := h w (by simp)
    simp [Lib.join, List.intercalate]
    omega
  | w :: x :: l, h, hs => by
    have h1 := h w (by simp)
    have h2 := join_len sep (x :: l) (fun v hv => h v (by simp [hv])) hs
    have e : Lib.join (w :: x :: l) sep = w ++ sep ++ Lib.join (x :: l) sep := by
      simp [Lib.join, List.intercalate, List.intersperse]
    rw [e]
    simp only [List.length_append, List.length_cons] at h2 ⊢
    omega
theorem okJoin : COk (SI N) Tryz.prog gls cJoin := by
  refine COk.lib rfl rfl fun g w xs hso hG hm ha hp => ?_
  obtain ⟨env, φ, nb⟩ := g
  obtain ⟨T, n, m, rfl⟩ := env3 hso
  obtain ⟨x, y, rfl, hx, ⟨n2, h2, rfl⟩⟩ := rels2 ha
  obtain rfl : m = n2 := D.i.inj (Option.some.inj h2)
  obtain ⟨l0, n1, hl0, hn1, _, hn0, hx⟩ := hx
  obtain rfl : 0 = l0 := D.i.inj (Option.some.inj hl0)
  obtain rfl : n = n1 := D.i.inj (Option.some.inj hn1)
  obtain ⟨ds, hds, hS⟩ := hp _ (List.mem_cons_of_mem _ (List.mem_cons_self ..))
  have hds : [D.t T, .i n, .i m] = ds := Option.some.inj hds
  subst hds
  have hS : Short T n m := hS
  have post : ∀ p ∈ cJoin.post, p.den (SI N) ([.t T, .i n, .i m] ++ [.i (joinS T n m)]) := fun p hp => by
    simp only [cJoin, List.mem_singleton] at hp
    subst hp
    exact ⟨_, rfl, rfl⟩
  rcases hx with ⟨p, cap, hφ, rfl, hcap, htot⟩ | ⟨_, hz, ad, rfl⟩
  · have hb := hm.blk 0 _ rfl
    obtain ⟨f, k, hf, hk, _, hcase⟩ := hb
    obtain rfl : T = f := D.t.inj (Option.some.inj hf)
    obtain rfl : n = k := D.i.inj (Option.some.inj hk)
    have hφ : φ 0 = some p := hφ
    rcases hcase with ⟨p', c, Ty, fr, hφ', hh, hc, _⟩ | ⟨_, _, hnone⟩
    · obtain rfl : p = p' := Option.some.inj (hφ.symm.trans hφ')
      let ts : List ByteArray := (List.range n.toNat).map fun r : Nat => ⟨(sdec (T (r : Int) 0)).toArray⟩
      have hts : ts.length = n.toNat := by simp [ts]
      have hmap : ts.map (·.data.toList) = (List.range n.toNat).map fun r : Nat => sdec (T (r : Int) 0) := by simp [ts]
      have hcells : ∀ (j : Nat) b, ts[j]? = some b → w.cell? ⟨p.blk, (p.base + (0 : Int).toNat * 1) + j, none⟩ = some (.string b) := fun j b hj => by
        have hjl : j < n.toNat := by rw [← hts]; exact (List.getElem?_eq_some_iff.1 hj).1
        have e := hc j 0 .str hjl rfl
        rw [cell_cells hh]
        have e0 : p.base + (0 : Int).toNat * 1 + j = p.base + j * sK.length + 0 := by simp [sK]
        rw [e0, e]
        simp only [ts, List.getElem?_map, List.getElem?_range hjl, Option.map_some, Option.some.injEq] at hj
        subst hj
        rfl
      have hjl := join_len (sdec m) (ts.map (·.data.toList)) (fun v hv => by
        rw [hmap] at hv
        obtain ⟨r, hr, rfl⟩ := List.mem_map.1 hv
        have := hS.2.2 r (by have := List.mem_range.1 hr; omega)
        unfold slen at this
        omega) (by have := hS.2.1; unfold slen at this; omega)
      have hn1000 := hS.1
      rw [List.length_map, hts] at hjl
      have h : Calls Tryz.prog 24 #[.slice (some ⟨p.blk, p.base + (0 : Int).toNat * 1, none⟩) ts.length cap, .string ⟨(sdec m).toArray⟩] w _ :=
        Any.strings_Join Tryz.lays156 Tryz.Builder_Extra_156 p.blk (p.base + (0 : Int).toNat * 1) cap ts ⟨(sdec m).toArray⟩ w hcells (hm.bnd 0 p hφ) (by rw [hts]; omega) (by rw [hts]; exact hcap) (by show (Lib.join _ (sdec m)).length ≤ _; omega)
      rw [hts] at h
      refine h.mono fun e w' he => ?_
      obtain ⟨rfl, hb⟩ := he
      refine ⟨_, [.i (joinS T n m)], rfl, trivial, ⟨joinS T n m, rfl, ?_⟩, Stays.below hb, post⟩
      unfold joinS
      rw [sdec_senc, hmap]
    · have hnone : φ 0 = none := hnone
      rw [hφ] at hnone; cases hnone
  · subst hz
    have h : Calls Tryz.prog 24 #[.slice ad 0 0, .string ⟨(sdec m).toArray⟩] w _ := Any.strings_Join_none Tryz.lays156 Tryz.Builder_Extra_156 ad 0 ⟨(sdec m).toArray⟩ w
    refine h.mono fun e w' he => ?_
    obtain ⟨rfl, rfl⟩ := he
    refine ⟨_, [.i (joinS T 0 m)], rfl, trivial, ⟨joinS T 0 m, rfl, ?_⟩, Stays.refl _, post⟩
    unfold joinS
    rw [sdec_senc]
    simp [Lib.join, List.intercalate]
end Go.Sf
