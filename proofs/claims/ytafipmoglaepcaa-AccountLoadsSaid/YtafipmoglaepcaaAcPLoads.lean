/-
  AccountLoads returns true for each state and each call, and its arguments read as they did. Conditions: none.
-/
import Derived.Test.YtafipmoglaepcaaAcFrame
import Derived.Test.YtafipmoglaepcaaAcOk5
import Derived.WalkKit
import Derived.ProofKit
import Derived.OpenShut
namespace Go.Proofs.Ytafipmoglaepcaa.accountLoads
open Go.ChangeShapes Go.WideShapes Go.ChangeAt Go.RowKit Go.Joins Go.Sx Go.Deep Ac

theorem cells50 : Try.prog.cellsOf 50 = 5 := by kernel_rfl
theorem cells39 : Try.prog.cellsOf 39 = 1 := by kernel_rfl
theorem cells37 : Try.prog.cellsOf 37 = 1 := by kernel_rfl
theorem cells4 : Try.prog.cellsOf 4 = 1 := by kernel_rfl
theorem types39 : Try.prog.cellTypes Try.prog.depth 39 = some [37] := by kernel_rfl
theorem reads39 : Try.prog.readableRec 39 = true ∧ 39 < Try.prog.types.size := ⟨by kernel_rfl, of_decide_eq_true (by kernel_rfl)⟩

variable {H : Type} {enc : TypeId × Value → H} {W : World} {base : Nat}

theorem trod_struct5 {P : Program} {w : World} {base : Nat} {spare : Nat → Bool} {held : Bool} {t : TypeId} {f0 f1 f2 f3 f4 : Field} {fuel : Nat} {cs : List Value} {x : DataW H × List MemPlace} (ht : P.underlying t = some (.struct #[f0, f1, f2, f3, f4])) (h : DataW.trod enc P w base spare held fuel t cs = some x) :
    ∃ y0 y1 y2 y3 y4 n, cs.length = P.cellsOf t ∧ DataW.trod enc P w base spare held n f0.type ((cs.drop f0.offset).take (P.cellsOf f0.type)) = some y0 ∧
      DataW.trod enc P w base spare held n f1.type ((cs.drop f1.offset).take (P.cellsOf f1.type)) = some y1 ∧ DataW.trod enc P w base spare held n f2.type ((cs.drop f2.offset).take (P.cellsOf f2.type)) = some y2 ∧
      DataW.trod enc P w base spare held n f3.type ((cs.drop f3.offset).take (P.cellsOf f3.type)) = some y3 ∧ DataW.trod enc P w base spare held n f4.type ((cs.drop f4.offset).take (P.cellsOf f4.type)) = some y4 := by
  obtain ⟨xs, n, _, rfl, hl, hlen, hf⟩ := DataW.trod_struct ht h
  match xs, hlen with
  | [y0, y1, y2, y3, y4], _ => exact ⟨y0, y1, y2, y3, y4, n, hl, by simpa using hf 0 f0 rfl, by simpa using hf 1 f1 rfl, by simpa using hf 2 f2 rfl, by simpa using hf 3 f3 rfl, by simpa using hf 4 f4 rfl⟩

theorem list5 {α : Type} {l : List α} (h : l.length = 5) : ∃ a b c d e, l = [a, b, c, d, e] := by
  rcases l with _ | ⟨a, _ | ⟨b, _ | ⟨c, _ | ⟨d, _ | ⟨e, _ | ⟨f, l⟩⟩⟩⟩⟩⟩
  · cases h
  · cases h
  · cases h
  · cases h
  · cases h
  · exact ⟨a, b, c, d, e, rfl⟩
  · simp only [List.length_cons] at h; omega

/-- A list of nodes, as it lies in memory. -/
inductive NodesV (W : World) : Value → Int → Tb → Prop
  | none : NodesV W (.slice none 0 0) 0 (fun _ _ => 0)
  | some (b off len cap : Nat) (c : Array Value) (T : TypeId) (fr : Nat × Nat) (f : Tb) (hl : len ≤ cap) (hb : W.heap[b]? = some (.cells c T fr))
      (hc : ∀ r j : Nat, ∀ k : CK, r < len → stateK[j]? = some k → c[off + r * 5 + j]? = some (k.val (f r j))) : NodesV W (.slice (some ⟨b, off, none⟩) len cap) len f

theorem nodes_open {r : Reach} {b0 : Nat} {v : Value} {d : DataW H} {p : List MemPlace} (hv0 : Value.okWide Try.prog W r b0 39 v) (h : DataW.Trod enc Try.prog W base (fun _ => true) true 39 v d p) :
    ∃ (x : Value) (m : Int) (L : Tb), v = .agg #[x] ∧ NodesV W x m L ∧ GivenR L m := by
  obtain ⟨fuel, hf⟩ := h
  simp only [Value.okWide, Try.underlying39] at hv0
  obtain ⟨cs, rfl, hsz, ts, ht, _, hrow⟩ := hv0
  rw [types39] at ht
  cases ht
  obtain ⟨l⟩ := cs
  rw [cells39] at hsz
  match l, hsz with
  | [x], _ =>
  obtain ⟨u, hu, hv⟩ := hrow 0 x rfl
  simp at hu
  subst hu
  simp only [Cell.okWide, Try.underlying37] at hv
  refine ⟨x, ?_⟩
  obtain ⟨y0, n0, _, _, g⟩ := trod_struct1 Try.underlying39 hf
  simp only [cells37, Value.cells, List.drop_zero, List.take_succ_cons, List.take_zero] at g
  rcases open_slice Try.underlying37 g with ⟨hc, _⟩ | ⟨a, len, cap, m, n, D, Pl, hc, _, hl, _, hm, _, hx⟩
  · simp at hc
    subst hc
    exact ⟨0, _, rfl, .none, ⟨Int.le_refl _, fun k a b => by omega⟩⟩
  · simp at hc
    subst hc
    simp only [Cell.ok, Try.underlying37] at hv
    obtain ⟨_, _, _, hspot, row, cells, hshape, _⟩ := hv
    have hblk : ∃ c T fr, W.heap[a.block]? = some (.cells c T fr) := by
      unfold World.shape? at hshape
      split at hshape
      · rename_i c T fr hb; exact ⟨c, T, fr, hb⟩
      · cases hshape
    obtain ⟨c, T, fr, hb⟩ := hblk
    obtain ⟨blk, off, spot⟩ := a
    simp only at hspot hb
    subst hspot
    simp only [if_true] at hm
    subst hm
    have each : ∀ i, i < len → ∃ q : Int × Int × Int × Int × Bool, c[off + i * 5 + 0]? = some (.int .i64 q.1) ∧ c[off + i * 5 + 1]? = some (.int .i64 q.2.1) ∧ c[off + i * 5 + 2]? = some (.int .i64 q.2.2.1) ∧ c[off + i * 5 + 3]? = some (.int .i64 q.2.2.2.1) ∧ c[off + i * 5 + 4]? = some (.bool q.2.2.2.2) := by
      intro i hi
      obtain ⟨cs', h1, h2⟩ := hx i (by omega)
      rw [cells50] at h1
      obtain ⟨_, hlen, hcell⟩ := World.cells?_some h1
      obtain ⟨y0, y1, y2, y3, y4, k, _, g0, g1, g2, g3, g4⟩ := trod_struct5 Try.underlying50 h2
      have cell : ∀ j, j < 5 → cs'[j]? = c[off + i * 5 + j]? := fun j hj => by
        rw [← hcell j hj, add_add]
        unfold Addr.add World.cell?
        by_cases z : i * 5 + j = 0
        · rw [if_pos z]; simp only [hb, Option.isSome_none]; simp [show off + i * 5 + j = off by omega]
        · rw [if_neg z]; simp only [hb, Option.isSome_none]; simp [Nat.add_assoc]
      obtain ⟨v0, v1, v2, v3, v4, rfl⟩ := list5 hlen
      · simp only [cells3, cells4] at g0 g1 g2 g3 g4
        obtain ⟨k0, e0, _, w0⟩ := DataW.trod_int Try.underlying3 g0
        obtain ⟨k1, e1, _, w1⟩ := DataW.trod_int Try.underlying3 g1
        obtain ⟨k2, e2, _, w2⟩ := DataW.trod_int Try.underlying3 g2
        obtain ⟨k3, e3, _, w3⟩ := DataW.trod_int Try.underlying3 g3
        obtain ⟨k4, e4, _⟩ := DataW.trod_bool Try.underlying4 g4
        simp at e0 e1 e2 e3 e4
        subst e0 e1 e2 e3 e4
        refine ⟨(k0, k1, k2, k3, k4), ?_, ?_, ?_, ?_, ?_⟩
        · rw [← cell 0 (by omega)]; rfl
        · rw [← cell 1 (by omega)]; rfl
        · rw [← cell 2 (by omega)]; rfl
        · rw [← cell 3 (by omega)]; rfl
        · rw [← cell 4 (by omega)]; rfl
    obtain ⟨q, hq⟩ := choose_lt each
    refine ⟨len, fun r j => if j = 0 then (q r.toNat).1 else if j = 1 then (q r.toNat).2.1 else if j = 2 then (q r.toNat).2.2.1 else if j = 3 then (q r.toNat).2.2.2.1 else if (q r.toNat).2.2.2.2 then 1 else 0, rfl, .some blk off len m c T fr _ hl hb ?_, ⟨by omega, fun k k0 k1 => ?_⟩⟩
    · intro r j kk hr hj
      have h3 : j < 5 := by
        have := (List.getElem?_eq_some_iff.1 hj).1
        simpa [stateK] using this
      obtain ⟨a0, a1, a2, a3, a4⟩ := hq r hr
      match j, h3 with
      | 0, _ => simp [stateK] at hj; subst hj; simpa [CK.val] using a0
      | 1, _ => simp [stateK] at hj; subst hj; simpa [CK.val] using a1
      | 2, _ => simp [stateK] at hj; subst hj; simpa [CK.val] using a2
      | 3, _ => simp [stateK] at hj; subst hj; simpa [CK.val] using a3
      | 4, _ => simp [stateK] at hj; subst hj; rw [a4]; cases h5 : (q r).2.2.2.2 <;> simp [CK.val, h5]
    · cases (q k.toNat).2.2.2.2 <;> simp

/-- The symbolic state of the law's start. -/
theorem nodes_rel {v : Value} {m : Int} {L : Tb} (h : NodesV W v m L) (I : Itp) (P : Program) (A : Amb) (hA : A.w0 = W) (env : List D) (iL im : Nat) (hL : env[iL]? = some (.t L)) (hm : env[im]? = some (.i m)) :
    ∃ g : G, g.env = env ∧ g.nb = 1 ∧ MRel A I P g [(0, inB (.var iL) (.var im))] W ∧ Rel I g (.slice 0 (.lit 0) (.var im) 5 true) v := by
  cases h with
  | none =>
    refine ⟨{ env := env, φ := fun _ => none, nb := 1 }, rfl, rfl, ?_, ?_⟩
    · refine ⟨fun _ _ => rfl, fun b x hb => ?_, fun b x hb => ?_, fun b c x y p q _ _ hp => by simp at hp, fun b p hp => by simp at hp, fun b x p _ _ hp => by simp at hp, by rw [hA]; exact Nat.le_refl _, fun i _ _ => by rw [hA], by rw [hA]; exact ⟨rfl, rfl⟩⟩
      · simp only [Sx.get] at hb
        split at hb
        · rename_i e; subst e; cases hb
          exact ⟨_, 0, hL, hm, Int.le_refl _, .inr ⟨rfl, rfl, rfl⟩⟩
        · cases hb
      · simp only [Sx.get] at hb
        split at hb
        · rename_i e; subst e; exact Nat.zero_lt_one
        · cases hb
    · exact ⟨0, 0, rfl, hm, Int.le_refl _, Int.le_refl _, .inr ⟨rfl, rfl, rfl⟩⟩
  | some b off len cap c T fr f hl hb hc =>
    let p : PB := { blk := b, base := off, tot := cap }
    have hlt : b < W.heap.size := (Array.getElem?_eq_some_iff.1 hb).1
    refine ⟨{ env := env, φ := fun x => if x = 0 then Option.some p else Option.none, nb := 1 }, rfl, rfl, ?_, ?_⟩
    · refine ⟨fun x hx => if_neg (by simp at hx; omega), fun x y hx => ?_, fun x y hx => ?_, fun x y z z' q q' hx hy _ _ _ => ?_, fun x q hq => ?_, fun x y q hx hw _ => ?_, by rw [hA]; exact Nat.le_refl _, fun i _ _ => by rw [hA], by rw [hA]; exact ⟨rfl, rfl⟩⟩
      · simp only [Sx.get] at hx
        split at hx
        · rename_i e; subst e; cases hx
          refine ⟨_, _, hL, hm, by omega, .inl ⟨p, c, T, fr, rfl, hb, fun r j k hr hj => ?_, fun h => by cases h⟩⟩
          exact hc r j k (by omega) hj
        · cases hx
      · simp only [Sx.get] at hx
        split at hx
        · rename_i e; subst e; exact Nat.zero_lt_one
        · cases hx
      · simp only [Sx.get] at hx hy
        split at hx
        · split at hy
          · omega
          · cases hy
        · cases hx
      · simp only at hq
        split at hq
        · cases hq; exact hlt
        · cases hq
      · simp only [Sx.get] at hx
        split at hx
        · cases hx; cases hw
        · cases hx
    · exact ⟨0, len, rfl, hm, Int.le_refl _, by omega, .inl ⟨p, cap, rfl, rfl, by omega, by show 0 + cap ≤ cap; omega⟩⟩

theorem loads_call1 {e : PE} (h : COk (J 65) Try.prog (cLoads e)) {m k a b : Int} {R : Tb} {v : Value} (hv : NodesV W v m R) (hg : GivenR R m) (he : ∀ x y z, e.den (J 65) [.t R, .i m, x, y, z])
    (h1 : 0 ≤ k ∧ k ≤ 255) (h2 : -9223372036854775808 ≤ a ∧ a ≤ 9223372036854775807) (h3 : -9223372036854775808 ≤ b ∧ b ≤ 9223372036854775807) :
    Calls Try.prog 10 #[.agg #[v], .agg #[.int .u8 k, .int .i64 a, .int .i64 b]] W fun e w' => e = .returned (.bool true) ∧ Kept W w' := by
  have hX : ∀ g i, ¬ ((cLoads e).amb g W).X i := by
    rintro g i ⟨b, x, p, h1, h2, _⟩
    simp only [cLoads, Sx.get] at h1
    split at h1
    · cases h1; cases h2
    · cases h1
  obtain ⟨g, e1, e2, hm, hr⟩ := nodes_rel hv (J 65) Try.prog { w0 := W, X := fun _ => False, base := fun _ => True, hb := fun _ _ => trivial } rfl [.t R, .i m, .i k, .i a, .i b] 0 1 rfl rfl
  have hm' : MRel ((cLoads e).amb g W) (J 65) Try.prog g (cLoads e).mem W :=
    ⟨hm.wf, hm.blk, hm.lt, hm.inj, hm.bnd, fun b x p hb hw hp => by
      rcases hm.own b x p hb hw hp with q | q
      · exact q.elim
      · exact .inr q, hm.size, fun i hi _ => hm.keep i hi (fun q => q), hm.same⟩
  have := h g W [.agg #[v], .agg #[.int .u8 k, .int .i64 a, .int .i64 b]] (by rw [e1]; exact trivial) e2 hm' ⟨⟨#[v], rfl, hr, trivial⟩, ⟨_, rfl, ⟨k, by rw [e1]; rfl, rfl⟩, ⟨a, by rw [e1]; rfl, rfl⟩, ⟨b, by rw [e1]; rfl, rfl⟩, trivial⟩, trivial⟩ (fun p hp => by
    rw [e1]
    simp only [cLoads, List.mem_cons, List.not_mem_nil, or_false] at hp
    rcases hp with rfl | rfl | rfl | rfl | rfl
    · exact ⟨[.t R, .i m], rfl, hg⟩
    · exact he _ _ _
    · exact ⟨k, rfl, h1⟩
    · exact ⟨a, rfl, h2⟩
    · exact ⟨b, rfl, h3⟩)
  refine this.mono fun e w' he => ?_
  obtain ⟨x, outs, g', rfl, _, _, _, _, ⟨n, hn, rfl⟩, h6, _⟩ := he
  simp only [E.den, Option.some.injEq, D.i.injEq] at hn
  subst hn
  exact ⟨rfl, h6.same.1, h6.same.2, h6.size, fun i hi => h6.keep i hi (hX g i)⟩
theorem loads_call {m k a b : Int} {R : Tb} {v : Value} (hv : NodesV W v m R) (hg : GivenR R m)
    (h1 : 0 ≤ k ∧ k ≤ 255) (h2 : -9223372036854775808 ≤ a ∧ a ≤ 9223372036854775807) (h3 : -9223372036854775808 ≤ b ∧ b ≤ 9223372036854775807) :
    Calls Try.prog 10 #[.agg #[v], .agg #[.int .u8 k, .int .i64 a, .int .i64 b]] W fun e w' => e = .returned (.bool true) ∧ Kept W w' := by
  by_cases hr : RightR R m
  · exact loads_call1 okLLoadsOk hv hg (fun _ _ _ => ⟨[.t R, .i m], rfl, hr⟩) h1 h2 h3
  · exact loads_call1 okLLoadsBad hv hg (fun _ _ _ => ⟨[.t R, .i m], rfl, hr⟩) h1 h2 h3
theorem reads : ∀ t ∈ ([39, 32] : List TypeId), Try.prog.readableRec t = true ∧ t < Try.prog.types.size := by
  intro t ht
  simp only [List.mem_cons, List.not_mem_nil, or_false] at ht
  rcases ht with rfl | rfl
  · exact reads39
  · exact reads32

set_option maxRecDepth 100000 in
theorem lifted (os : Os) (started : os.Started) (H : Type) (enc : TypeId × Value → H) :
    ReturnsInHanded {} Try.checked os 10 .any (Rows.accountLoadsSpec.pre6 enc Try.prog Try.f10 Rows.accountLoadsRow.domain false) (Rows.accountLoadsSpec.post enc Try.prog Try.f10 false true false false) := by
  refine returnsInHanded_of_change (C := Try.checked) own started (by kernel_rfl) Try.func10
    (ChangeSpec.witness6 (enc := enc) (C := Try.checked) false ⟨#[], #[.agg #[.slice none 0 0], .agg #[.int .u8 0, .int .i64 0, .int .i64 0]], []⟩ 8 (by kernel_rfl) (by kernel_rfl) (by kernel_rfl) (by kernel_rfl)) ?_
  intro W base args ds gs before hval0 hW hcnd _
  have hval : ∀ (j : Nat) t v, Try.f10.params[j]? = some t → args[j]? = some v → Value.okWide Try.prog W .any base t v := hval0
  have hW' := hW
  obtain ⟨p, q, hA0, hV, rfl, hfz, hnd⟩ := hW
  have hA : DataW.TrodAll enc Try.prog W 0 (fun _ => true) true Try.f10.params.toList args.toList ds p := hA0
  rw [Try.params10] at hA hval
  obtain ⟨v0, v1, d0, d1, p0, p1, rfl, rfl, rfl, h0, h1⟩ := trodAll_two hA
  obtain ⟨rfl, rfl⟩ := trodVars_none hV
  obtain ⟨x, m, R, rfl, hv, hg⟩ := nodes_open (hval 0 39 v0 rfl rfl) h0
  obtain ⟨c0, c1, c2, y0, y1, y2, m', rfl, rfl, rfl, hy0, hy1, hy2⟩ := open_agg3 Try.underlying32 (by kernel_rfl) cells32 (hval 1 32 v1 rfl rfl) h1
  obtain ⟨k, e0, rfl, wk⟩ := DataW.trod_int Try.underlying5 hy0
  obtain ⟨a, e1, rfl, wa⟩ := DataW.trod_int Try.underlying3 hy1
  obtain ⟨b, e2, rfl, wb⟩ := DataW.trod_int Try.underlying3 hy2
  simp at e0 e1 e2
  subst e0 e1 e2
  refine (loads_call hv hg (wf_u8 wk) (wf_i64 wa) (wf_i64 wb)).mono fun e W' ⟨he, hk⟩ => ?_
  subst he
  exact ⟨_, rfl, law_post laidOut (by kernel_rfl) Try.underlying4 rfl (by rw [Try.params10]; exact reads) rfl rfl rfl hW' hk⟩

/-- **The statement.** -/
theorem proved : Rows.AccountLoadsSaid :=
  OpenClaim.holds_of_wide 10 Try.f10 rfl rfl rfl rfl rfl rfl rfl ⟨rfl, rfl, rfl, rfl, rfl⟩ rfl rfl rfl rfl rfl (by kernel_rfl) Try.func10 (by kernel_rfl)
    (of_decide_eq_true (by kernel_rfl)) (by unfold Func.isWrapper; first | (rw [if_pos (by decide +kernel)]; kernel_rfl) | (rw [if_neg (by decide +kernel)]; exact ⟨rfl, rfl⟩))
    (fun os started H enc _ => lifted os started H enc)
#print axioms proved
end Go.Proofs.Ytafipmoglaepcaa.accountLoads
