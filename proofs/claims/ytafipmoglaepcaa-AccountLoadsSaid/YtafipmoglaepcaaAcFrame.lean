/-
  The rows of account's laws: a limit, a list of calls, and perhaps one call more: opened, and the call. Conditions: none.
-/
import Derived.Test.YtafipmoglaepcaaRows
import Derived.Test.YtafipmoglaepcaaAcLs
import Derived.Test.YtafipmoglaepcaaAcSem
import Derived.Test.YtafipmoglaepcaaSxRow
import Derived.Lib.SmallJoins
import Derived.Deep.Slices
import Derived.Deep.Strs
namespace Go.Proofs.Ytafipmoglaepcaa.Ac
open Go Go.Sx Go.ChangeShapes Go.WideShapes Go.ChangeAt Go.RowKit Go.Joins Go.Deep

theorem own : ownKnob Try.prog.godebug = none := by kernel_rfl
theorem laidOut : laidOutB Try.prog = true := by kernel_rfl
theorem cells32 : Try.prog.cellsOf 32 = 3 := by kernel_rfl
theorem cells5 : Try.prog.cellsOf 5 = 1 := by kernel_rfl
theorem cells3 : Try.prog.cellsOf 3 = 1 := by kernel_rfl
theorem reads22 : Try.prog.readableRec 22 = true ∧ 22 < Try.prog.types.size := ⟨by kernel_rfl, of_decide_eq_true (by kernel_rfl)⟩
theorem reads23 : Try.prog.readableRec 23 = true ∧ 23 < Try.prog.types.size := ⟨by kernel_rfl, of_decide_eq_true (by kernel_rfl)⟩
theorem reads32 : Try.prog.readableRec 32 = true ∧ 32 < Try.prog.types.size := ⟨by kernel_rfl, of_decide_eq_true (by kernel_rfl)⟩

variable {H : Type} {enc : TypeId × Value → H} {W : World} {base : Nat}

/-- A list of calls, as it lies in memory. -/
inductive ActsV (W : World) : Value → Int → Tb → Prop
  | none : ActsV W (.slice none 0 0) 0 (fun _ _ => 0)
  | some (b off len cap : Nat) (c : Array Value) (T : TypeId) (fr : Nat × Nat) (f : Tb) (hl : len ≤ cap) (hb : W.heap[b]? = some (.cells c T fr))
      (hc : ∀ r j : Nat, ∀ k : CK, r < len → actK[j]? = some k → c[off + r * 3 + j]? = some (k.val (f r j))) : ActsV W (.slice (some ⟨b, off, none⟩) len cap) len f

theorem wf_u8 {k : Int} (h : (Lit.int .u8 k).wf = true) : 0 ≤ k ∧ k ≤ 255 := by
  simp only [Lit.wf, Bool.and_eq_true, decide_eq_true_eq] at h
  simpa [IntKind.min, IntKind.max, IntKind.signed, IntKind.bits] using h
theorem wf_u16 {k : Int} (h : (Lit.int .u16 k).wf = true) : 0 ≤ k ∧ k ≤ 65535 := by
  simp only [Lit.wf, Bool.and_eq_true, decide_eq_true_eq] at h
  simpa [IntKind.min, IntKind.max, IntKind.signed, IntKind.bits] using h
theorem wf_i64 {k : Int} (h : (Lit.int .i64 k).wf = true) : -9223372036854775808 ≤ k ∧ k ≤ 9223372036854775807 := by
  simp only [Lit.wf, Bool.and_eq_true, decide_eq_true_eq] at h
  simpa [IntKind.min, IntKind.max, IntKind.signed, IntKind.bits] using h

theorem acts_open {r : Reach} {b0 : Nat} {v : Value} {d : DataW H} {p : List MemPlace} (hv : Value.okWide Try.prog W r b0 23 v) (h : DataW.Trod enc Try.prog W base (fun _ => true) true 23 v d p) :
    ∃ (m : Int) (L : Tb), ActsV W v m L ∧ ActsIn L m := by
  obtain ⟨fuel, hf⟩ := h
  simp only [Value.okWide, Try.underlying23, Cell.okWide] at hv
  rcases open_slice Try.underlying23 hf with ⟨hc, _⟩ | ⟨a, len, cap, m, n, D, Pl, hc, _, hl, _, hm, _, hx⟩
  · have : v = .slice none 0 0 := by
      cases v <;> simp [Value.cells] at hc <;> simp [hc] <;> try simp [Cell.ok, Try.underlying23] at hv
    subst this
    exact ⟨0, _, .none, by omega, fun k a b => by omega⟩
  · have hv' : v = .slice (some a) len cap := by
      cases v <;> simp [Value.cells] at hc <;> simp [hc] <;> try simp [Cell.ok, Try.underlying23] at hv
    subst hv'
    simp only [Cell.ok, Try.underlying23] at hv
    obtain ⟨_, _, _, hspot, row, cells, hshape, _⟩ := hv
    have hblk : ∃ c T fr, W.heap[a.block]? = some (.cells c T fr) := by
      unfold World.shape? at hshape
      split at hshape
      · rename_i c T fr hb; exact ⟨c, T, fr, hb⟩
      · cases hshape
    obtain ⟨c, T, fr, hb⟩ := hblk
    obtain ⟨blk, off, spot⟩ := a
    simp only at hspot hb
    subst hspot
    simp only [if_true] at hm
    subst hm
    have each : ∀ i, i < len → ∃ q : Int × Int × Int, c[off + i * 3 + 0]? = some (.int .u8 q.1) ∧ c[off + i * 3 + 1]? = some (.int .i64 q.2.1) ∧ c[off + i * 3 + 2]? = some (.int .i64 q.2.2) ∧ 0 ≤ q.1 ∧ q.1 ≤ 255 := by
      intro i hi
      obtain ⟨cs', h1, h2⟩ := hx i (by omega)
      rw [cells32] at h1
      obtain ⟨_, hlen, hcell⟩ := World.cells?_some h1
      obtain ⟨y0, y1, y2, k, _, _, g0, g1, g2⟩ := Deep.trod_struct3 Try.underlying32 h2
      have cell : ∀ j, j < 3 → cs'[j]? = c[off + i * 3 + j]? := fun j hj => by
        rw [← hcell j hj, add_add]
        unfold Addr.add World.cell?
        by_cases z : i * 3 + j = 0
        · rw [if_pos z]; simp only [hb, Option.isSome_none]; simp [show off + i * 3 + j = off by omega]
        · rw [if_neg z]; simp only [hb, Option.isSome_none]; simp [Nat.add_assoc]
      match cs', hlen with
      | [v0, v1, v2], _ =>
        simp only [cells5, cells3] at g0 g1 g2
        obtain ⟨k0, e0, _, w0⟩ := DataW.trod_int Try.underlying5 g0
        obtain ⟨k1, e1, _, w1⟩ := DataW.trod_int Try.underlying3 g1
        obtain ⟨k2, e2, _, w2⟩ := DataW.trod_int Try.underlying3 g2
        simp at e0 e1 e2
        subst e0 e1 e2
        refine ⟨(k0, k1, k2), ?_, ?_, ?_, wf_u8 w0⟩
        · rw [← cell 0 (by omega)]; rfl
        · rw [← cell 1 (by omega)]; rfl
        · rw [← cell 2 (by omega)]; rfl
    obtain ⟨q, hq⟩ := choose_lt each
    refine ⟨len, fun r j => if j = 0 then (q r.toNat).1 else if j = 1 then (q r.toNat).2.1 else (q r.toNat).2.2, .some blk off len m c T fr _ hl hb ?_, ⟨by omega, fun k k0 k1 => ?_⟩⟩
    · intro r j kk hr hj
      have h3 : j < 3 := by
        have := (List.getElem?_eq_some_iff.1 hj).1
        simpa [actK] using this
      obtain ⟨a0, a1, a2, _⟩ := hq r hr
      match j, h3 with
      | 0, _ => simp [actK] at hj; subst hj; simpa [CK.val] using a0
      | 1, _ => simp [actK] at hj; subst hj; simpa [CK.val] using a1
      | 2, _ => simp [actK] at hj; subst hj; simpa [CK.val] using a2
    · have := (hq k.toNat (by omega)).2.2.2
      simpa using this

/-- The symbolic state of a law's start. -/
theorem acts_rel {v : Value} {m : Int} {L : Tb} (h : ActsV W v m L) (I : Itp) (P : Program) (A : Amb) (hA : A.w0 = W) (env : List D) (iL im : Nat) (hL : env[iL]? = some (.t L)) (hm : env[im]? = some (.i m)) :
    ∃ g : G, g.env = env ∧ g.nb = 1 ∧ MRel A I P g [(0, actsB (.var iL) (.var im))] W ∧ Rel I g (.slice 0 (.lit 0) (.var im) 3 true) v := by
  cases h with
  | none =>
    refine ⟨{ env := env, φ := fun _ => none, nb := 1 }, rfl, rfl, ?_, ?_⟩
    · refine ⟨fun _ _ => rfl, fun b x hb => ?_, fun b x hb => ?_, fun b c x y p q _ _ hp => by simp at hp, fun b p hp => by simp at hp, fun b x p _ _ hp => by simp at hp, by rw [hA]; exact Nat.le_refl _, fun i _ _ => by rw [hA], by rw [hA]; exact ⟨rfl, rfl⟩⟩
      · simp only [Sx.get] at hb
        split at hb
        · rename_i e; subst e; cases hb
          exact ⟨_, 0, hL, hm, Int.le_refl _, .inr ⟨rfl, rfl, rfl⟩⟩
        · cases hb
      · simp only [Sx.get] at hb
        split at hb
        · rename_i e; subst e; exact Nat.zero_lt_one
        · cases hb
    · exact ⟨0, 0, rfl, hm, Int.le_refl _, Int.le_refl _, .inr ⟨rfl, rfl, rfl⟩⟩
  | some b off len cap c T fr f hl hb hc =>
    let p : PB := { blk := b, base := off, tot := cap }
    have hlt : b < W.heap.size := (Array.getElem?_eq_some_iff.1 hb).1
    refine ⟨{ env := env, φ := fun x => if x = 0 then Option.some p else Option.none, nb := 1 }, rfl, rfl, ?_, ?_⟩
    · refine ⟨fun x hx => if_neg (by simp at hx; omega), fun x y hx => ?_, fun x y hx => ?_, fun x y z z' q q' hx hy _ _ _ => ?_, fun x q hq => ?_, fun x y q hx hw _ => ?_, by rw [hA]; exact Nat.le_refl _, fun i _ _ => by rw [hA], by rw [hA]; exact ⟨rfl, rfl⟩⟩
      · simp only [Sx.get] at hx
        split at hx
        · rename_i e; subst e; cases hx
          refine ⟨_, _, hL, hm, by omega, .inl ⟨p, c, T, fr, rfl, hb, fun r j k hr hj => ?_, fun h => by cases h⟩⟩
          exact hc r j k (by omega) hj
        · cases hx
      · simp only [Sx.get] at hx
        split at hx
        · rename_i e; subst e; exact Nat.zero_lt_one
        · cases hx
      · simp only [Sx.get] at hx hy
        split at hx
        · split at hy
          · omega
          · cases hy
        · cases hx
      · simp only at hq
        split at hq
        · cases hq; exact hlt
        · cases hq
      · simp only [Sx.get] at hx
        split at hx
        · cases hx; cases hw
        · cases hx
    · exact ⟨0, len, rfl, hm, Int.le_refl _, by omega, .inl ⟨p, cap, rfl, rfl, by omega, by show 0 + cap ≤ cap; omega⟩⟩

theorem law_call {fn : FuncId} (h : COk (J 65) Try.prog (cLaw fn)) {l m : Int} {L : Tb} {v : Value} (hl : 0 ≤ l ∧ l ≤ 65535) (hv : ActsV W v m L) (ha : ActsIn L m) :
    Calls Try.prog fn #[.int .u16 l, v] W fun e w' => e = .returned (.bool true) ∧ Kept W w' := by
  have hX : ∀ g i, ¬ ((cLaw fn).amb g W).X i := by
    rintro g i ⟨b, x, p, h1, h2, _⟩
    simp only [cLaw, Sx.get] at h1
    split at h1
    · cases h1; cases h2
    · cases h1
  obtain ⟨g, e1, e2, hm, hr⟩ := acts_rel hv (J 65) Try.prog { w0 := W, X := fun _ => False, base := fun _ => True, hb := fun _ _ => trivial } rfl [.i l, .t L, .i m] 1 2 rfl rfl
  have hm' : MRel ((cLaw fn).amb g W) (J 65) Try.prog g (cLaw fn).mem W :=
    ⟨hm.wf, hm.blk, hm.lt, hm.inj, hm.bnd, fun b x p hb hw hp => by
      rcases hm.own b x p hb hw hp with q | q
      · exact q.elim
      · exact .inr q, hm.size, fun i hi _ => hm.keep i hi (fun q => q), hm.same⟩
  have := h g W [.int .u16 l, v] (by rw [e1]; exact trivial) e2 hm' ⟨⟨l, by rw [e1]; rfl, rfl⟩, hr, trivial⟩ (fun p hp => by
    rw [e1]
    simp only [cLaw, List.mem_cons, List.not_mem_nil, or_false] at hp
    rcases hp with rfl | rfl
    · exact ⟨l, rfl, hl⟩
    · exact ⟨[.t L, .i m], rfl, ha⟩)
  refine this.mono fun e w' he => ?_
  obtain ⟨x, outs, g', rfl, _, _, _, _, ⟨n, hn, rfl⟩, h6, _⟩ := he
  simp only [E.den, Option.some.injEq, D.i.injEq] at hn
  subst hn
  exact ⟨rfl, h6.same.1, h6.same.2, h6.size, fun i hi => h6.keep i hi (hX g i)⟩

theorem lawX_call {fn : FuncId} (h : COk (J 65) Try.prog (cLawX fn)) {l m k a b : Int} {L : Tb} {v : Value} (hl : 0 ≤ l ∧ l ≤ 65535) (hv : ActsV W v m L) (ha : ActsIn L m)
    (h1 : 0 ≤ k ∧ k ≤ 255) (h2 : -9223372036854775808 ≤ a ∧ a ≤ 9223372036854775807) (h3 : -9223372036854775808 ≤ b ∧ b ≤ 9223372036854775807) :
    Calls Try.prog fn #[.int .u16 l, v, .agg #[.int .u8 k, .int .i64 a, .int .i64 b]] W fun e w' => e = .returned (.bool true) ∧ Kept W w' := by
  have hX : ∀ g i, ¬ ((cLawX fn).amb g W).X i := by
    rintro g i ⟨b, x, p, h1, h2, _⟩
    simp only [cLawX, Sx.get] at h1
    split at h1
    · cases h1; cases h2
    · cases h1
  obtain ⟨g, e1, e2, hm, hr⟩ := acts_rel hv (J 65) Try.prog { w0 := W, X := fun _ => False, base := fun _ => True, hb := fun _ _ => trivial } rfl [.i l, .t L, .i m, .i k, .i a, .i b] 1 2 rfl rfl
  have hm' : MRel ((cLawX fn).amb g W) (J 65) Try.prog g (cLawX fn).mem W :=
    ⟨hm.wf, hm.blk, hm.lt, hm.inj, hm.bnd, fun b x p hb hw hp => by
      rcases hm.own b x p hb hw hp with q | q
      · exact q.elim
      · exact .inr q, hm.size, fun i hi _ => hm.keep i hi (fun q => q), hm.same⟩
  have := h g W [.int .u16 l, v, .agg #[.int .u8 k, .int .i64 a, .int .i64 b]] (by rw [e1]; exact trivial) e2 hm'
    ⟨⟨l, by rw [e1]; rfl, rfl⟩, hr, ⟨_, rfl, ⟨k, by rw [e1]; rfl, rfl⟩, ⟨a, by rw [e1]; rfl, rfl⟩, ⟨b, by rw [e1]; rfl, rfl⟩, trivial⟩, trivial⟩ (fun p hp => by
    rw [e1]
    simp only [cLawX, List.mem_cons, List.not_mem_nil, or_false] at hp
    rcases hp with rfl | rfl | rfl | rfl | rfl
    · exact ⟨l, rfl, hl⟩
    · exact ⟨[.t L, .i m], rfl, ha⟩
    · exact ⟨k, rfl, h1⟩
    · exact ⟨a, rfl, h2⟩
    · exact ⟨b, rfl, h3⟩)
  refine this.mono fun e w' he => ?_
  obtain ⟨x, outs, g', rfl, _, _, _, _, ⟨n, hn, rfl⟩, h6, _⟩ := he
  simp only [E.den, Option.some.injEq, D.i.injEq] at hn
  subst hn
  exact ⟨rfl, h6.same.1, h6.same.2, h6.size, fun i hi => h6.keep i hi (hX g i)⟩
end Go.Proofs.Ytafipmoglaepcaa.Ac
