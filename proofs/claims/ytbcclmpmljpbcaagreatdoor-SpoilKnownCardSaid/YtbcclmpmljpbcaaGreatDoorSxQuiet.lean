/-
  Operations that leave memory alone: what the executor says of them is so. Conditions: none.
-/
import Derived.Test.YtbcclmpmljpbcaaGreatDoorSxAtom
noncomputable section
namespace Go.Sx
open Go

variable {A : Amb} {I : Itp} {P : Program} {g : G} {X : Nat → Prop} {ts : Tmps} {a : Act} {M : Mem} {w : World}

theorem ofValue_rel {x : Value} {v : AV} (h : ofValue x = some v) : Rel I g v x := by
  cases x with
  | bool b => simp only [ofValue, Option.some.injEq] at h; subst h; cases b <;> simp [Rel, E.den]
  | int k n => simp only [ofValue, Option.some.injEq] at h; subst h; simp [Rel, E.den]
  | pointer p => cases p <;> simp [ofValue] at h; subst h; simp [Rel]
  | slice p n c =>
    cases p with
    | some _ => simp [ofValue] at h
    | none =>
      cases n with
      | succ _ => simp [ofValue] at h
      | zero => cases c with
        | succ _ => simp [ofValue] at h
        | zero => simp [ofValue] at h; subst h; simp [Rel]
  | nilFunc => simp [ofValue] at h; subst h; simp [Rel]
  | map r =>
    cases r with
    | some _ => simp [ofValue] at h
    | none => simp [ofValue] at h; subst h; simp [Rel]
  | nilIface => simp [ofValue] at h; subst h; simp [Rel]
  | string s => simp [ofValue] at h; subst h; simp [Rel]
  | _ => simp [ofValue] at h

theorem ofValues_rel : ∀ {xs : List Value} {l : List AV}, ofValues xs = some l → Rels I g l xs
  | [], l, h => by simp [ofValues] at h; subst h; trivial
  | x :: xs, l, h => by
    simp only [ofValues] at h
    split at h
    · rename_i v vs h1 h2
      simp at h; subst h
      exact ⟨ofValue_rel h1, ofValues_rel h2⟩
    · cases h

theorem evalOp_rel {o : Operand} {v : AV} (ht : TRel I g X ts a.tmps) (h : evalOp ts o = some v) (hx : ∀ t, o = .tmp t → ¬ X t) : Rel I g v (a.eval o) := by
  cases o with
  | tmp t =>
    simp only [evalOp] at h
    split at h
    · rename_i u hu
      split at h
      · cases h
      · simp at h; subst h
        obtain ⟨x, h1, h2⟩ := ht t u hu (hx t rfl)
        simpa [Act.eval, h1] using h2
    · cases h
  | const x => exact ofValue_rel h
  | func f => simp only [evalOp, Option.some.injEq] at h; subst h; exact ⟨#[], rfl, trivial⟩
  | global v => simp only [evalOp, Option.some.injEq] at h; subst h; rfl

theorem evalOp_ne {ts : Tmps} {o : Operand} {v : AV} (h : evalOp ts o = some v) : v ≠ .any := by
  intro e
  subst e
  cases o with
  | tmp t =>
    simp only [evalOp] at h
    split at h
    · rename_i u hu
      split at h
      · cases h
      · rename_i hn; simp at h; subst h; exact hn rfl
    · cases h
  | const x =>
    simp only [evalOp] at h
    unfold ofValue at h
    split at h <;> simp at h
  | func f => simp [evalOp] at h
  | global _ => simp [evalOp] at h

theorem evalOps_rel (ht : TRel I g X ts a.tmps) : ∀ {os : List Operand} {l : List AV}, evalOps ts os = some l → (∀ t, .tmp t ∈ os → ¬ X t) → Rels I g l (os.map a.eval)
  | [], l, h, _ => by simp [evalOps] at h; subst h; trivial
  | o :: os, l, h, hx => by
    simp only [evalOps] at h
    split at h
    · rename_i v vs h1 h2
      simp at h; subst h
      exact ⟨evalOp_rel ht h1 fun t e => hx t (by simp [e]), evalOps_rel ht h2 fun t e => hx t (by simp [e])⟩
    · cases h

theorem evalParts_rel (ht : TRel I g X ts a.tmps) : ∀ {os : List (Nat × Operand)} {l : List (Nat × AV)}, evalParts ts os = some l → (∀ t, .tmp t ∈ os.map (·.2) → ¬ X t) →
    l.map (·.1) = os.map (·.1) ∧ Rels I g (l.map (·.2)) (os.map fun x => a.eval x.2) ∧ ∀ x ∈ l, x.2 ≠ .any ∧ x.2.isBig = false
  | [], l, h, _ => by simp [evalParts] at h; subst h; exact ⟨rfl, trivial, by simp⟩
  | (i, o) :: os, l, h, hx => by
    simp only [evalParts] at h
    split at h
    · rename_i v vs h1 h2
      split at h
      · cases h
      rename_i hbig
      simp at h; subst h
      obtain ⟨h3, h4, h5⟩ := evalParts_rel ht h2 fun t e => hx t (by simp at e ⊢; exact .inr e)
      exact ⟨by simp [h3], ⟨evalOp_rel ht h1 fun t e => hx t (by simp; exact .inl e.symm), h4⟩, fun x hx => by
        simp at hx
        rcases hx with rfl | hx
        · exact ⟨evalOp_ne h1, by simpa using hbig⟩
        · exact h5 x hx⟩
    · cases h

/-! ### The tables -/

theorem run_tyAgg {t : TypeId} {ag : Bool} (h : tyAgg P t = some ag) (w : World) : (isAgg t).run P w = .ok ag w := by
  unfold tyAgg at h
  cases hu : P.underlying t with
  | none => simp [hu] at h
  | some d =>
    rw [hu] at h
    simp only [isAgg, Sem.run_bind, run_underlying hu, Result.andThen]
    cases d <;> simp at h <;> subst h <;> rfl
theorem run_tySize {t : TypeId} {n : Nat} (h : tySize P t = some n) (w : World) : (sizeOf t).run P w = .ok n w := by
  unfold tySize at h
  cases hi : P.info? t with
  | none => simp [hi] at h
  | some i =>
    rw [hi] at h
    simp at h
    simp [sizeOf, typeInfo, Sem.run_bind, hi, Result.andThen, h]
theorem run_typeInfo' {t : TypeId} {i : TypeInfo} (h : P.info? t = some i) (w : World) : (typeInfo t).run P w = .ok i w := by
  simp [typeInfo, Sem.run_bind, h, Result.andThen]

theorem zeroAV_rel {t : TypeId} {z : AV} (h : zeroAV P t = some z) : ∃ (i : TypeInfo) (x : Value), P.info? t = some i ∧ i.zero = some x ∧ (∀ w, (zeroValue t).run P w = .ok x w) ∧
    ∀ (I : Itp) (g : G), Rel I g z x ∧ Rels I g z.cells x.cells.toList := by
  unfold zeroAV at h
  cases hi : P.info? t with
  | none => simp [hi] at h
  | some i =>
    cases hz : i.zero with
    | none => simp [hi, hz] at h
    | some x =>
      refine ⟨i, x, rfl, hz, fun w => by simp [zeroValue, run_typeInfo' hi, Sem.run_bind, Result.andThen, hz], fun I g => ?_⟩
      simp only [hi, hz, Option.bind_some] at h
      cases x with
      | agg cs =>
        simp only at h
        cases ho : ofValues cs.toList with
        | none => simp [ho] at h
        | some l =>
          simp [ho] at h
          subst h
          exact ⟨⟨cs, rfl, ofValues_rel ho⟩, by simpa [AV.cells, Value.cells] using ofValues_rel ho⟩
      | _ =>
        simp only at h
        have h1 := ofValue_rel (I := I) (g := g) h
        refine ⟨h1, ?_⟩
        first
          | (have h2 : z.cells = [z] := by unfold ofValue at h; split at h <;> simp at h <;> subst h <;> rfl
             rw [h2]; exact ⟨h1, trivial⟩)

/-- The cells of a value. -/
theorem cells_rel {v : AV} {x : Value} (h : Rel I g v x) (hv : v ≠ .any) (hb : v.isBig = false) : Rels I g v.cells x.cells.toList := by
  cases v with
  | any => exact absurd rfl hv
  | agg l =>
    simp only [Rel] at h
    obtain ⟨cs, rfl, h2⟩ := h
    exact h2
  | slice b lo len s nl =>
    have h0 := h
    simp only [Rel] at h
    obtain ⟨l, n, _, _, _, _, ⟨p, cap, _, rfl, _⟩ | ⟨_, _, _, rfl⟩⟩ := h <;> exact ⟨h0, trivial⟩
  | undef => have h0 := h; simp only [Rel] at h; subst h; exact ⟨h0, trivial⟩
  | bool e => have h0 := h; simp only [Rel] at h; obtain ⟨n, _, rfl⟩ := h; exact ⟨h0, trivial⟩
  | int k e => have h0 := h; simp only [Rel] at h; obtain ⟨n, _, rfl⟩ := h; exact ⟨h0, trivial⟩
  | nilptr => have h0 := h; simp only [Rel] at h; subst h; exact ⟨h0, trivial⟩
  | ptr b r s k => have h0 := h; simp only [Rel] at h; obtain ⟨n, p, _, _, _, rfl⟩ := h; exact ⟨h0, trivial⟩
  | nilslice => have h0 := h; simp only [Rel] at h; subst h; exact ⟨h0, trivial⟩
  | func f c => have h0 := h; simp only [Rel] at h; obtain ⟨cs, rfl, _⟩ := h; exact ⟨h0, trivial⟩
  | yld b => have h0 := h; simp only [Rel] at h; obtain ⟨p, _, rfl⟩ := h; exact ⟨h0, trivial⟩
  | nilfunc => have h0 := h; simp only [Rel] at h; subst h; exact ⟨h0, trivial⟩
  | tup l => have h0 := h; simp only [Rel] at h; obtain ⟨cs, rfl, _⟩ := h; exact ⟨h0, trivial⟩
  | big => simp [AV.isBig] at hb
  | cap0 => have h0 := h; simp only [Rel] at h; obtain ⟨a, rfl⟩ := h; exact ⟨h0, trivial⟩
  | empty => have h0 := h; simp only [Rel] at h; obtain ⟨a, c, rfl⟩ := h; exact ⟨h0, trivial⟩
  | asl => have h0 := h; simp only [Rel] at h; obtain ⟨p, cap, _, _, rfl⟩ := h; exact ⟨h0, trivial⟩
  | bfunc => have h0 := h; simp only [Rel] at h; obtain ⟨ms, cs, rfl, _⟩ := h; exact ⟨h0, trivial⟩
  | gptr => have h0 := h; simp only [Rel] at h; subst h; exact ⟨h0, trivial⟩
  | str => have h0 := h; simp only [Rel] at h; obtain ⟨b, rfl, _⟩ := h; exact ⟨h0, trivial⟩
  | strT => have h0 := h; simp only [Rel] at h; obtain ⟨f, k, s, _, _, rfl, _⟩ := h; exact ⟨h0, trivial⟩
  | capN => have h0 := h; simp only [Rel] at h; obtain ⟨a, rfl⟩ := h; exact ⟨h0, trivial⟩
  | mref b => have h0 := h; simp only [Rel] at h; obtain ⟨p, _, rfl⟩ := h; exact ⟨h0, trivial⟩
  | nilmap => have h0 := h; simp only [Rel] at h; subst h; exact ⟨h0, trivial⟩
  | nilif => have h0 := h; simp only [Rel] at h; subst h; exact ⟨h0, trivial⟩
  | sat => have h0 := h; simp only [Rel] at h; obtain ⟨n, _, rfl⟩ := h; exact ⟨h0, trivial⟩
  | ifo => have h0 := h; simp only [Rel] at h; obtain ⟨n, _, ⟨_, rfl⟩ | ⟨_, t, p, rfl⟩⟩ := h <;> exact ⟨h0, trivial⟩

/-! ### Constants reckoned at once -/

section den
variable {env : List D}
theorem den_bin {o : BO} {a b : E} {x y : Int} (ha : a.den I env = some (.i x)) (hb : b.den I env = some (.i y)) : (E.bin o a b).den I env = some (.i (o.ev x y)) := by
  simp [E.den, ha, hb]
theorem den_mkBin {o : BO} {a b : E} {x y : Int} (ha : a.den I env = some (.i x)) (hb : b.den I env = some (.i y)) : (mkBin o a b).den I env = some (.i (o.ev x y)) := by
  unfold mkBin
  split
  · simp [E.den] at ha hb; subst ha; subst hb; rfl
  · exact den_bin ha hb
theorem den_mkAdd {a b : E} {x y : Int} (ha : a.den I env = some (.i x)) (hb : b.den I env = some (.i y)) : (mkAdd a b).den I env = some (.i (x + y)) := by
  unfold mkAdd
  split
  · simp [E.den] at ha hb; subst ha; subst hb; rfl
  · simp [E.den] at ha; subst ha; simpa using hb
  · simp [E.den] at hb; subst hb; simpa using ha
  · rename_i a' p q _
    simp only [E.den] at ha
    split at ha
    · rename_i u v h1 h2
      simp [E.den] at h2 hb
      simp [BO.ev] at ha
      subst h2; subst hb; subst ha
      split
      · rename_i h0
        rw [h1]; congr 2; omega
      · rw [den_bin h1 (show (E.lit (p + q)).den I env = some (.i (p + q)) from rfl)]
        simp only [BO.ev]; congr 2; omega
    · cases ha
  · exact den_bin ha hb
theorem den_add_inv {a b : E} {x : Int} (h : (E.bin .add a b).den I env = some (.i x)) : ∃ u v, a.den I env = some (.i u) ∧ b.den I env = some (.i v) ∧ x = u + v := by
  simp only [E.den] at h
  split at h
  · rename_i u v h1 h2
    simp [BO.ev] at h
    exact ⟨u, v, h1, h2, h.symm⟩
  · cases h
theorem den_mkSub {a b : E} {x y : Int} (ha : a.den I env = some (.i x)) (hb : b.den I env = some (.i y)) : (mkSub a b).den I env = some (.i (x - y)) := by
  unfold mkSub
  split
  · simp [E.den] at ha hb; subst ha; subst hb; rfl
  · simp [E.den] at hb; subst hb; simpa using ha
  · rename_i a' p q _
    obtain ⟨u, v, h1, h2, rfl⟩ := den_add_inv ha
    simp [E.den] at h2 hb
    subst h2; subst hb
    split
    · rw [h1]; congr 2; omega
    · rw [den_bin h1 (show (E.lit (p - q)).den I env = some (.i (p - q)) from rfl)]
      simp only [BO.ev]; congr 2; omega
  · rename_i a' p _ _
    obtain ⟨u, v, h1, h2, rfl⟩ := den_add_inv ha
    simp [E.den] at h2
    subst h2
    split
    · rename_i he; subst he
      rw [h1] at hb; cases hb
      simp only [E.den]; congr 2; omega
    · exact den_bin ha hb
  · split
    · rename_i he; subst he
      rw [ha] at hb; cases hb
      simp [E.den]
    · exact den_bin ha hb
theorem den_mkWrap {k : IntKind} {a : E} {x : Int} (ha : a.den I env = some (.i x)) : (mkWrap k a).den I env = some (.i (k.wrap x)) := by
  unfold mkWrap
  split
  · simp [E.den] at ha; subst ha; rfl
  · simp [E.den, ha]
theorem isLit_eq {e : E} {n : Int} (h : isLit e = some n) : e = .lit n := by
  cases e <;> simp [isLit] at h; subst h; rfl

theorem den_sel {t r : E} {c : Nat} {f : Int → Nat → Int} {x : Int} (ht : t.den I env = some (.t f)) (hr : r.den I env = some (.i x)) : (E.sel t r c).den I env = some (.i (f x c)) := by
  simp [E.den, ht, hr]
theorem den_upd {t r v : E} {c : Nat} {f : Int → Nat → Int} {x y : Int} (ht : t.den I env = some (.t f)) (hr : r.den I env = some (.i x)) (hv : v.den I env = some (.i y)) :
    (E.upd t r c v).den I env = some (.t (tupd f x c y)) := by simp [E.den, ht, hr, hv]
theorem den_upd_inv {t r v : E} {c : Nat} {f : Int → Nat → Int} (h : (E.upd t r c v).den I env = some (.t f)) :
    ∃ f0 x y, t.den I env = some (.t f0) ∧ r.den I env = some (.i x) ∧ v.den I env = some (.i y) ∧ f = tupd f0 x c y := by
  simp only [E.den] at h
  split at h
  · rename_i f0 x y h1 h2 h3; simp at h; exact ⟨f0, x, y, h1, h2, h3, h.symm⟩
  · cases h
theorem den_mkSel : ∀ {t : E} {r : E} {c : Nat} {f : Int → Nat → Int} {x : Int}, t.den I env = some (.t f) → r.den I env = some (.i x) → (mkSel t r c).den I env = some (.i (f x c)) := by
  intro t
  induction t with
  | zt => intro r c f x ht hr; simp [E.den] at ht; subst ht; rfl
  | kt row => intro r c f x ht hr; simp [E.den] at ht; subst ht; rfl
  | bt b =>
    intro r c f x ht hr
    have e : b.tab = f := by simpa [E.den] using ht
    subst e
    cases r with
    | lit q => obtain rfl : q = x := by simpa [E.den] using hr
               rfl
    | _ => exact den_sel ht hr
  | upd t r0 c0 v iht _ _ =>
    intro r c f x ht hr
    obtain ⟨f0, x0, y0, h1, h2, h3, rfl⟩ := den_upd_inv ht
    unfold mkSel
    split
    · rename_i hc
      rw [iht h1 hr]; simp only [tupd]; rw [if_neg (by intro h; exact hc h.2.symm)]
    · rename_i hc
      simp only [ne_eq, Decidable.not_not] at hc
      subst hc
      split
      · rename_i he; subst he
        rw [h2] at hr; simp at hr; subst hr
        rw [h3]; simp [tupd]
      · rename_i he
        split
        · rename_i m n
          rw [iht h1 hr]
          simp [E.den] at h2 hr
          subst h2; subst hr
          simp only [tupd]
          rw [if_neg (by intro h; exact he (by rw [h.1]))]
        · exact den_sel ht hr
  | sh t n iht _ =>
    intro r c f x ht hr
    simp only [E.den] at ht
    split at ht
    · rename_i f0 y h1 h2
      simp at ht
      subst ht
      unfold mkSel
      exact iht h1 (den_mkAdd hr h2)
    · cases ht
  | _ => intro r c f x ht hr; first | exact den_sel ht hr | (unfold mkSel; exact den_sel ht hr)

theorem strTabGo_den {l : List UInt8} : ∀ {i : Nat} {t : E} {f : Int → Nat → Int}, t.den I env = some (.t f) →
    ∃ f', (strTabGo i t l).den I env = some (.t f') ∧ (∀ (j : Nat), j < i → f' j 0 = f j 0) ∧ ∀ (j : Nat) (b : UInt8), l[j]? = some b → f' ((i + j : Nat) : Int) 0 = b.toNat := by
  induction l with
  | nil => intro i t f ht; exact ⟨f, ht, fun _ _ => rfl, fun j b h => by simp at h⟩
  | cons b l ih =>
    intro i t f ht
    obtain ⟨f', h1, h2, h3⟩ := ih (i := i + 1) (t := .upd t (.lit i) 0 (.lit b.toNat)) (f := tupd f i 0 b.toNat) (by simp [E.den, ht])
    refine ⟨f', h1, fun j hj => ?_, fun j c hc => ?_⟩
    · rw [h2 j (by omega)]; simp only [tupd]; rw [if_neg (by omega)]
    · cases j with
      | zero =>
        simp at hc; subst hc
        have := h2 i (by omega)
        simpa [tupd] using this
      | succ j =>
        have := h3 j c (by simpa using hc)
        rw [← this]; congr 1; omega
theorem strTab_den (l : List UInt8) : ∃ f, (strTab l).den I env = some (.t f) ∧ ∀ (i : Nat) (b : UInt8), l[i]? = some b → f i 0 = b.toNat := by
  obtain ⟨f, h1, _, h2⟩ := strTabGo_den (I := I) (env := env) (l := l) (i := 0) (t := .zt) (f := fun _ _ => 0) rfl
  exact ⟨f, h1, fun i b h => by simpa using h2 i b h⟩
end den

/-! ### Loads -/

theorem addr_add (b o j : Nat) : (⟨b, o, none⟩ : Addr).add j = ⟨b, o + j, none⟩ := by
  unfold Addr.add; split <;> simp_all
theorem cell_cells {p o : Nat} {c : Array Value} {T : TypeId} {fr : Nat × Nat} (h : w.heap[p]? = some (.cells c T fr)) : w.cell? ⟨p, o, none⟩ = c[o]? := by
  simp [World.cell?, h]

theorem run_loadAgg {t : TypeId} {n o b : Nat} {cs : List Value} (hag : tyAgg P t = some true) (hn : tySize P t = some n) (hl : cs.length = n)
    (h : ∀ j v, cs[j]? = some v → w.cell? ⟨b, o + j, none⟩ = some v) : (Instr.loadAt t (.pointer (some ⟨b, o, none⟩))).run P w = .ok (.agg cs.toArray) w := by
  have h1 := run_loadCells_list (P := P) w ⟨b, o, none⟩ cs (fun j v hv => by rw [addr_add]; exact h j v hv)
  rw [hl] at h1
  simp [Instr.loadAt, Instr.sureAddr, loadVar, run_tyAgg hag, run_tySize hn, Result.andThen, h1]
theorem run_loadOne {t : TypeId} {o b : Nat} {v : Value} (hag : tyAgg P t = some false) (h : w.cell? ⟨b, o, none⟩ = some v) :
    (Instr.loadAt t (.pointer (some ⟨b, o, none⟩))).run P w = .ok v w := by
  simp [Instr.loadAt, Instr.sureAddr, loadVar, run_tyAgg hag, Result.andThen, h]

theorem rowCells_rel {ks : List CK} {t r : E} {f : Int → Nat → Int} {x : Int} (ht : t.den I g.env = some (.t f)) (hr : r.den I g.env = some (.i x)) :
    ∀ (n k : Nat) {l : List AV}, rowCells ks t r k n = some l → l.length = n ∧
      ∃ xs : List Value, Rels I g l xs ∧ ∀ j v, xs[j]? = some v → ∃ c, ks[k + j]? = some c ∧ v = c.val (f x (k + j))
  | 0, k, l, h => by simp [rowCells] at h; subst h; exact ⟨rfl, [], trivial, by simp⟩
  | n + 1, k, l, h => by
    simp only [rowCells] at h
    split at h
    · rename_i c m h1 h2
      simp at h; subst h
      obtain ⟨h3, xs, h4, h5⟩ := rowCells_rel ht hr n (k + 1) h2
      refine ⟨by simp [h3], c.val (f x k) :: xs, ⟨?_, h4⟩, fun j v hv => ?_⟩
      · have := den_mkSel (c := k) ht hr
        exact ck_rel this
      · cases j with
        | zero => simp at hv; exact ⟨c, by simpa using h1, hv.symm⟩
        | succ j =>
          simp at hv
          obtain ⟨c', h6, h7⟩ := h5 j v hv
          exact ⟨c', by rw [← h6]; congr 1; omega, by rw [h7]; congr 2; omega⟩
    · cases h

theorem inRow_den {r len : E} {x n : Int} (hr : r.den I g.env = some (.i x)) (hn : len.den I g.env = some (.i n)) (h : ∀ q ∈ inRow r len, q.den I g.env) : 0 ≤ x ∧ x < n := by
  have h1 := h _ (by simp [inRow]; exact .inl rfl)
  have h2 := h _ (by simp [inRow]; exact .inr rfl)
  obtain ⟨a, ha, ha'⟩ := h1
  obtain ⟨b, hb, hb'⟩ := h2
  rw [den_mkBin (x := 0) rfl hr] at ha
  rw [den_mkBin hr hn] at hb
  simp [BO.ev] at ha hb
  constructor
  · by_cases h0 : 0 ≤ x
    · exact h0
    · rw [if_neg h0] at ha; omega
  · by_cases h0 : x < n
    · exact h0
    · rw [if_neg h0] at hb; omega

theorem get_range_map {α : Type} {f : Nat → α} {n j : Nat} {v : α} (h : ((List.range n).map f)[j]? = some v) : j < n ∧ v = f j := by
  rcases Nat.lt_or_ge j n with hj | hj
  · simp [hj] at h; exact ⟨hj, h.symm⟩
  · rw [List.getElem?_eq_none (by simpa using hj)] at h; cases h

/-- Cells of a list, loaded. -/
theorem cellsAt_load {l : List AV} {i n base q : Nat} {ag : Bool} {v : AV} {t : TypeId} {c : Array Value} {T : TypeId} {fr : Nat × Nat} (h : cellsAt l i n ag = some v) (hh : w.heap[q]? = some (.cells c T fr))
    (hcs : ∀ i v, l[i]? = some v → ∃ x, c[base + i]? = some x ∧ Rel I g v x) (hag : tyAgg P t = some ag) (hn : tySize P t = some n) :
    ∃ y, (Instr.loadAt t (.pointer (some ⟨q, base + i, none⟩))).run P w = .ok y w ∧ Rel I g v y := by
  cases ag with
  | true =>
    simp only [cellsAt, if_true] at h
    split at h
    · rename_i hle
      simp at h
      subst h
      have hex : ∀ j, j < n → ∃ y, c[base + (i + j)]? = some y ∧ Rel I g (l[i + j]?.getD .any) y := by
        intro j hj
        have hlt : i + j < l.length := by omega
        obtain ⟨y, h1, h2⟩ := hcs _ _ (List.getElem?_eq_getElem hlt)
        exact ⟨y, h1, by rw [List.getElem?_eq_getElem hlt]; exact h2⟩
      have hc : ∀ j, j < n → c[base + (i + j)]? = some ((c[base + (i + j)]?).getD Go.undef) := fun j hj => by
        obtain ⟨y, h1, _⟩ := hex j hj
        rw [h1]; rfl
      refine ⟨_, run_loadAgg (cs := (List.range n).map fun j => (c[base + (i + j)]?).getD Go.undef) hag hn (by simp) (fun j v hv => ?_), ?_⟩
      · rw [cell_cells hh]
        obtain ⟨hj, rfl⟩ := get_range_map hv
        rw [← hc j hj]; congr 1; omega
      · refine ⟨_, rfl, Rels.mk (by simp; omega) fun a v y h1 h2 => ?_⟩
        have h2' : ((List.range n).map fun j => (c[base + (i + j)]?).getD Go.undef)[a]? = some y := by simpa using h2
        obtain ⟨hj, rfl⟩ := get_range_map h2'
        obtain ⟨y, h3, h4⟩ := hex a hj
        rw [h3]
        rw [List.getElem?_take_of_lt hj, List.getElem?_drop] at h1
        rw [h1] at h4
        exact h4
    · cases h
  | false =>
    simp only [cellsAt, Bool.false_eq_true, if_false] at h
    obtain ⟨y, h1, h2⟩ := hcs _ _ h
    exact ⟨y, run_loadOne hag (by rw [cell_cells hh, ← h1]), h2⟩

theorem bigLoc_spec {np wd n s k : Nat} {r : E} {x : Int} {loc : Loc} (h : bigLoc np wd n r s k = some loc) (hr : r.den I g.env = some (.i x)) (hx : 0 ≤ x) :
    match loc with
    | .cell false i => x.toNat * s + k = i
    | .cell true i => x.toNat * s + k = np + n * wd + i
    | .row q c => ∃ z : Int, q.den I g.env = some (.i z) ∧ 0 ≤ z ∧ x.toNat * s + k = np + (z.toNat * wd + c) := by
  unfold bigLoc at h
  by_cases hw : wd = 0
  · rw [if_pos hw] at h; cases h
  rw [if_neg hw] at h
  cases hl : isLit r with
  | some x0 =>
    rw [hl] at h
    have e := isLit_eq hl
    subst e
    have e : x = x0 := by simp [E.den] at hr; exact hr.symm
    subst e
    dsimp only at h
    rw [if_neg (by omega)] at h
    by_cases h1 : x.toNat * s + k < np
    · rw [if_pos h1] at h; simp only [Option.some.injEq] at h; subst h; rfl
    rw [if_neg h1] at h
    by_cases h2 : x.toNat * s + k < np + n * wd
    · rw [if_pos h2] at h
      simp only [Option.some.injEq] at h; subst h
      refine ⟨_, rfl, Int.natCast_nonneg _, ?_⟩
      have hd := Nat.div_add_mod (x.toNat * s + k - np) wd
      rw [Nat.mul_comm] at hd
      rw [Int.toNat_natCast]
      omega
    · rw [if_neg h2] at h
      simp only [Option.some.injEq] at h; subst h
      show x.toNat * s + k = np + n * wd + (x.toNat * s + k - np - n * wd)
      omega
  | none =>
    rw [hl] at h
    dsimp only at h
    by_cases hc : s = wd ∧ np ≤ k
    · rw [if_pos hc] at h
      obtain ⟨rfl, hk⟩ := hc
      simp only [Option.some.injEq] at h; subst h
      refine ⟨_, den_mkAdd hr (show (E.lit (((k - np) / s : Nat) : Int)).den I g.env = some (.i _) from rfl), by have := Int.natCast_nonneg ((k - np) / s); omega, ?_⟩
      have hd := Nat.div_add_mod (k - np) s
      rw [Nat.mul_comm] at hd
      have e : (x + (((k - np) / s : Nat) : Int)).toNat = x.toNat + (k - np) / s := by rw [Int.toNat_add hx (Int.natCast_nonneg _), Int.toNat_natCast]
      rw [e, Nat.add_mul]
      omega
    · rw [if_neg hc] at h; cases h

theorem loadAt_rel {b s k n : Nat} {r : E} {ag : Bool} {v : AV} {ps : List PE} {x : Int} {p : PB} {t : TypeId} (hm : MRel A I P g M w) (h : loadAt M b r s k n ag = some (v, ps))
    (hp : ∀ q ∈ ps, q.den I g.env) (hr : r.den I g.env = some (.i x)) (hx : 0 ≤ x) (hφ : g.φ b = some p) (hag : tyAgg P t = some ag) (hn : tySize P t = some n) :
    ∃ y, (Instr.loadAt t (.pointer (some ⟨p.blk, p.base + x.toNat * s + k, none⟩))).run P w = .ok y w ∧ Rel I g v y := by
  unfold loadAt at h
  split at h
  · rename_i l wr hb
    obtain ⟨p', c, T, fr, hp', hh, hcs, _⟩ := hm.blk _ _ hb
    rw [hφ] at hp'; cases hp'
    split at h
    · rename_i x0 hlit
      have e := isLit_eq hlit
      subst e
      simp [E.den] at hr
      subst hr
      split at h
      · cases h
      · cases ag with
        | true =>
          simp only [if_true] at h
          split at h
          · rename_i hle
            simp at h
            obtain ⟨rfl, rfl⟩ := h
            have hex : ∀ j, j < n → ∃ y, c[p.base + (x0.toNat * s + k + j)]? = some y ∧ Rel I g (l[x0.toNat * s + k + j]?.getD .any) y := by
              intro j hj
              have hlt : x0.toNat * s + k + j < l.length := by omega
              obtain ⟨y, h1, h2⟩ := hcs _ _ (List.getElem?_eq_getElem hlt)
              exact ⟨y, h1, by rw [List.getElem?_eq_getElem hlt]; exact h2⟩
            have hc : ∀ j, j < n → c[p.base + (x0.toNat * s + k + j)]? = some ((c[p.base + (x0.toNat * s + k + j)]?).getD Go.undef) := fun j hj => by
              obtain ⟨y, h1, _⟩ := hex j hj
              rw [h1]; rfl
            refine ⟨_, run_loadAgg (cs := (List.range n).map fun j => (c[p.base + (x0.toNat * s + k + j)]?).getD Go.undef) hag hn (by simp) (fun j v hv => ?_), ?_⟩
            · rw [cell_cells hh]
              obtain ⟨hj, rfl⟩ := get_range_map hv
              rw [← hc j hj]; congr 1; omega
            · refine ⟨_, rfl, Rels.mk (by simp; omega) fun i v y h1 h2 => ?_⟩
              have h2' : ((List.range n).map fun j => (c[p.base + (x0.toNat * s + k + j)]?).getD Go.undef)[i]? = some y := by simpa using h2
              obtain ⟨hj, rfl⟩ := get_range_map h2'
              obtain ⟨y, h3, h4⟩ := hex i hj
              rw [h3]
              rw [List.getElem?_take_of_lt hj, List.getElem?_drop] at h1
              rw [h1] at h4
              exact h4
          · cases h
        | false =>
          simp only [Bool.false_eq_true, if_false] at h
          cases hl : l[x0.toNat * s + k]? with
          | none => simp [hl] at h
          | some u =>
            simp [hl] at h
            obtain ⟨rfl, rfl⟩ := h
            obtain ⟨y, h1, h2⟩ := hcs _ _ hl
            exact ⟨y, run_loadOne hag (by rw [cell_cells hh, ← h1]; congr 1; omega), h2⟩
    · cases h
  · rename_i ks t0 len wr nl hb
    obtain ⟨f, m, hf, hlen, hm0, hrow⟩ := hm.blk _ _ hb
    split at h
    · rename_i hs
      subst hs
      rcases hrow with ⟨p', c, T, fr, hp', hh, hcs, _⟩ | ⟨_, _, hnone⟩
      case inr => rw [hφ] at hnone; cases hnone
      rw [hφ] at hp'; cases hp'
      cases ag with
      | true =>
        simp only [if_true] at h
        cases hl : rowCells ks t0 r k n with
        | none => simp [hl] at h
        | some l =>
          simp [hl] at h
          obtain ⟨rfl, rfl⟩ := h
          obtain ⟨hlt0, hlt⟩ := inRow_den hr hlen hp
          obtain ⟨hll, xs, hrel, hxs⟩ := rowCells_rel hf hr n k hl
          refine ⟨_, run_loadAgg (cs := xs) hag hn (by rw [← hrel.length, hll]) (fun j v hv => ?_), ⟨_, rfl, by simpa using hrel⟩⟩
          obtain ⟨ck, h1, rfl⟩ := hxs j v hv
          rw [cell_cells hh]
          have := hcs x.toNat (k + j) ck (by omega) h1
          rw [Int.toNat_of_nonneg hx] at this
          rw [← this]; congr 1; omega
      | false =>
        simp only [Bool.false_eq_true, if_false] at h
        cases hl : ks[k]? with
        | none => simp [hl] at h
        | some ck =>
          simp [hl] at h
          obtain ⟨rfl, rfl⟩ := h
          obtain ⟨hlt0, hlt⟩ := inRow_den hr hlen hp
          refine ⟨ck.val (f x k), run_loadOne hag ?_, ?_⟩
          · rw [cell_cells hh]
            have := hcs x.toNat k ck (by omega) hl
            rw [Int.toNat_of_nonneg hx] at this
            rw [← this]
          · have := den_mkSel (c := k) hf hr
            exact ck_rel this
    · cases h
  · rename_i pre ks t0 m post wr hb
    obtain ⟨p', c, T, fr, f, hp', hh, hf, hpre, hrow, hpost, _⟩ := hm.blk _ _ hb
    rw [hφ] at hp'; cases hp'
    split at h
    · rename_i i hloc
      have hs := bigLoc_spec hloc hr hx
      simp only at hs
      cases hc : cellsAt pre i n ag with
      | none => simp [hc] at h
      | some u =>
        simp [hc] at h
        obtain ⟨rfl, rfl⟩ := h
        have := cellsAt_load (base := p.base) hc hh hpre hag hn
        rwa [show p.base + x.toNat * s + k = p.base + i by omega]
    · rename_i i hloc
      have hs := bigLoc_spec hloc hr hx
      simp only at hs
      cases hc : cellsAt post i n ag with
      | none => simp [hc] at h
      | some u =>
        simp [hc] at h
        obtain ⟨rfl, rfl⟩ := h
        have := cellsAt_load (base := p.base + (pre.length + m * ks.length)) hc hh (fun j v hv => by
          obtain ⟨y, h1, h2⟩ := hpost j v hv
          exact ⟨y, by rw [← h1]; congr 1; omega, h2⟩) hag hn
        rwa [show p.base + x.toNat * s + k = p.base + (pre.length + m * ks.length) + i by omega]
    · rename_i q cc hloc
      obtain ⟨z, hz, hz0, hs⟩ := bigLoc_spec hloc hr hx
      cases ag with
      | true =>
        simp only [if_true] at h
        cases hl : rowCells ks t0 q cc n with
        | none => simp [hl] at h
        | some l =>
          simp [hl] at h
          obtain ⟨rfl, rfl⟩ := h
          obtain ⟨hlt0, hlt⟩ := inRow_den hz (show (E.lit m).den I g.env = some (.i m) from rfl) hp
          obtain ⟨hll, xs, hrel, hxs⟩ := rowCells_rel hf hz n cc hl
          refine ⟨_, run_loadAgg (cs := xs) hag hn (by rw [← hrel.length, hll]) (fun j v hv => ?_), ⟨_, rfl, by simpa using hrel⟩⟩
          obtain ⟨ck, h1, rfl⟩ := hxs j v hv
          rw [cell_cells hh]
          have := hrow z.toNat (cc + j) ck (by omega) h1
          rw [Int.toNat_of_nonneg hz0] at this
          rw [← this]; congr 1; omega
      | false =>
        simp only [Bool.false_eq_true, if_false] at h
        cases hl : ks[cc]? with
        | none => simp [hl] at h
        | some ck =>
          simp [hl] at h
          obtain ⟨rfl, rfl⟩ := h
          obtain ⟨hlt0, hlt⟩ := inRow_den hz (show (E.lit m).den I g.env = some (.i m) from rfl) hp
          refine ⟨ck.val (f z cc), run_loadOne hag ?_, ?_⟩
          · rw [cell_cells hh]
            have := hrow z.toNat cc ck (by omega) hl
            rw [Int.toNat_of_nonneg hz0] at this
            rw [← this]; congr 1; omega
          · have := den_mkSel (c := cc) hf hz
            exact ck_rel this
    · cases h
  · cases h

/-! ### Comparing -/

theorem run_equal_bool {t : TypeId} (h : P.underlying t = some .bool) (x y : Bool) (w : World) : (Op.equal t (.bool x) (.bool y)).run P w = .ok (x == y) w := by
  have key : ∀ d, (Op.equalIn (d + 1) t (.bool x) (.bool y)).run P w = .ok (x == y) w := fun d => by
    simp only [Op.equalIn, Sem.run_bind, run_underlying h, Result.andThen]; rfl
  exact key 9999
theorem run_equal_ptr_nil {t e : TypeId} (h : P.underlying t = some (.pointer e)) (p : Addr) (w : World) : (Op.equal t (.pointer (some p)) (.pointer none)).run P w = .ok false w := by
  have key : ∀ d, (Op.equalIn (d + 1) t (.pointer (some p)) (.pointer none)).run P w = .ok false w := fun d => by
    simp only [Op.equalIn, Sem.run_bind, run_underlying h, Result.andThen]; rfl
  exact key 9999
theorem run_equal_nil_ptr {t e : TypeId} (h : P.underlying t = some (.pointer e)) (p : Option Addr) (w : World) : (Op.equal t (.pointer none) (.pointer p)).run P w = .ok p.isNone w := by
  have key : ∀ d, (Op.equalIn (d + 1) t (.pointer none) (.pointer p)).run P w = .ok p.isNone w := fun d => by
    simp only [Op.equalIn, Sem.run_bind, run_underlying h, Result.andThen]; rfl
  exact key 9999
theorem run_equal_slice_nil {t e : TypeId} (h : P.underlying t = some (.slice e)) (p : Addr) (n c : Nat) (w : World) : (Op.equal t (.slice (some p) n c) (.slice none 0 0)).run P w = .ok false w := by
  have key : ∀ d, (Op.equalIn (d + 1) t (.slice (some p) n c) (.slice none 0 0)).run P w = .ok false w := fun d => by
    simp only [Op.equalIn, Sem.run_bind, run_underlying h, Result.andThen]; rfl
  exact key 9999
theorem run_equal_nil_slice {t e : TypeId} (h : P.underlying t = some (.slice e)) (w : World) : (Op.equal t (.slice none 0 0) (.slice none 0 0)).run P w = .ok true w := by
  have key : ∀ d, (Op.equalIn (d + 1) t (.slice none 0 0) (.slice none 0 0)).run P w = .ok true w := fun d => by
    simp only [Op.equalIn, Sem.run_bind, run_underlying h, Result.andThen]; rfl
  exact key 9999
theorem run_equal_func_nil {t : TypeId} {ps rs : Array TypeId} {vr : Bool} (h : P.underlying t = some (.func ps rs vr)) (fn : Fn) (f c : Array Value) (w : World) :
    (Op.equal t (.func fn f c) .nilFunc).run P w = .ok false w := by
  have key : ∀ d, (Op.equalIn (d + 1) t (.func fn f c) .nilFunc).run P w = .ok false w := fun d => by
    simp only [Op.equalIn, Sem.run_bind, run_underlying h, Result.andThen]; rfl
  exact key 9999
theorem run_equal_nil_nil {t : TypeId} {ps rs : Array TypeId} {vr : Bool} (h : P.underlying t = some (.func ps rs vr)) (w : World) :
    (Op.equal t .nilFunc .nilFunc).run P w = .ok true w := by
  have key : ∀ d, (Op.equalIn (d + 1) t .nilFunc .nilFunc).run P w = .ok true w := fun d => by
    simp only [Op.equalIn, Sem.run_bind, run_underlying h, Result.andThen]; rfl
  exact key 9999

theorem run_part {t : TypeId} {d : TypeDesc} (h : P.underlying t = some d) (hd : isIntT (some d) = true ∨ isBoolT (some d) = true) {cs : Array Value} {o : Nat} {v : Value} (hv : cs[o]? = some v) (w : World) :
    (part t cs o).run P w = .ok v w := by
  have hag : tyAgg P t = some false := by
    unfold tyAgg; rw [h]
    cases d <;> simp [isIntT, isBoolT] at hd <;> rfl
  simp [part, run_tyAgg hag, Result.andThen, hv]

abbrev eqBody (d : Nat) (xs ys : Array Value) : Field → Option Bool × Unit → Sem (ForInStep (Option Bool × Unit)) := fun f _ =>
  if f.name = "_" then pure (ForInStep.yield (none, ()))
  else do
    let a ← part f.type xs f.offset
    let b ← part f.type ys f.offset
    let r ← Op.equalIn d f.type a b
    if r = false then pure (ForInStep.done (some false, ())) else pure (ForInStep.yield (none, ()))

theorem bool01 {x y : Int} (h : (if x = 0 then (0 : Int) else 1) = (if y = 0 then (0 : Int) else 1)) : decide (x ≠ 0) = decide (y ≠ 0) := by
  by_cases hx : x = 0 <;> by_cases hy : y = 0 <;> simp_all

theorem and01 (x y : Int) : BO.and.ev x y = 0 ∨ BO.and.ev x y = 1 := by simp only [BO.ev]; split <;> simp

theorem eqCells_run (d : Nat) (xs ys : Array Value) (w : World) : ∀ (fs : List Field) (o : Nat) (l m : List AV) (e : E), eqCells P o fs l m = some e →
    Rels I g l (xs.toList.drop o) → Rels I g m (ys.toList.drop o) →
    ∃ n : Int, e.den I g.env = some (.i n) ∧ (n = 0 ∨ n = 1) ∧ (forIn fs (none, ()) (eqBody (d + 1) xs ys)).run P w = .ok (if n = 0 then some false else none, ()) w := by
  intro fs
  induction fs with
  | nil =>
    intro o l m e he _ _
    cases l <;> cases m <;> simp [eqCells] at he
    subst he
    exact ⟨1, rfl, .inr rfl, rfl⟩
  | cons f fs ih =>
    intro o l m e he hl hm
    have step : ∀ (x y : Value) (r : Bool) (e0 : E), xs[o]? = some x → ys[o]? = some y → (f.name == "_") = false → f.offset = o → (isIntT (P.underlying f.type) = true ∨ isBoolT (P.underlying f.type) = true) →
        (Op.equalIn (d + 1) f.type x y).run P w = .ok r w →
        (forIn (f :: fs) (none, ()) (eqBody (d + 1) xs ys)).run P w = if r = false then .ok (some false, ()) w else (forIn fs (none, ()) (eqBody (d + 1) xs ys)).run P w := by
      intro x y r e0 hx hy hname hoff hty hr
      obtain ⟨dd, hdd⟩ : ∃ dd, P.underlying f.type = some dd := by
        cases h : P.underlying f.type with
        | none => rw [h] at hty; simp [isIntT, isBoolT] at hty
        | some dd => exact ⟨dd, rfl⟩
      have hname' : ¬ f.name = "_" := by simpa using hname
      rw [hdd] at hty
      simp only [List.forIn_cons, eqBody, if_neg hname', Sem.run_bind, hoff, run_part hdd hty hx, run_part hdd hty hy, Result.andThen, hr]
      cases r <;> rfl
    have hx0 : ∀ {v : AV} {l' : List AV} {zs : Array Value}, Rels I g (v :: l') (zs.toList.drop o) → ∃ z, zs[o]? = some z ∧ Rel I g v z ∧ Rels I g l' (zs.toList.drop (o + 1)) := by
      intro v l' zs h
      cases hz : zs.toList.drop o with
      | nil => rw [hz] at h; simp [Rels] at h
      | cons z rest =>
        rw [hz] at h
        have h1 : zs.toList[o]? = some z := by
          have := congrArg (fun q => q[0]?) hz
          simpa [List.getElem?_drop] using this
        refine ⟨z, by simpa using h1, h.1, ?_⟩
        have h2 : zs.toList.drop (o + 1) = rest := by
          rw [← List.drop_drop, hz]; rfl
        rw [h2]; exact h.2
    unfold eqCells at he
    split at he
    · exact absurd ‹f :: fs = []› (by simp)
    · rename_i o' f' fs' k a l' k' b m' heq
      cases heq
      split at he
      · rename_i hc
        obtain ⟨rfl, hname, hoff, hty⟩ := hc
        subst hoff
        cases hrest : eqCells P (f.offset + 1) fs l' m' with
        | none => rw [hrest] at he; simp at he
        | some e1 =>
          rw [hrest] at he
          simp at he
          subst he
          obtain ⟨x, hx, hrx, hlx⟩ := hx0 hl
          obtain ⟨y, hy, hry, hly⟩ := hx0 hm
          obtain ⟨n1, hn1, h01, hrun⟩ := ih _ l' m' e1 hrest hlx hly
          obtain ⟨na, hna, rfl⟩ := hrx
          obtain ⟨nb, hnb, rfl⟩ := hry
          have hti : ∃ q, P.underlying f.type = some (.int q) := by
            cases h : P.underlying f.type with
            | none => rw [h] at hty; simp [isIntT] at hty
            | some dd => rw [h] at hty; cases dd <;> simp [isIntT] at hty; exact ⟨_, rfl⟩
          obtain ⟨q, hq⟩ := hti
          have hr : (Op.equalIn (d + 1) f.type (.int k na) (.int k nb)).run P w = .ok (na == nb) w := by
            simp only [Op.equalIn, Sem.run_bind, run_underlying hq, Result.andThen]; simp
          refine ⟨_, den_mkBin (den_mkBin hna hnb) hn1, ?_, ?_⟩
          · exact and01 _ _
          · rw [step _ _ _ (.lit 0) hx hy hname rfl (.inl hty) hr, hrun]
            by_cases hab : na = nb
            · subst hab
              rcases h01 with rfl | rfl <;> simp [BO.ev]
            · simp [BO.ev, hab]
      · cases he
    · rename_i o' f' fs' a l' b m' heq
      cases heq
      split at he
      · rename_i hc
        obtain ⟨hname, hoff, hty⟩ := hc
        subst hoff
        cases hrest : eqCells P (f.offset + 1) fs l' m' with
        | none => rw [hrest] at he; simp at he
        | some e1 =>
          rw [hrest] at he
          simp at he
          subst he
          obtain ⟨x, hx, hrx, hlx⟩ := hx0 hl
          obtain ⟨y, hy, hry, hly⟩ := hx0 hm
          obtain ⟨n1, hn1, h01, hrun⟩ := ih _ l' m' e1 hrest hlx hly
          obtain ⟨na, hna, rfl⟩ := hrx
          obtain ⟨nb, hnb, rfl⟩ := hry
          have hq : P.underlying f.type = some .bool := by
            cases h : P.underlying f.type with
            | none => rw [h] at hty; simp [isBoolT] at hty
            | some dd => rw [h] at hty; cases dd <;> simp [isBoolT] at hty; rfl
          have hr : (Op.equalIn (d + 1) f.type (.bool (decide (na ≠ 0))) (.bool (decide (nb ≠ 0)))).run P w = .ok (decide (na ≠ 0) == decide (nb ≠ 0)) w := by
            simp only [Op.equalIn, Sem.run_bind, run_underlying hq, Result.andThen]; rfl
          refine ⟨_, den_mkBin (den_mkBin (den_mkBin hna (show (E.lit 0).den I g.env = some (.i 0) from rfl)) (den_mkBin hnb (show (E.lit 0).den I g.env = some (.i 0) from rfl))) hn1, ?_, ?_⟩
          · exact and01 _ _
          · rw [step _ _ _ (.lit 0) hx hy hname rfl (.inr hty) hr, hrun]
            by_cases ha : na = 0 <;> by_cases hb : nb = 0 <;> rcases h01 with rfl | rfl <;> simp [BO.ev, ha, hb]
      · cases he
    · cases he

end Go.Sx
