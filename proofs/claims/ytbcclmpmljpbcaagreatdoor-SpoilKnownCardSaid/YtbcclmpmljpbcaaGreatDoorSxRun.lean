/-
  One operation, and a list of them: what the executor says of them is so, if it is so of calls. Conditions: none.
-/
import Derived.Test.YtbcclmpmljpbcaaGreatDoorSxLoud2
noncomputable section
namespace Go.Sx
open Go

variable {A : Amb} {I : Itp} {P : Program} {g : G} {X : Nat → Prop} {ts : Tmps} {a : Act} {M : Mem} {w : World}

def FW (r : Option Nat) : Fence := { Fence.wide with round := r }

def Ex.toX : Ex → Exit
  | .normal => .normal
  | .ret => .ret
  | .exit id => .exit id
  | .goto l => .goto l

def Post (A : Amb) (I : Itp) (P : Program) (X : Nat → Prop) (g : G) (k : Ex → St → Tree) : Exit → Act → World → Prop :=
  fun e a w => ∃ x g' s', e = Ex.toX x ∧ g.Le g' ∧ SRel A I P X g' s' a w ∧ (k x s').vc I g'.env

def RndRel (g : G) : Option Nat → Option Nat → Prop
  | none, none => True
  | some b, some l => ∃ p, g.φ b = some p ∧ l = p.blk
  | _, _ => False

theorem RndRel.le {g g' : G} (h : g.Le g') (hw : g.wf) : ∀ {x y : Option Nat}, RndRel g x y → RndRel g' x y
  | none, none, _ => trivial
  | some _, some _, ⟨p, h1, h2⟩ => ⟨p, h.some hw h1, h2⟩
  | none, some _, h => h.elim
  | some _, none, h => h.elim

/-- A part of a function's body, with the number of ranges over functions before it. -/
def COK (P : Program) (fn o : Nat) (c : Code) : Prop := ∀ i rf, (rfs c)[i]? = some rf → rfAt P fn (o + i) = some rf

/-- What a call of a value comes to. -/
def CallTo (r : Option Nat) (n : Nat) (P : Program) (x : Value) (xs : List Value) (w : World) (R : Value → World → Prop) : Prop :=
  ∃ nx w1, (do let d ← Deferred.ofValue x xs.toArray; invoke d.target d.args : Sem Next).run P w = .ok nx w1 ∧
    ((∃ f args, nx = .enter f args ∧ CallsIn (FW r) n P f args w1 fun e w' => ∃ v, e = .returned v ∧ R v w') ∨
     (∃ l f tmps assign body, nx = .round l f tmps assign body ∧ RoundIn (FW r) n P l f tmps assign body w1 fun e w' => ∃ v, e = .returned v ∧ R v w'))

def CPost (A : Amb) (I : Itp) (P : Program) (X : Nat → Prop) (g : G) (a : Act) (k : AV → St → Tree) : Value → World → Prop :=
  fun v w => ∃ av g' s', g.Le g' ∧ Rel I g' av v ∧ SRel A I P X g' s' a w ∧ (k av s').vc I g'.env

def LoopWp (F : Fence) (n : Nat) (P : Program) (c : Code) (Q : Exit → Act → World → Prop) (a : Act) (w : World) : Prop :=
  ∀ (b : Frame) (k : List Item) (cs : List Frame), b.roundOf = F.round → F.fn b.fn → F.room (cs.length + 1 + n) →
    ∃ e a' w', Q e a' w' ∧ ArrivesIn (Machine.fenced P F) P (lone (b.atR a (.code c :: .inLoop c :: k)) cs w) b k cs e a' w'

structure EngSound (I : Itp) (cx : Cx) (e : Eng) : Prop where
  exec : ∀ {A : Amb} {g : G} {fn : FuncId} {rnd r : Option Nat} {bid o : Nat} {c : Code} {s : St} {k : Ex → St → Tree} {a : Act} {w : World},
    GOk cx.kn.globs A → (e.exec fn rnd bid o c s k).vc I g.env → SRel A I cx.P (fun _ => False) g s a w → RndRel g rnd r → COK cx.P fn o c → ∀ n, c.wpIn (FW r) n cx.P (Post A I cx.P (fun _ => False) g k) a w
  loop : ∀ {A : Amb} {g : G} {fn : FuncId} {rnd r : Option Nat} {bid o : Nat} {c : Code} {s : St} {k : Ex → St → Tree} {a : Act} {w : World},
    GOk cx.kn.globs A → (e.loop fn rnd bid o c s k).vc I g.env → SRel A I cx.P (fun _ => False) g s a w → RndRel g rnd r → COK cx.P fn o c → ∀ n, LoopWp (FW r) n cx.P c (Post A I cx.P (fun _ => False) g k) a w
  callv : ∀ {A : Amb} {X : Nat → Prop} {g : G} {r : Option Nat} {f : AV} {args : List AV} {s : St} {k : AV → St → Tree} {a : Act} {w : World} {x : Value} {xs : List Value},
    GOk cx.kn.globs A → (e.callv f args s k).vc I g.env → SRel A I cx.P X g s a w → Rel I g f x → Rels I g args xs → ∀ n, CallTo r n cx.P x xs w (CPost A I cx.P X g a k)
  callf : ∀ {A : Amb} {X : Nat → Prop} {g : G} {f : FuncId} {cap args : List AV} {s : St} {k : AV → St → Tree} {a : Act} {w : World} {xs : List Value},
    GOk cx.kn.globs A → (e.callv (.func f cap) args s k).vc I g.env → SRel A I cx.P X g s a w → Rels I g (args ++ cap) xs →
      (∃ fn c, cx.P.funcs[f]? = some fn ∧ fn.body = some c ∧ (fn.name == "runtime.NumGoroutine") = false) ∧ Calls cx.P f xs.toArray w fun e w' => ∃ v, e = .returned v ∧ CPost A I cx.P X g a k v w'

theorem SRel.setT {s s' : St} {dst : Option Tmp} {v : AV} {x : Value} (hs : SRel A I P X g s a w) (hv : Rel I g v x) (h : setT s dst v = some s') : SRel A I P X g s' (a.put dst x) w := by
  rw [setT_eq] at h
  cases dst with
  | none => simp at h; subst h; exact hs
  | some d =>
    simp only at h
    split at h
    · rename_i hd
      simp at h; subst h
      refine ⟨hs.m, fun t u ht hX => ?_, (by show (a.tmps.setIfInBounds d x).size = s.nt; rw [Array.size_setIfInBounds]; exact hs.nt), hs.d, hs.nv, hs.nb⟩
      have ht : get (putT d v s.tmps) t = some u := ht
      rw [get_putT] at ht
      by_cases htd : d = t
      · subst htd
        rw [if_pos rfl] at ht; simp at ht; subst ht
        exact ⟨x, by simp [Act.put, hs.nt, hd], hv⟩
      · rw [if_neg htd] at ht
        obtain ⟨y, h1, h2⟩ := hs.t t u ht hX
        exact ⟨y, by simp [Act.put, Array.getElem?_setIfInBounds_ne htd, h1], h2⟩
    · cases h

/-- What is asked behind an operation. -/
def NPost (A : Amb) (I : Itp) (P : Program) (X : Nat → Prop) (g : G) (k : St → Tree) : Act → World → Prop :=
  fun a w => ∃ g' s', g.Le g' ∧ SRel A I P X g' s' a w ∧ (k s').vc I g'.env

theorem CallTo.upon {r : Option Nat} {n : Nat} {x : Value} {xs : List Value} {R : Value → World → Prop} {o : Oper} {K : Act → World → Prop} {Q : Exit → Act → World → Prop}
    {f : Operand} {args : Array Operand} {tys : Array TypeId} (hop : o.op = .call { callee := .value f, args, argTypes := tys })
    (hx : a.eval f = x) (hxs : args.toList.map a.eval = xs) (h : CallTo r (n - 1) P x xs w R) (hK : ∀ v w', R v w' → K (a.put o.dst v) w') :
    o.wpIn (FW r) n P a w K Q := by
  obtain ⟨nx, w1, hrun, hc⟩ := h
  refine ⟨fun _ _ => trivial, ?_⟩
  have hsem : (o.semAt (FW r).round a.eval).run P w = .ok nx w1 := by
    rw [Oper.semAt_eq _ _ _ (fun c hc => by rw [hop] at hc; cases hc)]
    have : execOp a.eval o = (do let d ← Deferred.ofValue x xs.toArray; invoke d.target d.args) := by
      have e : args.map a.eval = xs.toArray := Array.toList_inj.1 (by rw [← hxs]; exact Array.toList_map)
      simp [execOp, hop, resolve, hx, e]
    rw [this]; exact hrun
  rw [hsem]
  rcases hc with ⟨f', args', rfl, hcall⟩ | ⟨l, f', tmps, assign, body, rfl, hround⟩
  · refine ⟨fun h => by simp [FW, Fence.wide] at h, hcall.mono fun e w' he => ?_⟩
    obtain ⟨v, rfl, hv⟩ := he
    exact hK v w' hv
  · refine ⟨fun h => by simp [FW, Fence.wide] at h, hround.mono fun e w' he => ?_⟩
    obtain ⟨v, rfl, hv⟩ := he
    exact hK v w' hv

theorem callOf_inv {o : Op} {f : AV} {l : List AV} (h : callOf ts o = some (f, l)) : ∃ fo args tys, o = .call { callee := .value fo, args, argTypes := tys } ∧ evalOp ts fo = some f ∧ evalOps ts args.toList = some l := by
  unfold callOf at h
  split at h
  · rename_i fo args tys
    split at h
    · rename_i v l' h1 h2
      simp at h
      obtain ⟨rfl, rfl⟩ := h
      exact ⟨fo, args, tys, rfl, h1, h2⟩
    · cases h
  · cases h

theorem quiet_wp {cx : Cx} {s s' : St} {o : Oper} {v : AV} {ps : List PE} {k : St → Tree} {r : Option Nat} {n : Nat} {Q : Exit → Act → World → Prop} (hG : GOk cx.kn.globs A) (hs : SRel A I cx.P X g s a w)
    (hx : ∀ t, .tmp t ∈ o.op.operands.toList → ¬ X t) (hq : quiet cx.P cx.kn s.tmps s.mem o.op = some (v, ps)) (hset : setT s o.dst v = some s') (h : (mkAsserts ps (k s')).vc I g.env) :
    o.wpIn (FW r) n cx.P a w (NPost A I cx.P X g k) Q := by
  obtain ⟨hp, hk⟩ := mkAsserts_vc h
  obtain ⟨x, h1, h2⟩ := quiet_sound hG hs.m hs.t hx hq hp
  refine ⟨fun _ _ => trivial, ?_⟩
  rw [Oper.semAt_eq _ _ _ (fun c hc => quiet_noDefer hc hq), h1]
  exact ⟨g, s', .refl _, hs.setT h2 hset, hk⟩

theorem loud_wp {cx : Cx} {s s1 s' : St} {o : Oper} {v : AV} {ps : List PE} {k : St → Tree} {r : Option Nat} {n : Nat} {Q : Exit → Act → World → Prop} (hs : SRel A I cx.P X g s a w)
    (hx : ∀ t, .tmp t ∈ o.op.operands.toList → ¬ X t) (hq : loud cx.P cx.kn s o.op = some (v, s1, ps)) (hset : setT s1 o.dst v = some s') (h : (mkAsserts ps (k s')).vc I g.env) :
    o.wpIn (FW r) n cx.P a w (NPost A I cx.P X g k) Q := by
  obtain ⟨hp, hk⟩ := mkAsserts_vc h
  obtain ⟨x, w', g', h1, h2, henv, h3, h4⟩ := (loud_sound hs hx hq hp).run
  refine ⟨fun _ _ => trivial, ?_⟩
  rw [Oper.semAt_eq _ _ _ (fun c hc => by rw [hc] at hq; simp [loud] at hq)]
  have hk' : (k s').vc I g'.env := by rw [henv]; exact hk
  rcases h1 with h1 | ⟨h1, rfl⟩
  · rw [h1]; exact ⟨g', s', h2, h4.setT h3 hset, hk'⟩
  · rw [h1]; exact ⟨g', s', h2, h4.setT h3 hset, hk'⟩

theorem call_wp {cx : Cx} {e : Eng} (hE : EngSound I cx e) {s : St} {o : Oper} {f : AV} {l : List AV} {k : St → Tree} {r : Option Nat} {n : Nat} {Q : Exit → Act → World → Prop} {bad : Nat} (hG : GOk cx.kn.globs A) (hs : SRel A I cx.P X g s a w)
    (hx : ∀ t, .tmp t ∈ o.op.operands.toList → ¬ X t) (hq : callOf s.tmps o.op = some (f, l))
    (h : (e.callv f l s fun v s1 => match setT s1 o.dst v with | some s' => k s' | none => .fail bad).vc I g.env) :
    o.wpIn (FW r) n cx.P a w (NPost A I cx.P X g k) Q := by
  obtain ⟨fo, args, tys, hop, h1, h2⟩ := callOf_inv hq
  have hf : Rel I g f (a.eval fo) := evalOp_rel hs.t h1 fun t e => hx t (by rw [hop, e]; simp [Op.operands, Call.operands])
  have hl : Rels I g l (args.toList.map a.eval) := evalOps_rel hs.t h2 fun t ht => hx t (by rw [hop]; simp [Op.operands, Call.operands]; right; simpa using ht)
  refine (hE.callv hG h hs hf hl (n - 1)).upon hop rfl rfl fun v w' hv => ?_
  obtain ⟨av, g', s', h3, h4, h5, h6⟩ := hv
  dsimp only at h6
  split at h6
  · rename_i s'' hset
    exact ⟨g', s'', h3, h5.setT h4 hset, h6⟩
  · exact h6.elim

theorem defer_wp {cx : Cx} {s : St} {o : Oper} {d : DV} {k : St → Tree} {r : Option Nat} {n : Nat} {Q : Exit → Act → World → Prop} (hd : r = none ∨ isDefer o.op = false) (hs : SRel A I cx.P X g s a w)
    (hx : ∀ t, .tmp t ∈ o.op.operands.toList → ¬ X t) (hq : deferOf s.tmps o.op = some d) (hdst : o.dst = none) (h : (k { s with defers := d :: s.defers }).vc I g.env) :
    o.wpIn (FW r) n cx.P a w (NPost A I cx.P X g k) Q := by
  unfold deferOf at hq
  split at hq
  case h_2 => cases hq
  rename_i fo args tys hop
  split at hq
  case isFalse => cases hq
  rename_i hsz
  have hargs : args = #[] := Array.eq_empty_of_size_eq_zero hsz
  subst hargs
  have hr : r = none := by
    rcases hd with hd | hd
    · exact hd
    · rw [hop] at hd; simp [isDefer] at hd
  subst hr
  have fin : ∀ {x : Deferred}, (Deferred.ofValue (a.eval fo) #[]).run cx.P w = .ok x w → DVRel I g d x → o.wpIn (FW none) n cx.P a w (NPost A I cx.P X g k) Q := fun {x} h1 h2 => by
    refine ⟨fun _ _ => trivial, ?_⟩
    have : (o.semAt (FW none).round a.eval).run cx.P w = .ok (.defer x) w := by
      show (Oper.semAt none a.eval o).run cx.P w = .ok (.defer x) w
      rw [Oper.semAt_none]
      simp [execOp, hop, resolve, h1, Result.andThen]
    rw [this, Oper.uponIn_defer, hdst]
    exact ⟨g, { s with defers := d :: s.defers }, .refl _, ⟨hs.m, hs.t, hs.nt, (show DVRel I g d x ∧ DRel I g s.defers a.defers from ⟨h2, hs.d⟩), hs.nv, hs.nb⟩, h⟩
  split at hq
  · rename_i f l he
    cases hq
    obtain ⟨cs, h1, h2⟩ := evalOp_rel hs.t he fun t e => hx t (by rw [hop, e]; simp [Op.operands, Call.operands])
    rw [h1] at fin
    exact fin (x := { target := .fn (.func f) cs, args := #[] }) (by simp [Deferred.ofValue]) ⟨#[], cs, rfl, trivial, h2⟩
  · rename_i f m l he
    cases hq
    obtain ⟨ms, cs, h1, h2, h3⟩ := evalOp_rel hs.t he fun t e => hx t (by rw [hop, e]; simp [Op.operands, Call.operands])
    rw [h1] at fin
    exact fin (x := { target := .fn (.func f) cs, args := ms }) (by simp [Deferred.ofValue]) ⟨ms, cs, rfl, h2, h3⟩
  · cases hq

theorem oper1_wp {cx : Cx} {e : Eng} (hE : EngSound I cx e) {s : St} {o : Oper} {k : St → Tree} {r : Option Nat} {n : Nat} {Q : Exit → Act → World → Prop} (hG : GOk cx.kn.globs A) (hd : r = none ∨ isDefer o.op = false) (hs : SRel A I cx.P X g s a w)
    (hx : ∀ t, .tmp t ∈ o.op.operands.toList → ¬ X t) (h : (oper1 cx e s o k).vc I g.env) : o.wpIn (FW r) n cx.P a w (NPost A I cx.P X g k) Q := by
  unfold oper1 at h
  rw [loudF_eq] at h
  split at h
  · rename_i v ps hq
    split at h
    · rename_i s' hset; exact quiet_wp hG hs hx hq hset h
    · exact h.elim
  · split at h
    · rename_i v s1 ps hq
      split at h
      · rename_i s' hset; exact loud_wp hs hx hq hset h
      · exact h.elim
    · split at h
      · rename_i f l hq; exact call_wp hE hG hs hx hq h
      · split at h
        · rename_i d hdf
          split at h
          · rename_i hdst
            exact defer_wp hd hs hx hdf hdst h
          · exact h.elim
        · exact h.elim

/-! ### Guards -/

theorem setBool_rel {s : St} {t : Nat} {c : E} {n : Int} (hs : SRel A I P X g s a w) (ht : get s.tmps t = some (.bool c)) (hc : c.den I g.env = some (.i n)) :
    SRel A I P X g (setBool s t (decide (n ≠ 0))) a w := by
  refine ⟨hs.m, fun u v hu hX => ?_, hs.nt, hs.d, hs.nv, hs.nb⟩
  have hu : get (putT t (.bool (.lit (if decide (n ≠ 0) = true then 1 else 0))) s.tmps) u = some v := hu
  rw [get_putT] at hu
  by_cases htu : t = u
  · subst htu
    rw [if_pos rfl] at hu; simp only [Option.some.injEq] at hu; subst hu
    obtain ⟨x, h1, m, h2, rfl⟩ := hs.t t _ ht hX
    rw [hc] at h2; simp at h2; subst h2
    refine ⟨_, h1, _, rfl, ?_⟩
    by_cases hn : n = 0 <;> simp [hn]
  · rw [if_neg htu] at hu
    exact hs.t u v hu hX

/-- The guard's temporary. -/
theorem yielded_of {ops : Array Oper} {j t : Nat} {tmps : Array Value} {b : Bool} (hj : (ops[j]?).bind (·.dst) = some t) (ht : tmps[t]? = some (.bool b)) : yielded ops tmps j = some b := by
  unfold yielded
  rw [hj]
  simp [ht]

theorem wantedA_inl {ops : Array Oper} {s : St} {o : Oper} {b : Bool} (hs : SRel A I P X g s a w) (hX : ∀ t ∈ guardT ops o, ¬ X t) (h : wantedA ops s o = some (.inl b)) :
    Region.wanted o (yielded ops a.tmps) = b := by
  unfold wantedA at h
  unfold Region.wanted
  split at h
  · rename_i hg; rw [hg]; simpa using h
  · rename_i j want hg
    rw [hg]
    simp only
    split at h
    · rename_i t hj
      have hXt : ¬ X t := hX t (by simp only [guardT, hg, hj]; simp)
      split at h
      · rename_i n ht
        obtain ⟨x, h1, m, h2, rfl⟩ := hs.t t _ ht hXt
        simp [E.den] at h2; subst h2
        rw [yielded_of hj h1]
        simp at h
        rw [← h]
        by_cases hn : n = 0 <;> cases want <;> simp [hn]
      · cases h
      · rename_i ht
        obtain ⟨x, h1, h2⟩ := hs.t t _ ht hXt
        simp only [Rel] at h2
        subst h2
        simp at h; subst h
        unfold yielded
        rw [hj]
        simp [h1, Go.undef]
      · cases h
    · cases h

theorem wantedA_inr {ops : Array Oper} {s : St} {o : Oper} {t : Nat} {c : E} (hs : SRel A I P X g s a w) (hX : ∀ t ∈ guardT ops o, ¬ X t) (h : wantedA ops s o = some (.inr (t, c))) :
    ∃ j want, o.guard = some (j, want) ∧ get s.tmps t = some (.bool c) ∧ ∃ n : Int, c.den I g.env = some (.i n) ∧ Region.wanted o (yielded ops a.tmps) = (decide (n ≠ 0) == want) := by
  unfold wantedA at h
  split at h
  · simp at h
  · rename_i j want hg
    split at h
    · rename_i t' hj
      have hXt : ¬ X t' := hX t' (by simp only [guardT, hg, hj]; simp)
      split at h
      · cases h
      · rename_i e ht
        simp at h
        obtain ⟨rfl, rfl⟩ := h
        obtain ⟨x, h1, n, h2, rfl⟩ := hs.t t' _ ht hXt
        refine ⟨j, want, hg, ht, n, h2, ?_⟩
        unfold Region.wanted
        rw [hg]
        simp only
        rw [yielded_of hj h1]
        by_cases hn : n = 0 <;> cases want <;> simp [hn]
      · cases h
      · cases h
    · cases h

theorem pickA_some {s : St} {o : Oper} {t : Nat} {c : E} (h : pickA s o = some (t, c)) : get s.tmps t = some (.bool c) ∧ .tmp t ∈ o.op.operands.toList := by
  unfold pickA at h
  split at h
  · rename_i t' x y hop
    split at h
    · cases h
    · rename_i e _ ht
      simp at h
      obtain ⟨rfl, rfl⟩ := h
      exact ⟨ht, by rw [hop]; simp [Op.operands]⟩
    · cases h
  · cases h

theorem splitO_some {s : St} {o : Op} {i : Nat} {kd : IntKind} {x : E} {n : Nat} (h : splitO s o = some (i, kd, x, n)) : get s.tmps i = some (.int kd x) := by
  unfold splitO at h
  split at h
  · split at h
    · rename_i hg
      split at h
      · split at h
        · simp at h
          obtain ⟨rfl, rfl, rfl, rfl⟩ := h
          exact hg
        · cases h
      · cases h
    · rename_i hg
      split at h
      · split at h
        · simp at h
          obtain ⟨rfl, rfl, rfl, rfl⟩ := h
          exact hg
        · cases h
      · cases h
    · cases h
  · cases h
theorem splitA_some {s : St} {o : Oper} {i : Nat} {kd : IntKind} {x : E} {n : Nat} (h : splitA s o = some (i, kd, x, n)) : get s.tmps i = some (.int kd x) := splitO_some h

theorem splitT_vc {x : E} {f : Nat → Tree} {env : List D} {z : Int} (hx : x.den I env = some (.i z)) : ∀ {n : Nat}, (splitT x f n).vc I env → ∃ j : Nat, z = j ∧ (f j).vc I env
  | 0, h => h.elim
  | n + 1, h => by
    obtain ⟨h1, h2⟩ := h
    have hd := den_mkBin (o := .eq) hx (show (E.lit (n : Int)).den I env = some (.i n) from rfl)
    by_cases hz : z = n
    · exact ⟨n, hz, h1 _ hd (by simp [BO.ev, hz])⟩
    · simp only [BO.ev, if_neg hz] at hd
      exact splitT_vc hx (h2 hd)

theorem operS_wp {cx : Cx} {e : Eng} (hE : EngSound I cx e) {s : St} {o : Oper} {k : St → Tree} {r : Option Nat} {n : Nat} {Q : Exit → Act → World → Prop}
    (hG : GOk cx.kn.globs A) (hd : r = none ∨ isDefer o.op = false) (hs : SRel A I cx.P (fun _ => False) g s a w) (h : (operS cx e s o k).vc I g.env) : o.wpIn (FW r) n cx.P a w (NPost A I cx.P (fun _ => False) g k) Q := by
  unfold operS at h
  split at h
  · rename_i i kd x m hsp
    have ht := splitA_some hsp
    obtain ⟨y, h1, z, h2, rfl⟩ := hs.t i _ ht (fun h => h)
    obtain ⟨j, rfl, hv⟩ := splitT_vc h2 h
    refine oper1_wp hE hG hd (s := setInt s i kd j) ⟨hs.m, fun t v hv' hX => ?_, hs.nt, hs.d, hs.nv, hs.nb⟩ (fun _ _ h => h) hv
    have hv' : get (putT i (.int kd (.lit j)) s.tmps) t = some v := hv'
    rw [get_putT] at hv'
    by_cases hit : i = t
    · subst hit
      rw [if_pos rfl] at hv'
      simp only [Option.some.injEq] at hv'
      subst hv'
      exact ⟨_, h1, j, rfl, rfl⟩
    · rw [if_neg hit] at hv'
      exact hs.t t v hv' hX
  · exact oper1_wp hE hG hd hs (fun _ _ h => h) h

/-- One operation of a region, guard and all. -/
theorem oper_wp {cx : Cx} {e : Eng} (hE : EngSound I cx e) {ops : Array Oper} {s : St} {o : Oper} {k : St → Tree} {r : Option Nat} {n : Nat} {Q : Exit → Act → World → Prop}
    (hG : GOk cx.kn.globs A) (hd : r = none ∨ isDefer o.op = false) (hs : SRel A I cx.P (fun _ => False) g s a w) (h : (oper cx e ops s o k).vc I g.env) :
    if Region.wanted o (yielded ops a.tmps) then o.wpIn (FW r) n cx.P a w (NPost A I cx.P (fun _ => False) g k) Q
    else (∀ f, o.about cx.P w a.eval = some f → (FW r).fn f) ∧ NPost A I cx.P (fun _ => False) g k (a.put o.dst Go.undef) w := by
  have hX : ∀ (l : List Nat), ∀ t ∈ l, ¬ (fun _ : Nat => False) t := fun _ _ _ h => h
  have hgo : ∀ (s : St) (wt : Bool), SRel A I cx.P (fun _ => False) g s a w →
      (if wt then match pickA s o with
        | some (t, c) => Tree.branch c (oper1 cx e (setBool s t true) o k) (oper1 cx e (setBool s t false) o k)
        | none => operS cx e s o k
      else match setT s o.dst .undef with
        | some s' => k s'
        | none => .fail 24).vc I g.env →
      if wt then o.wpIn (FW r) n cx.P a w (NPost A I cx.P (fun _ => False) g k) Q
      else (∀ f, o.about cx.P w a.eval = some f → (FW r).fn f) ∧ NPost A I cx.P (fun _ => False) g k (a.put o.dst Go.undef) w := by
    intro s wt hs hv
    cases wt with
    | true =>
      simp only [if_true] at hv ⊢
      split at hv
      · rename_i t c hp
        obtain ⟨ht, _⟩ := pickA_some hp
        obtain ⟨h1, h2⟩ := hv
        obtain ⟨x, _, m, h4, _⟩ := hs.t t _ ht (fun h => h)
        have hsb := setBool_rel hs ht h4
        by_cases hm : m = 0
        · subst hm
          exact oper1_wp hE hG hd (by simpa using hsb) (fun _ _ h => h) (h2 h4)
        · rw [show decide (m ≠ 0) = true by simp [hm]] at hsb
          exact oper1_wp hE hG hd hsb (fun _ _ h => h) (h1 m h4 hm)
      · exact operS_wp hE hG hd hs hv
    | false =>
      simp only [Bool.false_eq_true, if_false] at hv ⊢
      split at hv
      · rename_i s' hset
        exact ⟨fun _ _ => trivial, g, s', .refl _, hs.setT (v := .undef) rfl hset, hv⟩
      · exact hv.elim
  unfold oper at h
  simp only at h
  split at h
  · rename_i wt hw
    rw [wantedA_inl hs (hX _) hw]
    exact hgo s wt hs h
  · rename_i t c hw
    obtain ⟨j, want, hg, ht, m, hc, hwt⟩ := wantedA_inr hs (hX _) hw
    rw [hwt]
    rw [hg] at h
    simp only at h
    obtain ⟨h1, h2⟩ := h
    have hsb := setBool_rel hs ht hc
    by_cases hm : m = 0
    · subst hm
      rw [show decide ((0 : Int) ≠ 0) = false by simp] at hsb ⊢
      exact hgo _ _ hsb (h2 hc)
    · rw [show decide (m ≠ 0) = true by simp [hm]] at hsb ⊢
      exact hgo _ _ hsb (h1 m hc hm)
  · exact h.elim

theorem NPost.mono_k {X : Nat → Prop} {g g1 : G} {k : St → Tree} (h : g.Le g1) {a : Act} {w : World} (hn : NPost A I P X g1 k a w) : NPost A I P X g k a w := by
  obtain ⟨g', s', h1, h2⟩ := hn
  exact ⟨g', s', h.trans h1, h2⟩

theorem runOps_wp {cx : Cx} {e : Eng} (hE : EngSound I cx e) {ops : Array Oper} {r : Option Nat} {n : Nat} {Q : Exit → Act → World → Prop} {k : St → Tree} (hG : GOk cx.kn.globs A) (hd : r = none ∨ ∀ (i : Nat) (o : Oper), ops[i]? = some o → isDefer o.op = false) : ∀ {l : List Nat} {g : G} {s : St} {a : Act} {w : World},
    SRel A I cx.P (fun _ => False) g s a w → (runOps cx e ops l s k).vc I g.env → (∀ g' a' w', g.Le g' → NPost A I cx.P (fun _ => False) g' k a' w' → Q .normal a' w') → wpOpsIn (FW r) n cx.P ops Q l a w
  | [], g, s, a, w, hs, h, hQ => hQ g a w (.refl _) ⟨g, s, .refl _, hs, h⟩
  | i :: l, g, s, a, w, hs, h, hQ => by
    rw [wpOpsIn_cons]
    unfold wpOpIn
    simp only [runOps] at h
    cases ho : ops[i]? with
    | none =>
      simp only [ho] at h ⊢
      exact runOps_wp hE hG hd hs h hQ
    | some o =>
      simp only [ho] at h ⊢
      have := oper_wp (r := r) (n := n) (Q := Q) hE hG (hd.imp id fun hd => hd i o ho) hs h
      have hnext : ∀ a' w', NPost A I cx.P (fun _ => False) g (fun s' => runOps cx e ops l s' k) a' w' → wpOpsIn (FW r) n cx.P ops Q l a' w' := by
        intro a' w' ⟨g', s', h1, h2, h3⟩
        exact runOps_wp hE hG hd h2 h3 fun g2 a2 w2 h4 h5 => hQ g2 a2 w2 (h1.trans h4) h5
      split
      · rename_i hw
        rw [if_pos hw] at this
        exact Oper.wpIn_mono hnext this
      · rename_i hw
        rw [if_neg hw] at this
        exact ⟨this.1, hnext _ _ this.2⟩
end Go.Sx
