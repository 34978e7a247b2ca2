/-
  The executor is sound: every step, and so the whole. Conditions: none.
-/
import Derived.Test.YtdelhnefoccnbaaGreatDoorA4
import Derived.RangeFuncNested
import Derived.ProofKit
import Derived.WideKeyArgs
import Derived.OpenShut
namespace Go.Sx
open Go
variable {A : Amb} {I : Itp} {P : Program} {g : G} {X : Nat → Prop} {ts : Tmps} {a : Act} {M : Mem} {w : World} {ops : Array Oper}
def Exit.noLabel (Q : Exit → Act → World → Prop) : Exit → Act → World → Prop
  | .goto _, _, _ => False
  | e, a, w => Q e a w
theorem wpIn_scope {F : Fence} {n : Nat} {P : Program} {Q : Exit → Act → World → Prop} {a : Act} {w : World} {c : Code} (h : c.wpIn F n P (Exit.noLabel Q) a w) : (Code.scope c).wpIn F n P Q a w := by
  intro b k cs hro hb hr
  have h0 : (lone (b.atR a (.code (.scope c) :: k)) cs w).fenced P F := fenced_calm hb hr rfl
  have hs : step P (lone (b.atR a (.code (.scope c) :: k)) cs w) = .next (lone (b.atR a (.code c :: .inScope c :: k)) cs w) := step_lone_go (by simp [stepG, stepG.exec, Frame.atR])
  have hi : ∀ (a : Act) (w : World), step P (lone (b.atR a (.inScope c :: k)) cs w) = .next (lone (b.atR a k) cs w) := fun a w => step_lone_go (by simp [stepG, stepG.exec, Frame.atR])
  obtain ⟨e, a₁, w₁, hq, harr⟩ := h b (.inScope c :: k) cs hro hb hr
  cases e with
  | normal => exact ⟨.normal, a₁, w₁, hq, .head h0 hs (StepsIn.trans harr (.one (fenced_calm hb hr rfl) (hi a₁ w₁)))⟩
  | exit id' =>
    have hx : exitTo id' (.inScope c :: k) = exitTo id' k := by simp [exitTo]
    exact ⟨.exit id', a₁, w₁, hq, fun k' hk => .head h0 hs (harr.1 k' (by rw [hx]; exact hk)),
      fun hr' hk => let ⟨k₁, h1, h2⟩ := harr.2 hr' (by rw [hx]; exact hk); ⟨k₁, h1, .head h0 hs h2⟩⟩
  | goto l => exact hq.elim
  | ret => exact ⟨_, a₁, w₁, hq, .of_steps (.one h0 hs) harr⟩
  | panic ch => exact ⟨_, a₁, w₁, hq, .of_steps (.one h0 hs) harr⟩
  | outgrown => exact ⟨_, a₁, w₁, hq, .of_steps (.one h0 hs) harr⟩
theorem Post.mono {g1 : G} {k : Ex → St → Tree} (h : g.Le g1) {e : Exit} (hp : Post A I P X g1 k e a w) : Post A I P X g k e a w := by
  obtain ⟨x, g', s', h1, h2, h3⟩ := hp
  exact ⟨x, g', s', h1, h.trans h2, h3⟩
theorem rangeEnd_post {l : Nat} {pl : PB} {k : Ex → St → Tree} {r : Option Nat} {n : Nat} {g2 : G} {a2 : Act} {v : Value} {w3 : World} (hle : g.Le g2) (hw2 : g2.wf) (hl : g2.φ l = some pl)
    (h : CPost A I P (fun _ => False) g2 a2 (fun _ s3 => rangeEnd l k s3) v w3) : rangePost (FW r) n P pl.blk (Post A I P (fun _ => False) g k) a2 (.returned v) w3 := by
  obtain ⟨av, g3, s3, hle3, _, hs3, hk⟩ := h
  have hl3 := hle3.some hw2 hl
  unfold rangeEnd at hk
  dsimp only at hk
  split at hk
  rotate_left
  · exact hk.elim
  rename_i st j fn' ix' nt' ts' d' hg
  split at hk
  · exact hk.elim
  rename_i hst
  obtain ⟨p', q, rl, rf, hp', hq, hh, hrf, h1, h2, h3, h4, h5, h6, h7, h8⟩ := hs3.m.blk l _ hg
  rw [hl3] at hp'; cases hp'
  have hlt := hs3.m.bnd l pl hl3
  have hm4 : MRel A I P g3 (put l (.loop .exhausted j fn' ix' nt' ts' d') s3.mem) (w3.putObj pl.blk (.loop { rl with state := .exhausted })) :=
    hs3.m.write hg rfl hl3 (by simp) (fun i hi => World.putObj_heap_other hi) ⟨pl, q, _, rf, hl3, hq, World.putObj_heap_same hlt, hrf, rfl, h2, h3, h4, h5, h6, h7, h8⟩
  have hs4 : SRel A I P (fun _ => False) g3 { s3 with mem := put l (.loop .exhausted j fn' ix' nt' ts' d') s3.mem } a2 (w3.putObj pl.blk (.loop { rl with state := .exhausted })) :=
    ⟨hm4, hs3.t, hs3.nt, hs3.d, hs3.nv, hs3.nb⟩
  refine ⟨_, _, run_endLoop hh (by rw [h1]; exact hst), ?_⟩
  rw [h2] at hs4 ⊢
  cases j with
  | none => exact ⟨.normal, g3, { s3 with mem := put l (.loop .exhausted none fn' ix' nt' ts' d') s3.mem }, rfl, hle.trans hle3, hs4, hk⟩
  | some j =>
    cases j with
    | ret => exact wpIn_ret ⟨.ret, g3, { s3 with mem := put l (.loop .exhausted (some .ret) fn' ix' nt' ts' d') s3.mem }, rfl, hle.trans hle3, hs4, hk⟩
    | exit id => exact wpIn_exit ⟨.exit id, g3, { s3 with mem := put l (.loop .exhausted (some (.exit id)) fn' ix' nt' ts' d') s3.mem }, rfl, hle.trans hle3, hs4, hk⟩
    | goto l => exact hk.elim
theorem rangeGo_wp {cx : Cx} {e : Eng} (hE : EngSound I cx e) (hG : GOk cx.kn.globs A) {fn : FuncId} {o gf : Nat} {cap : List AV} {d : Nat} {s1 : St} {k : Ex → St → Tree} {g1 : G} {a1 : Act} {w1 : World} {q : PB} {r : Option Nat} {n : Nat}
    {rf : RF} {rl : Loop} {cs : Array Value} (hrf : rfAt cx.P fn o = some rf) (hle : g.Le g1) (hs : SRel A I cx.P (fun _ => False) g1 s1 a1 w1) (hq : g1.φ d = some q) (h : (rangeGo e fn o gf cap d s1 k).vc I g1.env)
    (hcap : Rels I g1 cap cs.toList) (h1 : rl.state = .ready) (h2 : rl.pending = none) (h3 : rl.params.toList = rf.params) (h4 : rl.assign = rf.assign) (h5 : rl.body = rf.body) (h6 : rl.defers = q.blk) (h7 : rl.tmps = a1.tmps) :
    (∃ fn c, cx.P.funcs[gf]? = some fn ∧ fn.body = some c ∧ (fn.name == "runtime.NumGoroutine") = false) ∧
    Calls cx.P gf (#[Value.func (.yield w1.heap.size) #[] #[]] ++ cs) (w1.alloc (.loop rl)) (rangePost (FW r) n cx.P w1.heap.size (Post A I cx.P (fun _ => False) g k) a1) := by
  unfold rangeGo at h
  let pl : PB := ⟨w1.heap.size, 0, 0⟩
  have hle2 := g1.lay_le (some pl)
  have hl : (g1.lay (some pl)).φ s1.nb = some pl := by simp [G.lay, hs.nb]
  have hq2 := hle2.some hs.m.wf hq
  have hm2 : MRel A I cx.P (g1.lay (some pl)) ((g1.nb, .loop .ready none fn o s1.nt s1.tmps d) :: s1.mem) (w1.alloc (.loop rl)) :=
    hs.m.alloc (fun _ _ h => h) rfl ⟨pl, q, rl, rf, by simp [G.lay], hq2, heap_alloc_new w1 _, hrf, h1, h2, h3, h4, h5, h6, by rw [h7]; exact hs.nt, by rw [h7]; exact hs.t.le hle2 hs.m.wf⟩
  rw [hs.nb] at hm2
  have hs2 : SRel A I cx.P (fun _ => False) (g1.lay (some pl)) (newBlk s1 (.loop .ready none fn o s1.nt s1.tmps d)) a1 (w1.alloc (.loop rl)) := hs.lay hm2
  have hargs : Rels I (g1.lay (some pl)) ([.yld s1.nb] ++ cap) ([Value.func (.yield w1.heap.size) #[] #[]] ++ cs.toList) :=
    Rels.append ⟨⟨pl, hl, rfl⟩, trivial⟩ (hcap.le hle2 hs.m.wf)
  obtain ⟨h8, h9⟩ := hE.callf (g := g1.lay (some pl)) hG h hs2 hargs
  refine ⟨h8, ?_⟩
  have e : (#[Value.func (.yield w1.heap.size) #[] #[]] ++ cs) = ([Value.func (.yield w1.heap.size) #[] #[]] ++ cs.toList).toArray := by simp
  rw [e]
  refine h9.mono fun e w' he => ?_
  obtain ⟨v, rfl, hv⟩ := he
  exact rangeEnd_post (hle.trans hle2) hs2.m.wf hl hv
theorem range_wp {cx : Cx} {e : Eng} (hE : EngSound I cx e) (hG : GOk cx.kn.globs A) {fn : FuncId} {rnd r : Option Nat} {bid o : Nat} {f : Operand} {ps : Array Tmp} {ac bc : Code} {s : St} {k : Ex → St → Tree}
    (h : (execStep cx e fn rnd bid o (.rangeFunc f ps ac bc) s k).vc I g.env) (hs : SRel A I cx.P (fun _ => False) g s a w) (hr : RndRel g rnd r) (hc : COK cx.P fn o (.rangeFunc f ps ac bc)) (n : Nat) :
    (Code.rangeFunc f ps ac bc).wpIn (FW r) n cx.P (Post A I cx.P (fun _ => False) g k) a w := by
  simp only [execStep] at h
  split at h
  rotate_left
  · exact h.elim
  rename_i gf cap hev
  have hrf : rfAt cx.P fn o = some { params := ps.toList, assign := ac, body := bc } := by
    have := hc 0 _ (by simp [rfs]; rfl)
    simpa using this
  obtain ⟨cs, hx, hcap⟩ : Rel I g (.func gf cap) (a.eval f) := evalOp_rel hs.t hev fun _ _ h => h
  have hres : ∀ (l : Nat) (w1 : World), (resolve a.eval (rangeCall f l) 0).run cx.P w1 = .ok { target := .fn (.func gf) cs, args := #[Value.func (.yield l) #[] #[]] } w1 := by
    intro l w1
    have e : resolve a.eval (rangeCall f l) 0 = Deferred.ofValue (a.eval f) #[Value.func (.yield l) #[] #[]] := by
      have e2 : a.eval (.const (.func (.yield l) #[] #[])) = Value.func (.yield l) #[] #[] := rfl
      simp only [resolve, List.map_toArray, List.map_cons, List.map_nil, e2]
    rw [e, hx]
    simp [Deferred.ofValue]
  refine wpIn_rangeFunc fun fn' _ => ?_
  split at h
  · -- an outermost loop
    cases r with
    | some r => exact hr.elim
    | none =>
    let q : PB := ⟨w.heap.size, 0, 0⟩
    have hle1 := g.lay_le (some q)
    have hm1 : MRel A I cx.P (g.lay (some q)) ((g.nb, .dfr true) :: s.mem) (w.alloc (.deferred (some []))) :=
      hs.m.alloc (fun _ _ h => h) rfl ⟨q, by simp [G.lay], heap_alloc_new w _⟩
    rw [hs.nb] at hm1
    have hs1 : SRel A I cx.P (fun _ => False) (g.lay (some q)) { newBlk s (.dfr true) with defers := .blk s.nb :: s.defers } { a with defers := [{ target := .collected w.heap.size, args := #[] }] ++ a.defers } (w.alloc (.deferred (some []))) :=
      ⟨hm1, hs.t.le hle1 hs.m.wf, hs.nt, ⟨⟨q, by simp [G.lay, hs.nb], rfl⟩, hs.d.le hle1 hs.m.wf⟩, hs.nv, by simp [G.lay, newBlk, hs.nb]⟩
    obtain ⟨⟨fnn, c, h1, h2, h3⟩, h4⟩ := rangeGo_wp (r := none) (n := n) (g := g) (rl := { state := .ready, pending := none, fn := fn', tmps := a.tmps, params := ps, assign := ac, body := bc, defers := w.heap.size })
      hE hG hrf hle1 hs1 (q := q) (by simp [G.lay, hs.nb]) h (hcap.le hle1 hs.m.wf) rfl rfl rfl rfl rfl rfl rfl
    obtain ⟨W, hW⟩ : ∃ W, (w.alloc (.deferred (some []))).alloc (.loop { state := .ready, pending := none, fn := fn', tmps := a.tmps, params := ps, assign := ac, body := bc, defers := w.heap.size }) = W := ⟨_, rfl⟩
    rw [hW] at h4
    have e : (w.alloc (.deferred (some []))).heap.size = w.heap.size + 1 := by simp
    rw [e] at h4
    refine ⟨w.heap.size + 1, [{ target := .collected w.heap.size, args := #[] }], W, _, W, gf, #[Value.func (.yield (w.heap.size + 1)) #[] #[]] ++ cs, W, by rw [← hW]; exact run_enterLoop_outer _ _ _ _ _, hres _ _, fun _ _ => trivial, ?_, fun h => by simp [FW, Fence.wide] at h, ?_⟩
    · have := run_callFunc (w := W) h1 h2 h3 (#[Value.func (.yield (w.heap.size + 1)) #[] #[]] ++ cs)
      simpa [invoke] using this
    · rw [callsIn_FW]; exact h4
  · -- a loop within a round
    rename_i l0
    cases r with
    | none => exact hr.elim
    | some r =>
    obtain ⟨p0, hp0, rfl⟩ := hr
    split at h
    rotate_left
    · exact h.elim
    rename_i d hg0
    obtain ⟨p', q, rl0, rf0, hp', hq, hh, _, _, _, _, _, _, h6, _, _⟩ := hs.m.blk l0 _ hg0
    rw [hp0] at hp'; cases hp'
    obtain ⟨⟨fnn, c, h1, h2, h3⟩, h4⟩ := rangeGo_wp (r := some p0.blk) (n := n) (g := g) (rl := { state := .ready, pending := none, fn := fn', tmps := a.tmps, params := ps, assign := ac, body := bc, defers := rl0.defers })
      hE hG hrf (.refl g) hs hq h hcap rfl rfl rfl rfl rfl h6 rfl
    obtain ⟨W, hW⟩ : ∃ W, w.alloc (.loop { state := .ready, pending := none, fn := fn', tmps := a.tmps, params := ps, assign := ac, body := bc, defers := rl0.defers }) = W := ⟨_, rfl⟩
    rw [hW] at h4
    refine ⟨w.heap.size, [], W, _, W, gf, #[Value.func (.yield w.heap.size) #[] #[]] ++ cs, W, by rw [← hW]; exact run_enterLoop_inner hh _ _ _ _ _, hres _ _, fun _ _ => trivial, ?_, fun h => by simp [FW, Fence.wide] at h, ?_⟩
    · have := run_callFunc (w := W) h1 h2 h3 (#[Value.func (.yield w.heap.size) #[] #[]] ++ cs)
      simpa [invoke] using this
    · rw [callsIn_FW]; simpa using h4
theorem exec_sound {cx : Cx} {e : Eng} (hE : EngSound I cx e) (hG : GOk cx.kn.globs A) {fn : FuncId} {rnd r : Option Nat} {bid o : Nat} {c : Code} {s : St} {k : Ex → St → Tree}
    (h : (execStep cx e fn rnd bid o c s k).vc I g.env) (hs : SRel A I cx.P (fun _ => False) g s a w) (hr : RndRel g rnd r) (hc : COK cx.P fn o c) (n : Nat) :
    c.wpIn (FW r) n cx.P (Post A I cx.P (fun _ => False) g k) a w := by
  cases c with
  | skip => exact wpIn_skip ⟨.normal, g, s, rfl, .refl _, hs, h⟩
  | label l => exact wpIn_label ⟨.normal, g, s, rfl, .refl _, hs, h⟩
  | ret => exact wpIn_ret ⟨.ret, g, s, rfl, .refl _, hs, h⟩
  | exit id => exact wpIn_exit ⟨.exit id, g, s, rfl, .refl _, hs, h⟩
  | seq x y =>
    simp only [execStep] at h
    have hcx : COK cx.P fn o x := fun i rf hi => hc i rf (by
      simp only [rfs]
      rw [List.getElem?_append_left]
      · exact hi
      · rcases Nat.lt_or_ge i (rfs x).length with h | h
        · exact h
        · rw [List.getElem?_eq_none (by simpa using h)] at hi; cases hi)
    have hcy : COK cx.P fn (o + (rfs x).length) y := fun i rf hi => by
      have := hc ((rfs x).length + i) rf (by
        simp only [rfs]
        rw [List.getElem?_append_right (by omega)]
        simpa using hi)
      rw [← Nat.add_assoc] at this
      exact this
    refine wpIn_seq (wpIn_mono (hE.exec hG h hs hr hcx n) fun ex a1 w1 hp => ?_)
    obtain ⟨x1, g1, s1, rfl, hle, hs1, hk⟩ := hp
    cases x1 with
    | normal => exact wpIn_mono (hE.exec hG hk hs1 (hr.le hle hs.m.wf) hcy n) fun ex a2 w2 hp => hp.mono hle
    | ret => exact ⟨.ret, g1, s1, rfl, hle, hs1, hk⟩
    | exit id => exact ⟨.exit id, g1, s1, rfl, hle, hs1, hk⟩
    | goto l => exact ⟨.goto l, g1, s1, rfl, hle, hs1, hk⟩
  | block id b =>
    simp only [execStep] at h
    refine wpIn_block (wpIn_mono (hE.exec hG h hs hr (fun i rf hi => hc i rf (by simpa [rfs] using hi)) n) fun ex a1 w1 hp => ?_)
    obtain ⟨x1, g1, s1, rfl, hle, hs1, hk⟩ := hp
    cases x1 with
    | normal => exact ⟨.normal, g1, s1, rfl, hle, hs1, hk⟩
    | ret => exact ⟨.ret, g1, s1, rfl, hle, hs1, hk⟩
    | exit id' =>
      dsimp only at hk
      simp only [Ex.toX, Exit.inBlock]
      split at hk
      · rename_i he; rw [if_pos he]; exact ⟨.normal, g1, s1, rfl, hle, hs1, hk⟩
      · rename_i he; rw [if_neg he]; exact ⟨.exit id', g1, s1, rfl, hle, hs1, hk⟩
    | goto l => exact ⟨.goto l, g1, s1, rfl, hle, hs1, hk⟩
  | scope b =>
    simp only [execStep] at h
    refine wpIn_scope (wpIn_mono (hE.exec hG h hs hr (fun i rf hi => hc i rf (by simpa [rfs] using hi)) n) fun ex a1 w1 hp => ?_)
    obtain ⟨x1, g1, s1, rfl, hle, hs1, hk⟩ := hp
    cases x1 with
    | normal => exact ⟨.normal, g1, s1, rfl, hle, hs1, hk⟩
    | ret => exact ⟨.ret, g1, s1, rfl, hle, hs1, hk⟩
    | exit id' => exact ⟨.exit id', g1, s1, rfl, hle, hs1, hk⟩
    | goto l => exact hk.elim
  | cond c x y =>
    simp only [execStep] at h
    have hcx : COK cx.P fn o x := fun i rf hi => hc i rf (by
      simp only [rfs]
      rw [List.getElem?_append_left]
      · exact hi
      · rcases Nat.lt_or_ge i (rfs x).length with h | h
        · exact h
        · rw [List.getElem?_eq_none (by simpa using h)] at hi; cases hi)
    have hcy : COK cx.P fn (o + (rfs x).length) y := fun i rf hi => by
      have := hc ((rfs x).length + i) rf (by
        simp only [rfs]
        rw [List.getElem?_append_right (by omega)]
        simpa using hi)
      rw [← Nat.add_assoc] at this
      exact this
    split at h
    · rename_i m hev
      obtain ⟨m', h1, h2⟩ : Rel I g (.bool (.lit m)) (a.eval c) := evalOp_rel hs.t hev fun _ _ h => h
      simp [E.den] at h1; subst h1
      split at h
      · rename_i hm
        subst hm
        exact wpIn_cond_false (by simpa using h2) (hE.exec hG h hs hr hcy n)
      · rename_i hm
        exact wpIn_cond_true (by simpa [hm] using h2) (hE.exec hG h hs hr hcx n)
    · rename_i q _ hev
      obtain ⟨m, h1, h2⟩ : Rel I g (.bool q) (a.eval c) := evalOp_rel hs.t hev fun _ _ h => h
      obtain ⟨h3, h4⟩ := h
      by_cases hm : m = 0
      · subst hm
        exact wpIn_cond_false (by simpa using h2) (hE.exec hG (h4 h1) hs hr hcy n)
      · exact wpIn_cond_true (by simpa [hm] using h2) (hE.exec hG (h3 m h1 hm) hs hr hcx n)
    · exact h.elim
  | loop b => exact (hE.loop hG h hs hr (fun i rf hi => hc i rf (by simpa [rfs] using hi)) n).wp
  | region id ops dr =>
    cases dr with
    | false =>
      simp only [execStep] at h
      split at h
      · exact h.elim
      rename_i hdf
      have hd : r = none ∨ ∀ (i : Nat) (o : Oper), ops[i]? = some o → isDefer o.op = false := by
        cases rnd with
        | none => cases r with
          | none => exact .inl rfl
          | some _ => exact hr.elim
        | some b =>
          right
          intro i o ho
          simp only [Option.isSome_some, Bool.true_and, Bool.not_eq_true] at hdf
          rw [Array.any_eq_false'] at hdf
          cases hb : isDefer o.op with
          | false => rfl
          | true => exact absurd hb (hdf o (Array.mem_of_getElem? ho))
      exact wpIn_region (runOps_wp hE hG hd hs h fun g' a' w' hle hn => by
        obtain ⟨g2, s2, h1, h2, h3⟩ := hn
        exact ⟨.normal, g2, s2, rfl, hle.trans h1, h2, h3⟩)
    | true =>
      simp only [execStep] at h
      split at h
      rotate_left
      · exact h.elim
      rename_i hcond
      simp only [Bool.and_eq_true] at hcond
      have hD := drawOk_spec hcond.1
      have hs' : SRel A I cx.P (fun _ => False) g s a { w with drawn := w.drawn + 1 } := ⟨hs.m.heap_eq rfl, hs.t, hs.nt, hs.d, hs.nv, hs.nb⟩
      refine wpIn_region_any hcond.2 ?_
      refine drawGo_wp hE hG hD (g0 := g) (k := fun s' => k .normal s') (fun g' s' a' w' h1 h2 h3 => ⟨.normal, g', s', rfl, h1, h2, h3⟩) ops.size _ g _ _ a _ (List.range ops.size) (.refl g) h ?_ (fun i b x hm => by simp at hm) (by simp) (fun i hi _ => by simpa using hi)
      refine ⟨hs'.weaken fun t h => h.elim, by simp, fun i hi => ?_, fun i hi => absurd hi Ns.not_none, fun i o hi => absurd hi Ns.not_none, fun i b x hm => by simp at hm, rfl, rfl, fun i b x o hm => by simp at hm, fun i hi => absurd hi Ns.not_none, fun c b hc => by simp [getE] at hc, fun i hi => absurd hi Ns.not_none, fun i hi => ?_⟩
      · exfalso
        simp only [Array.getD_eq_getD_getElem?, Array.getElem?_replicate] at hi
        split at hi <;> simp at hi
      · exfalso
        simp only [Array.getD_eq_getD_getElem?, Array.getElem?_replicate] at hi
        split at hi <;> simp at hi
  | rangeFunc f ps x y => exact range_wp hE hG h hs hr hc n
  | _ => exact h.elim
theorem loop_sound {cx : Cx} {e : Eng} (hE : EngSound I cx e) (hG : GOk cx.kn.globs A) {fn : FuncId} {rnd r : Option Nat} {bid o : Nat} {c : Code} {s : St} {k : Ex → St → Tree}
    (h : (loopStep cx e fn rnd bid o c s k).vc I g.env) (hs : SRel A I cx.P (fun _ => False) g s a w) (hr : RndRel g rnd r) (hc : COK cx.P fn o c) (n : Nat) :
    LoopWp (FW r) n cx.P c (Post A I cx.P (fun _ => False) g k) a w := by
  unfold loopStep at h
  split at h
  · exact loopHead_wp hE hG h hs hr hc n
  · refine LoopWp.round (wpIn_mono (hE.exec hG h hs hr hc n) fun ex a1 w1 hp => ?_)
    obtain ⟨x1, g1, s1, rfl, hle, hs1, hk⟩ := hp
    cases x1 with
    | normal =>
      have hs1 : SRel A I cx.P (fun _ => False) g1 { s1 with tmps := keepL s.tmps s1.tmps, mem := gcR s.nb { s1 with tmps := keepL s.tmps s1.tmps } } a1 w1 := { hs1 with t := fun t v h1 h2 => hs1.t t v (get_keepL h1) h2, m := hs1.m.sub fun b y hb => gcR_get (s := { s1 with tmps := keepL s.tmps s1.tmps }) hb }
      have := hE.loop hG hk hs1 (hr.le hle hs.m.wf) hc n
      intro b k' cs h1 h2 h3
      obtain ⟨e', a', w', hq, harr⟩ := this b k' cs h1 h2 h3
      exact ⟨e', a', w', hq.mono hle, harr⟩
    | ret => exact ⟨.ret, g1, s1, rfl, hle, hs1, hk⟩
    | exit id => exact ⟨.exit id, g1, s1, rfl, hle, hs1, hk⟩
    | goto l => exact ⟨.goto l, g1, s1, rfl, hle, hs1, hk⟩
theorem eng_sound {cx : Cx} (hC : ∀ c ∈ cx.cs, COk I cx.P cx.kn.globs c) : ∀ n, EngSound I cx (eng cx n)
  | 0 => ⟨fun _ h => h.elim, fun _ h => h.elim, fun _ h => h.elim, fun _ h => h.elim⟩
  | n + 1 =>
    have hE := eng_sound hC n
    ⟨fun hG h hs hr hc => exec_sound hE hG h hs hr hc, fun hG h hs hr hc => loop_sound hE hG h hs hr hc, fun hG h hs hf ha => callv_sound hE hG hC h hs hf ha, fun hG h hs ha => callF_sound hE hG hC h hs ha⟩
end Go.Sx
namespace Go.Sx
open Go
variable {A : Amb} {I : Itp} {P : Program} {g : G} {X : Nat → Prop} {ts : Tmps} {a : Act} {M : Mem} {w : World} {ops : Array Oper}
theorem finish0_sound {c : Contract} {v : AV} {s : St} {g2 : G} {x : Value} {w' : World} (hso : Sorts c.sorts g.env) (hnb : g.nb = c.nb) (hle : g.Le g2) (h : (finish0 c v s).vc I g2.env)
    (hm : MRel A I P g2 s.mem w') (hv : Rel I g2 v x) :
    ∃ outs g', Sorts c.outs outs ∧ g'.env = g.env ++ outs ∧ g'.nb = c.nb + c.fresh.length ∧ (∀ b, b < c.nb → g'.φ b = g.φ b) ∧ Rel I g' c.res x ∧ MRel A I P g' (c.mods ++ c.fresh) w' ∧ ∀ p ∈ c.post, p.den I g'.env := by
  unfold finish0 at h
  simp only at h
  split at h
  · exact h.elim
  rename_i hcond
  simp only [Bool.or_eq_true, Bool.not_eq_true', decide_eq_false_iff_not, not_or, Bool.not_eq_false, Decidable.not_not] at hcond
  obtain ⟨hle', hlen⟩ := hcond
  generalize hu : matchSt c.sorts.length c.nb c.outs.length c.fresh.length { tmps := [(0, c.res)], nt := 0, defers := [], mem := c.mods ++ c.fresh, nv := c.sorts.length, nb := c.nb } { tmps := [(0, v)], nt := 0, defers := [], mem := s.mem, nv := c.sorts.length, nb := c.nb } = u at *
  have hu1 : u.nv = c.sorts.length := by rw [← hu]; rfl
  have hu2 : u.nb = c.nb := by rw [← hu]; rfl
  have hu3 : u.kb = c.nb + c.fresh.length := by rw [← hu]; rfl
  obtain ⟨hps, _⟩ := mkAsserts_vc h
  obtain ⟨ds, hds, hdso⟩ := sortPs_sorts hlen (fun p hp => hps p (by simp [hp]))
  obtain ⟨⟨xs, hxs⟩, hgnb, hgφ⟩ := hle
  have hnv := hso.length
  have hfit : u.Fits I g2 ds := ⟨hds, by rw [hu1, hxs]; simp; omega, by omega⟩
  have htake : g2.env.take u.nv = g.env := by rw [hu1, hxs, ← hnv, List.take_left']; rfl
  simp only [Fix.leS, Bool.and_eq_true, beq_iff_eq] at hle'
  obtain ⟨⟨⟨⟨_, _⟩, hleT⟩, hleM⟩, hok⟩ := hle'
  have henv : (u.view g2 ds).env = g.env ++ ds := by simp [Fix.view, htake]
  refine ⟨ds, u.view g2 ds, hdso, henv, by simp [Fix.view, hu3], fun b hb => ?_, ?_, Fix.mrel hfit hm hleM hok, fun p hp => ?_⟩
  · have : u.img b = some b := by unfold Fix.img; rw [if_pos (by omega)]
    rw [Fix.view_φ this, hgφ b (by omega)]
  · have h0 : TRel I g2 (fun _ => False) [(0, v)] #[x] := fun t v' hv' _ => by
      simp only [get_cons] at hv'
      split at hv'
      · rename_i he; subst he; simp at hv'; subst hv'; exact ⟨_, rfl, hv⟩
      · cases hv'
    obtain ⟨y, hy, hr⟩ := Fix.leT_rel hfit hleT h0 0 c.res (by simp [get_cons]) (fun h => h)
    simp at hy; subst hy
    exact hr
  · have := PE.subst_den (n := c.sorts.length) hds (by rw [hxs]; simp; omega) (hps (p.subst c.sorts.length u.σ) (by simp; exact .inr ⟨p, hp, rfl⟩))
    rw [← hu1] at this
    simpa [Fix.view] using this
theorem le_tt {env : List D} {a b : E} (h : (PE.tt (mkBin .le a b)).den I env) : ∃ x y, a.den I env = some (.i x) ∧ b.den I env = some (.i y) ∧ x ≤ y := by
  obtain ⟨z, h1, h2⟩ := h
  unfold mkBin at h1
  split at h1
  · rename_i x y
    refine ⟨x, y, rfl, rfl, ?_⟩
    simp only [E.den, Option.some.injEq, D.i.injEq, BO.ev] at h1
    by_cases hxy : x ≤ y
    · exact hxy
    · simp [hxy] at h1; omega
  · simp only [E.den] at h1
    split at h1
    · rename_i x y hx hy
      refine ⟨x, y, hx, hy, ?_⟩
      simp only [Option.some.injEq, D.i.injEq, BO.ev] at h1
      by_cases hxy : x ≤ y
      · exact hxy
      · simp [hxy] at h1; omega
    · cases h1
theorem MRel.weak {b : Nat} {x y : Blk} (h : MRel A I P g M w) (hb : get M b = some x) (hy : BRel I P g b (fun i => w.heap[i]?) y) (hw : y.wr = x.wr) (hnf : y.isFam = false := by rfl) : MRel A I P g (put b y M) w where
  wf := h.wf
  blk := fun c z hc => by
    rw [get_put] at hc
    split at hc
    · rename_i e; subst e; cases hc; exact hy
    · exact h.blk c z hc
  lt := fun c z hc => by
    rw [get_put] at hc
    split at hc
    · rename_i e; subst e; exact h.lt b x hb
    · exact h.lt c z hc
  inj := fun c d z z' p q hc hd hz hp hq e => by
    rw [get_put] at hc hd
    have h1 : ∃ z, get M c = some z ∧ z.wr = true := by
      split at hc
      · rename_i e; subst e; cases hc; exact ⟨x, hb, hw ▸ hz⟩
      · exact ⟨z, hc, hz⟩
    have h2 : ∃ z, get M d = some z := by
      split at hd
      · rename_i e; subst e; exact ⟨x, hb⟩
      · exact ⟨z', hd⟩
    obtain ⟨z1, h1, h1w⟩ := h1
    obtain ⟨z2, h2⟩ := h2
    exact h.inj c d z1 z2 p q h1 h2 h1w hp hq e
  bnd := h.bnd
  own := fun c z p hc hz hp => by
    rw [get_put] at hc
    split at hc
    · rename_i e; subst e; cases hc; exact h.own b x p hb (hw ▸ hz) hp
    · exact h.own c z p hc hz hp
  size := h.size
  keep := h.keep
  same := h.same
  fam := fun c z o hc hr => by
    have key : ∀ c z, get (put b y M) c = some z → FRef (fun i => w.heap[i]?) I g c z o → get M c = some z := fun c z hc hr => by
      rw [get_put] at hc
      split at hc
      · cases hc; rw [hr.fam] at hnf; cases hnf
      · exact hc
    obtain ⟨h1, h2, h3, h4⟩ := h.fam c z o (key c z hc hr) hr
    refine ⟨h1, h2, fun d u q hd hq => ?_, fun d u hd hru => h4 d u (key d u hd hru) hru⟩
    rw [get_put] at hd
    split at hd
    · rename_i e; subst e; exact h3 b x q hb hq
    · exact h3 d u q hd hq
theorem trimM_rel {u : Fix} : ∀ {l M : Mem}, MRel A I P g M w → (∀ p ∈ (trimM u l M).2, p.den I g.env) → MRel A I P g (trimM u l M).1 w
  | [], _, hm, _ => hm
  | x :: l, M, hm, hp => by
    simp only [trimM] at hp ⊢
    split
    · rename_i c y ps ht
      rw [ht] at hp
      simp only [List.mem_append] at hp
      refine trimM_rel ?_ fun p h => hp p (.inr h)
      unfold trim1 at ht
      split at ht
      · split at ht
        · split at ht
          · rename_i ks t n' wr nl hg
            split at ht
            · split at ht
              · cases ht
              · split at ht
                · rename_i row
                  simp only [Option.some.injEq, Prod.mk.injEq] at ht
                  obtain ⟨rfl, rfl, rfl⟩ := ht
                  refine hm.weak hg ?_ rfl
                  obtain ⟨f1, f2, k0, e1, e2, e3, e4⟩ := hp _ (.inl List.mem_cons_self)
                  obtain ⟨f, N, k1, k2, k3, k4⟩ := hm.blk _ _ hg
                  rw [k1] at e2; cases e2
                  rw [k2] at e3; cases e3
                  refine ⟨f1, _, e1, k2, k3, ?_⟩
                  rcases k4 with ⟨p, cs, T, fr, q1, q2, q3, q4⟩ | ⟨q1, q2, q3⟩
                  · exact .inl ⟨p, cs, T, fr, q1, q2, fun r j k hr hj => by
                      rw [e4 r j (by omega) (by omega) (List.getElem?_eq_some_iff.1 hj).1]
                      exact q3 r j k hr hj, q4⟩
                  · exact .inr ⟨q1, q2, q3⟩
                · cases ht
            · simp only [Option.some.injEq, Prod.mk.injEq] at ht
              obtain ⟨rfl, rfl, rfl⟩ := ht
              refine hm.weak hg ?_ rfl
              obtain ⟨z, a, h1, h2, h3⟩ := le_tt (hp _ (.inl List.mem_cons_self))
              obtain ⟨a', m, h4, h5, h6⟩ := le_tt (hp _ (.inl (List.mem_cons_of_mem _ List.mem_cons_self)))
              simp only [E.den, Option.some.injEq, D.i.injEq] at h1
              subst h1
              rw [h4] at h2; cases h2
              obtain ⟨f, N, k1, k2, k3, k4⟩ := hm.blk _ _ hg
              rw [k2] at h5; cases h5
              refine ⟨f, a, k1, h4, h3, ?_⟩
              rcases k4 with ⟨p, cs, T, fr, q1, q2, q3, q4⟩ | ⟨q1, q2, q3⟩
              · exact .inl ⟨p, cs, T, fr, q1, q2, fun r j k hr hj => q3 r j k (by omega) hj, fun hw => by
                  obtain ⟨e1, e2, e3⟩ := q4 hw
                  exact ⟨e1, e2, Nat.le_trans (Nat.mul_le_mul_right _ (by omega)) e3⟩⟩
              · exact .inr ⟨q1, by omega, q3⟩
          · cases ht
        · cases ht
      · split at ht
        · split at ht
          · rename_i l ks t n m wr hg
            split at ht
            · cases ht
            · split at ht
              · cases ht
              · simp only [Option.some.injEq, Prod.mk.injEq] at ht
                obtain ⟨rfl, rfl, rfl⟩ := ht
                refine hm.weak hg ?_ rfl
                obtain ⟨f1, f2, k0, e1, e2, e3, e4⟩ := hp _ (.inl List.mem_cons_self)
                obtain ⟨p, cs, T, fr, f, q1, q2, q3, q4, q5, q6, q7⟩ := hm.blk _ _ hg
                rw [q3] at e2; cases e2
                simp only [E.den, Option.some.injEq, D.i.injEq] at e3
                subst e3
                exact ⟨p, cs, T, fr, f1, q1, q2, e1, q4, fun r j k hr hj => by
                  rw [e4 r j (by omega) (by omega) (List.getElem?_eq_some_iff.1 hj).1]
                  exact q5 r j k hr hj, q6, q7⟩
          · cases ht
        · cases ht
      · cases ht
    · rename_i ht
      rw [ht] at hp
      exact trimM_rel hm hp
theorem finish_sound {c : Contract} {v : AV} {s : St} {g2 : G} {x : Value} {w' : World} (hso : Sorts c.sorts g.env) (hnb : g.nb = c.nb) (hle : g.Le g2) (h : (finish c v s).vc I g2.env)
    (hm : MRel A I P g2 s.mem w') (hv : Rel I g2 v x) :
    ∃ outs g', Sorts c.outs outs ∧ g'.env = g.env ++ outs ∧ g'.nb = c.nb + c.fresh.length ∧ (∀ b, b < c.nb → g'.φ b = g.φ b) ∧ Rel I g' c.res x ∧ MRel A I P g' (c.mods ++ c.fresh) w' ∧ ∀ p ∈ c.post, p.den I g'.env := by
  unfold finish at h
  obtain ⟨hp, h'⟩ := mkAsserts_vc h
  exact finish0_sound hso hnb hle h' (trimM_rel hm hp) hv
theorem verify_sound {cx : Cx} (hC : ∀ c ∈ cx.cs, COk I cx.P cx.kn.globs c) {fuel : Nat} {c : Contract} (h : ∀ ds, Sorts c.sorts ds → (verify cx fuel c).vc I ds) : COk I cx.P cx.kn.globs c := by
  intro g w xs hso hnb hG hm ha hpre
  have hv := h g.env hso
  unfold verify at hv
  split at hv
  rotate_left
  · exact hv.elim
  split at hv
  rotate_left
  · exact hv.elim
  have hb := assumes_vc hv hpre
  have hE := eng_sound hC fuel
  have hE' : EngSound I { cx with cs := [] } (eng cx fuel) := ⟨hE.exec, hE.loop, hE.callv, hE.callf⟩
  have hs : SRel (c.amb g w) I cx.P (fun _ => False) g { tmps := [], nt := 0, defers := [], mem := c.mem, nv := c.sorts.length, nb := c.nb } { tmps := #[], defers := [] } w :=
    ⟨hm, fun t v ht _ => by simp [get_nil] at ht, rfl, trivial, hso.length, hnb⟩
  obtain ⟨_, hcall⟩ := callF_sound hE' hG (fun c hc => by simp at hc) hb hs ha
  refine hcall.mono fun e w' he => ?_
  obtain ⟨v, rfl, av, g2, s2, hle, hrel, hs2, hk⟩ := he
  obtain ⟨outs, g', h1, h2, h3, h4, h5, h6, h7⟩ := finish_sound hso hnb hle hk hs2.m hrel
  exact ⟨v, outs, g', rfl, h1, h2, h3, h4, h5, h6, h7⟩
end Go.Sx
noncomputable section
namespace Go.Sx
open Go
variable {I : Itp} {P : Program}
end Go.Sx
end
noncomputable section
namespace Go.Sx
open Go
variable {I : Itp}
def E.sortOf (fs : Nat → Option Bool) (ss : List Bool) : E → Option Bool
  | .lit _ => some false
  | .var i => ss[i]?
  | .bin _ a b => if a.sortOf fs ss = some false ∧ b.sortOf fs ss = some false then some false else none
  | .wrap _ a => if a.sortOf fs ss = some false then some false else none
  | .zt => some true
  | .kt _ => some true
  | .bt _ => some true
  | .sel t r _ => if t.sortOf fs ss = some true ∧ r.sortOf fs ss = some false then some false else none
  | .upd t r _ v => if t.sortOf fs ss = some true ∧ r.sortOf fs ss = some false ∧ v.sortOf fs ss = some false then some true else none
  | .cat t n u => if t.sortOf fs ss = some true ∧ n.sortOf fs ss = some false ∧ u.sortOf fs ss = some true then some true else none
  | .sh t n => if t.sortOf fs ss = some true ∧ n.sortOf fs ss = some false then some true else none
  | .teq t n u m => if (t.sortOf fs ss = some true ∧ n.sortOf fs ss = some false) ∧ u.sortOf fs ss = some true ∧ m.sortOf fs ss = some false then some false else none
  | .fn j a b c d => if (a.sortOf fs ss).isSome ∧ (b.sortOf fs ss).isSome ∧ (c.sortOf fs ss).isSome ∧ (d.sortOf fs ss).isSome then fs j else none
def D.is : Bool → D → Prop
  | true, .t _ => True
  | false, .i _ => True
  | _, _ => False
theorem D.is_i {d : D} (h : d.is false) : ∃ n, d = .i n := by cases d with | i n => exact ⟨n, rfl⟩ | t f => exact h.elim
theorem D.is_t {d : D} (h : d.is true) : ∃ f, d = .t f := by cases d with | i n => exact h.elim | t f => exact ⟨f, rfl⟩
def Itp.tot (I : Itp) (fs : Nat → Option Bool) : Prop := ∀ j s, fs j = some s → ∀ a b c d, ∃ x, I.ap j a b c d = some x ∧ x.is s
theorem Sorts.get : ∀ {ss : List Bool} {env : List D} {i : Nat} {b : Bool}, Sorts ss env → ss[i]? = some b → ∃ d, env[i]? = some d ∧ d.is b
  | true :: l, .t f :: m, 0, b, _, h => by simp at h; subst h; exact ⟨_, rfl, trivial⟩
  | false :: l, .i f :: m, 0, b, _, h => by simp at h; subst h; exact ⟨_, rfl, trivial⟩
  | true :: l, .t f :: m, i + 1, b, hs, h => by simpa using Sorts.get (ss := l) (env := m) (i := i) hs (by simpa using h)
  | false :: l, .i f :: m, i + 1, b, hs, h => by simpa using Sorts.get (ss := l) (env := m) (i := i) hs (by simpa using h)
  | [], [], _, _, _, h => by simp at h
  | [], _ :: _, _, _, h, _ => h.elim
  | true :: _, [], _, _, h, _ => h.elim
  | false :: _, [], _, _, h, _ => h.elim
  | true :: _, .i _ :: _, _, _, h, _ => h.elim
  | false :: _, .t _ :: _, _, _, h, _ => h.elim
theorem Sorts.app : ∀ {ss : List Bool} {env : List D} {b : Bool} {d : D}, Sorts ss env → d.is b → Sorts (ss ++ [b]) (env ++ [d])
  | [], [], true, .t _, _, _ => trivial
  | [], [], false, .i _, _, _ => trivial
  | [], [], true, .i _, _, h => h.elim
  | [], [], false, .t _, _, h => h.elim
  | true :: l, .t _ :: m, _, _, hs, h => Sorts.app (ss := l) (env := m) hs h
  | false :: l, .i _ :: m, _, _, hs, h => Sorts.app (ss := l) (env := m) hs h
  | [], _ :: _, _, _, h, _ => h.elim
  | true :: _, [], _, _, h, _ => h.elim
  | false :: _, [], _, _, h, _ => h.elim
  | true :: _, .i _ :: _, _, _, h, _ => h.elim
  | false :: _, .t _ :: _, _, _, h, _ => h.elim
theorem E.sortOf_den {fs : Nat → Option Bool} (hI : I.tot fs) {ss : List Bool} {env : List D} (hs : Sorts ss env) : ∀ {e : E} {b : Bool}, e.sortOf fs ss = some b → ∃ d, e.den I env = some d ∧ d.is b := by
  intro e
  induction e with
  | lit n => intro b h; simp only [E.sortOf, Option.some.injEq] at h; subst h; exact ⟨_, rfl, trivial⟩
  | zt => intro b h; simp only [E.sortOf, Option.some.injEq] at h; subst h; exact ⟨_, rfl, trivial⟩
  | kt row => intro b h; simp only [E.sortOf, Option.some.injEq] at h; subst h; exact ⟨_, rfl, trivial⟩
  | bt b' => intro b h; simp only [E.sortOf, Option.some.injEq] at h; subst h; exact ⟨_, rfl, trivial⟩
  | var i => intro b h; exact hs.get h
  | bin o x y ihx ihy =>
    intro b h
    simp only [E.sortOf] at h
    split at h
    · rename_i hc
      cases h
      obtain ⟨d1, h1, k1⟩ := ihx hc.1
      obtain ⟨d2, h2, k2⟩ := ihy hc.2
      obtain ⟨n1, rfl⟩ := D.is_i k1
      obtain ⟨n2, rfl⟩ := D.is_i k2
      exact ⟨.i (o.ev n1 n2), by simp [E.den, h1, h2], trivial⟩
    · cases h
  | wrap k x ihx =>
    intro b h
    simp only [E.sortOf] at h
    split at h
    · rename_i hc
      cases h
      obtain ⟨d1, h1, k1⟩ := ihx hc
      obtain ⟨n1, rfl⟩ := D.is_i k1
      exact ⟨.i (k.wrap n1), by simp [E.den, h1], trivial⟩
    · cases h
  | sel t r c iht ihr =>
    intro b h
    simp only [E.sortOf] at h
    split at h
    · rename_i hc
      cases h
      obtain ⟨d1, h1, k1⟩ := iht hc.1
      obtain ⟨d2, h2, k2⟩ := ihr hc.2
      obtain ⟨f, rfl⟩ := D.is_t k1
      obtain ⟨n2, rfl⟩ := D.is_i k2
      exact ⟨.i (f n2 c), by simp [E.den, h1, h2], trivial⟩
    · cases h
  | upd t r c v iht ihr ihv =>
    intro b h
    simp only [E.sortOf] at h
    split at h
    · rename_i hc
      cases h
      obtain ⟨d1, h1, k1⟩ := iht hc.1
      obtain ⟨d2, h2, k2⟩ := ihr hc.2.1
      obtain ⟨d3, h3, k3⟩ := ihv hc.2.2
      obtain ⟨f, rfl⟩ := D.is_t k1
      obtain ⟨n2, rfl⟩ := D.is_i k2
      obtain ⟨n3, rfl⟩ := D.is_i k3
      exact ⟨.t (tupd f n2 c n3), by simp only [E.den, h1, h2, h3], trivial⟩
    · cases h
  | cat t n u iht ihr ihv =>
    intro b h
    simp only [E.sortOf] at h
    split at h
    · rename_i hc
      cases h
      obtain ⟨d1, h1, k1⟩ := iht hc.1
      obtain ⟨d2, h2, k2⟩ := ihr hc.2.1
      obtain ⟨d3, h3, k3⟩ := ihv hc.2.2
      obtain ⟨f, rfl⟩ := D.is_t k1
      obtain ⟨n2, rfl⟩ := D.is_i k2
      obtain ⟨f3, rfl⟩ := D.is_t k3
      exact ⟨.t (tcat f n2 f3), by simp only [E.den, h1, h2, h3], trivial⟩
    · cases h
  | sh t n iht ihn =>
    intro b h
    simp only [E.sortOf] at h
    split at h
    · rename_i hc
      cases h
      obtain ⟨d1, h1, k1⟩ := iht hc.1
      obtain ⟨d2, h2, k2⟩ := ihn hc.2
      obtain ⟨f, rfl⟩ := D.is_t k1
      obtain ⟨n2, rfl⟩ := D.is_i k2
      exact ⟨.t fun r c => f (r + n2) c, by simp [E.den, h1, h2], trivial⟩
    · cases h
  | teq t n u m iht ihn ihu ihm =>
    intro b h
    simp only [E.sortOf] at h
    split at h
    · rename_i hc
      cases h
      obtain ⟨d1, h1, k1⟩ := iht hc.1.1
      obtain ⟨d2, h2, k2⟩ := ihn hc.1.2
      obtain ⟨d3, h3, k3⟩ := ihu hc.2.1
      obtain ⟨d4, h4, k4⟩ := ihm hc.2.2
      obtain ⟨f, rfl⟩ := D.is_t k1
      obtain ⟨n2, rfl⟩ := D.is_i k2
      obtain ⟨f3, rfl⟩ := D.is_t k3
      obtain ⟨n4, rfl⟩ := D.is_i k4
      exact ⟨.i (strEq f n2 f3 n4), by simp only [E.den, h1, h2, h3, h4], trivial⟩
    · cases h
  | fn j x y z u ihx ihy ihz ihu =>
    intro b h
    simp only [E.sortOf] at h
    split at h
    · rename_i hc
      obtain ⟨h1, h2, h3, h4⟩ := hc
      obtain ⟨b1, h1⟩ := Option.isSome_iff_exists.1 h1
      obtain ⟨b2, h2⟩ := Option.isSome_iff_exists.1 h2
      obtain ⟨b3, h3⟩ := Option.isSome_iff_exists.1 h3
      obtain ⟨b4, h4⟩ := Option.isSome_iff_exists.1 h4
      obtain ⟨d1, g1, _⟩ := ihx h1
      obtain ⟨d2, g2, _⟩ := ihy h2
      obtain ⟨d3, g3, _⟩ := ihz h3
      obtain ⟨d4, g4, _⟩ := ihu h4
      obtain ⟨x, hx, hx'⟩ := hI j b h d1 d2 d3 d4
      exact ⟨x, by simp only [E.den, g1, g2, g3, g4]; exact hx, hx'⟩
    · cases h
def PE.tf : Bool → E → PE
  | true, e => .tt e
  | false, e => .ff e
def flip1 (o : BO) (a b : E) : PE :=
  match o with
  | .lt => .tt (.bin .le b a)
  | .le => .tt (.bin .lt b a)
  | .eq => .tt (.bin .ne a b)
  | .ne => .tt (.bin .eq a b)
  | o => .ff (.bin o a b)
def E.flat (s : Bool) : E → List PE
  | .bin o a b =>
    if s = true ∧ o = .and then a.flat true ++ b.flat true
    else if s = false ∧ o = .or then a.flat false ++ b.flat false
    else if o = .eq ∧ b = .lit 0 then a.flat (!s)
    else if o = .ne ∧ b = .lit 0 then a.flat s
    else if s = true then [.tt (.bin o a b)] else [flip1 o a b]
  | e => [.tf s e]
theorem tt_bin {env : List D} {o : BO} {a b : E} : (PE.tt (.bin o a b)).den I env ↔ ∃ x y, a.den I env = some (.i x) ∧ b.den I env = some (.i y) ∧ o.ev x y ≠ 0 := by
  constructor
  · rintro ⟨n, h1, h2⟩
    simp only [E.den] at h1
    split at h1
    · rename_i x y hx hy; simp only [Option.some.injEq, D.i.injEq] at h1; exact ⟨x, y, hx, hy, by rw [h1]; exact h2⟩
    · cases h1
  · rintro ⟨x, y, hx, hy, h⟩
    exact ⟨o.ev x y, by simp [E.den, hx, hy], h⟩
theorem ff_bin {env : List D} {o : BO} {a b : E} : (PE.ff (.bin o a b)).den I env ↔ ∃ x y, a.den I env = some (.i x) ∧ b.den I env = some (.i y) ∧ o.ev x y = 0 := by
  constructor
  · intro h1
    simp only [PE.den, E.den] at h1
    split at h1
    · rename_i x y hx hy; simp only [Option.some.injEq, D.i.injEq] at h1; exact ⟨x, y, hx, hy, h1⟩
    · cases h1
  · rintro ⟨x, y, hx, hy, h⟩
    simp [PE.den, E.den, hx, hy, h]
theorem tt_i {env : List D} {a : E} : (PE.tt a).den I env ↔ ∃ x, a.den I env = some (.i x) ∧ x ≠ 0 := Iff.rfl
theorem ff_i {env : List D} {a : E} : (PE.ff a).den I env ↔ a.den I env = some (.i 0) := Iff.rfl
theorem flip1_den {env : List D} {o : BO} {a b : E} : (flip1 o a b).den I env ↔ (PE.ff (.bin o a b)).den I env := by
  have key : ∀ (o' : BO) (h : ∀ x y, o'.ev x y ≠ 0 ↔ o.ev x y = 0), (PE.tt (.bin o' a b)).den I env ↔ (PE.ff (.bin o a b)).den I env := by
    intro o' h
    rw [tt_bin, ff_bin]
    constructor
    · rintro ⟨x, y, h1, h2, h3⟩; exact ⟨x, y, h1, h2, (h x y).1 h3⟩
    · rintro ⟨x, y, h1, h2, h3⟩; exact ⟨x, y, h1, h2, (h x y).2 h3⟩
  have key2 : ∀ (o' : BO) (h : ∀ x y, o'.ev y x ≠ 0 ↔ o.ev x y = 0), (PE.tt (.bin o' b a)).den I env ↔ (PE.ff (.bin o a b)).den I env := by
    intro o' h
    rw [tt_bin, ff_bin]
    constructor
    · rintro ⟨x, y, h1, h2, h3⟩; exact ⟨y, x, h2, h1, (h y x).1 h3⟩
    · rintro ⟨x, y, h1, h2, h3⟩; exact ⟨y, x, h2, h1, (h x y).2 h3⟩
  cases o with
  | lt => exact key2 .le fun x y => by simp only [BO.ev]; split <;> split <;> simp <;> omega
  | le => exact key2 .lt fun x y => by simp only [BO.ev]; split <;> split <;> simp <;> omega
  | eq => exact key .ne fun x y => by simp only [BO.ev]; split <;> simp
  | ne => exact key .eq fun x y => by simp only [BO.ev]; split <;> simp
  | _ => exact Iff.rfl
theorem E.flat_den {env : List D} : ∀ {e : E} {s : Bool}, (∀ q ∈ e.flat s, q.den I env) ↔ (PE.tf s e).den I env := by
  intro e
  induction e with
  | bin o a b iha ihb =>
    intro s
    simp only [E.flat]
    split
    · rename_i h
      obtain ⟨rfl, rfl⟩ := h
      have h1 := iha (s := true)
      have h2 := ihb (s := true)
      simp only [PE.tf] at h1 h2 ⊢
      rw [tt_bin]
      simp only [List.mem_append, or_imp, forall_and, h1, h2, tt_i, BO.ev]
      constructor
      · rintro ⟨⟨x, h3, h4⟩, ⟨y, h5, h6⟩⟩; exact ⟨x, y, h3, h5, by simp [h4, h6]⟩
      · rintro ⟨x, y, h3, h5, h6⟩
        have : x ≠ 0 ∧ y ≠ 0 := by by_cases h : x ≠ 0 ∧ y ≠ 0; exact h; simp [h] at h6
        exact ⟨⟨x, h3, this.1⟩, ⟨y, h5, this.2⟩⟩
    split
    · rename_i h
      obtain ⟨rfl, rfl⟩ := h
      have h1 := iha (s := false)
      have h2 := ihb (s := false)
      simp only [PE.tf] at h1 h2 ⊢
      rw [ff_bin]
      simp only [List.mem_append, or_imp, forall_and, h1, h2, ff_i, BO.ev]
      constructor
      · rintro ⟨h3, h4⟩; exact ⟨0, 0, h3, h4, by simp⟩
      · rintro ⟨x, y, h3, h5, h6⟩
        have : x = 0 ∧ y = 0 := by
          by_cases hx : x = 0
          · by_cases hy : y = 0
            · exact ⟨hx, hy⟩
            · simp [hy] at h6
          · simp [hx] at h6
        obtain ⟨rfl, rfl⟩ := this
        exact ⟨h3, h5⟩
    split
    · rename_i h
      obtain ⟨rfl, rfl⟩ := h
      rw [iha]
      cases s with
      | true =>
        simp only [PE.tf, Bool.not_true]
        rw [tt_bin, ff_i]
        constructor
        · intro h; exact ⟨0, 0, h, rfl, by simp [BO.ev]⟩
        · rintro ⟨x, y, h1, h2, h3⟩
          simp only [E.den, Option.some.injEq, D.i.injEq] at h2
          subst h2
          have : x = 0 := by by_cases h : x = 0; exact h; simp [BO.ev, h] at h3
          subst this; exact h1
      | false =>
        simp only [PE.tf, Bool.not_false]
        rw [ff_bin, tt_i]
        constructor
        · rintro ⟨x, h, h0⟩; exact ⟨x, 0, h, rfl, by simp [BO.ev, h0]⟩
        · rintro ⟨x, y, h1, h2, h3⟩
          simp only [E.den, Option.some.injEq, D.i.injEq] at h2
          subst h2
          exact ⟨x, h1, fun h => by simp [BO.ev, h] at h3⟩
    split
    · rename_i h
      obtain ⟨rfl, rfl⟩ := h
      rw [iha]
      cases s with
      | true =>
        simp only [PE.tf]
        rw [tt_bin, tt_i]
        constructor
        · rintro ⟨x, h, h0⟩; exact ⟨x, 0, h, rfl, by simp [BO.ev, h0]⟩
        · rintro ⟨x, y, h1, h2, h3⟩
          simp only [E.den, Option.some.injEq, D.i.injEq] at h2
          subst h2
          exact ⟨x, h1, fun h => by simp [BO.ev, h] at h3⟩
      | false =>
        simp only [PE.tf]
        rw [ff_bin, ff_i]
        constructor
        · intro h; exact ⟨0, 0, h, rfl, by simp [BO.ev]⟩
        · rintro ⟨x, y, h1, h2, h3⟩
          simp only [E.den, Option.some.injEq, D.i.injEq] at h2
          subst h2
          have : x = 0 := by by_cases h : x = 0; exact h; simp [BO.ev, h] at h3
          subst this; exact h1
    split
    · rename_i h; subst h; simp [PE.tf]
    · rename_i h
      have : s = false := by simpa using h
      subst this
      simpa [PE.tf] using flip1_den
  | _ => intro s; simp [E.flat]
def PE.flat : PE → List PE
  | .tt e => e.flat true
  | .ff e => e.flat false
  | p => [p]
theorem PE.flat_den {env : List D} {p : PE} : (∀ q ∈ p.flat, q.den I env) ↔ p.den I env := by
  cases p with
  | tt e => exact E.flat_den
  | ff e => exact E.flat_den
  | _ => simp [PE.flat]
theorem PE.den_more {env xs : List D} {p : PE} (h : p.den I env) : p.den I (env ++ xs) := by
  cases p with
  | tt e => obtain ⟨n, h1, h2⟩ := h; exact ⟨n, E.den_more h1, h2⟩
  | ff e => exact E.den_more (e := e) h
  | rng k e => obtain ⟨n, h1, h2⟩ := h; exact ⟨n, E.den_more h1, h2⟩
  | same a b => obtain ⟨d, h1, h2⟩ := h; exact ⟨d, E.den_more h1, E.den_more h2⟩
  | pr j l => obtain ⟨ds, h1, h2⟩ := h; exact ⟨ds, dens_more h1, h2⟩
  | sort b e => cases b with
    | true => obtain ⟨d, h1⟩ := h; exact ⟨d, E.den_more h1⟩
    | false => obtain ⟨d, h1⟩ := h; exact ⟨d, E.den_more h1⟩
  | col t c lo hi => obtain ⟨f, h1, h2⟩ := h; exact ⟨f, E.den_more h1, h2⟩
  | agr t u n w => obtain ⟨f, g, k, h1, h2, h3, h4⟩ := h; exact ⟨f, g, k, E.den_more h1, E.den_more h2, E.den_more h3, h4⟩
  | byt t n => obtain ⟨f, k, h1, h2, h3⟩ := h; exact ⟨f, k, E.den_more h1, E.den_more h2, h3⟩
def litIs (s : Bool) : PE → Bool
  | .tt (.lit n) => s && n != 0
  | .ff (.lit n) => s && n == 0
  | _ => false
theorem litIs_den {env : List D} {p : PE} (h : litIs true p = true) : p.den I env := by
  unfold litIs at h
  split at h
  · exact ⟨_, rfl, by simpa using h⟩
  · rename_i n; have : n = 0 := by simpa using h
    subst this; rfl
  · cases h
def known (fs : Nat → Option Bool) (ss : List Bool) (K : List PE) (p : PE) : Bool :=
  match p with
  | .sort b e => decide (e.sortOf fs ss = some b) || K.contains (.sort b e)
  | .same a b => (decide (a = b) && (a.sortOf fs ss).isSome) || K.contains (.same a b)
  | p => p.flat.all fun q => K.contains q || litIs true q
theorem known_den {fs : Nat → Option Bool} (hI : I.tot fs) {ss : List Bool} {env : List D} (hs : Sorts ss env) {K : List PE} (hK : ∀ p ∈ K, p.den I env) {p : PE} (h : known fs ss K p = true) : p.den I env := by
  have gen : ∀ p : PE, (p.flat.all fun q => K.contains q || litIs true q) = true → p.den I env := by
    intro p h
    rw [← PE.flat_den]
    intro q hq
    have := List.all_eq_true.1 h q hq
    simp only [Bool.or_eq_true, List.contains_iff_mem] at this
    rcases this with h1 | h1
    · exact hK q h1
    · exact litIs_den h1
  cases p with
  | sort b e =>
    simp only [known, Bool.or_eq_true, decide_eq_true_eq, List.contains_iff_mem] at h
    rcases h with h | h
    · obtain ⟨d, h1, h2⟩ := E.sortOf_den hI hs h
      cases b with
      | true => obtain ⟨f, rfl⟩ := D.is_t h2; exact ⟨f, h1⟩
      | false => obtain ⟨f, rfl⟩ := D.is_i h2; exact ⟨f, h1⟩
    · exact hK _ h
  | same a b =>
    simp only [known, Bool.or_eq_true, Bool.and_eq_true, decide_eq_true_eq, List.contains_iff_mem] at h
    rcases h with ⟨rfl, h⟩ | h
    · obtain ⟨b, h⟩ := Option.isSome_iff_exists.1 h
      obtain ⟨d, h1, _⟩ := E.sortOf_den hI hs h
      exact ⟨d, h1, h1⟩
    · exact hK _ h
  | tt e => exact gen _ h
  | ff e => exact gen _ h
  | rng k e => exact gen _ h
  | pr j l => exact gen _ h
  | byt t n => exact gen _ h
  | col t c lo hi => exact gen _ h
  | agr t u n w => exact gen _ h
def Tree.isOk : Tree → Bool
  | .ok => true
  | _ => false
theorem Tree.isOk_vc {t : Tree} {env : List D} (h : t.isOk = true) : t.vc I env := by cases t <;> first | trivial | cases h
def mkBin2 (o : BO) (a b : E) : E :=
  match o with
  | .add => mkAdd a b
  | o => mkBin o a b
def E.sub (σ : List E) : E → E
  | .lit n => .lit n
  | .var i => (σ[i]?).getD .zt
  | .bin o a b => mkBin2 o (a.sub σ) (b.sub σ)
  | .wrap k a => mkWrap k (a.sub σ)
  | .zt => .zt
  | .kt row => .kt row
  | .bt b => .bt b
  | .sel t r c => mkSel (t.sub σ) (r.sub σ) c
  | .upd t r c v => .upd (t.sub σ) (r.sub σ) c (v.sub σ)
  | .cat t n u => .cat (t.sub σ) (n.sub σ) (u.sub σ)
  | .sh t n => .sh (t.sub σ) (n.sub σ)
  | .teq t n u m => .teq (t.sub σ) (n.sub σ) (u.sub σ) (m.sub σ)
  | .fn j a b c d => .fn j (a.sub σ) (b.sub σ) (c.sub σ) (d.sub σ)
theorem mkBin_den {env : List D} {o : BO} {a b : E} {x y : Int} (ha : a.den I env = some (.i x)) (hb : b.den I env = some (.i y)) : (mkBin o a b).den I env = some (.i (o.ev x y)) := by
  unfold mkBin
  split
  · simp only [E.den, Option.some.injEq, D.i.injEq] at ha hb; subst ha hb; rfl
  · simp only [E.den, ha, hb]
theorem mkAdd_den' {env : List D} {a b : E} {x y : Int} (ha : a.den I env = some (.i x)) (hb : b.den I env = some (.i y)) : (mkAdd a b).den I env = some (.i (x + y)) := by
  unfold mkAdd
  split
  · simp only [E.den, Option.some.injEq, D.i.injEq] at ha hb; subst ha hb; rfl
  · simp only [E.den, Option.some.injEq, D.i.injEq] at ha; subst ha; simpa using hb
  · simp only [E.den, Option.some.injEq, D.i.injEq] at hb; subst hb; simpa using ha
  · rename_i a' p q _
    obtain ⟨u, v, h1, h2, rfl⟩ := den_add_inv ha
    simp [E.den] at h2 hb
    subst h2; subst hb
    split
    · rw [h1]; congr 2; omega
    · simp only [E.den, h1, BO.ev]; congr 2; omega
  · simp only [E.den, ha, hb, BO.ev]
theorem mkBin2_den {env : List D} {o : BO} {a b : E} {x y : Int} (ha : a.den I env = some (.i x)) (hb : b.den I env = some (.i y)) : (mkBin2 o a b).den I env = some (.i (o.ev x y)) := by
  unfold mkBin2
  split
  · exact mkAdd_den' ha hb
  · exact mkBin_den ha hb
theorem mkWrap_den' {env : List D} {k : IntKind} {a : E} {x : Int} (ha : a.den I env = some (.i x)) : (mkWrap k a).den I env = some (.i (k.wrap x)) := by
  unfold mkWrap
  split
  · simp only [E.den, Option.some.injEq, D.i.injEq] at ha; subst ha; rfl
  · simp only [E.den, ha]
theorem dens_at {env' : List D} : ∀ {σ : List E} {env : List D}, dens I env' σ = some env → ∀ {i : Nat} {d : D}, env[i]? = some d → ∃ e, σ[i]? = some e ∧ e.den I env' = some d
  | [], env, h, i, d, hd => by simp only [dens, Option.some.injEq] at h; subst h; simp at hd
  | e :: σ, env, h, i, d, hd => by
    simp only [dens] at h
    split at h
    · rename_i d0 ds h1 h2
      cases h
      cases i with
      | zero => simp at hd; subst hd; exact ⟨e, rfl, h1⟩
      | succ i => simpa using dens_at h2 (i := i) (by simpa using hd)
    · cases h
theorem E.sub_den {σ : List E} {env env' : List D} (hσ : dens I env' σ = some env) : ∀ {e : E} {d : D}, e.den I env = some d → (e.sub σ).den I env' = some d := by
  intro e
  induction e with
  | lit n => intro d h; exact h
  | zt => intro d h; exact h
  | kt row => intro d h; exact h
  | bt b => intro d h; exact h
  | var i =>
    intro d h
    obtain ⟨e, h1, h2⟩ := dens_at hσ h
    simp only [E.sub, h1]; exact h2
  | bin o a b iha ihb =>
    intro d h
    simp only [E.den] at h
    split at h
    · rename_i x y h1 h2; cases h; exact mkBin2_den (iha h1) (ihb h2)
    · cases h
  | wrap k a ih =>
    intro d h
    simp only [E.den] at h
    split at h
    · rename_i x h1; cases h; exact mkWrap_den' (ih h1)
    · cases h
  | sel t r c iht ihr =>
    intro d h
    simp only [E.den] at h
    split at h
    · rename_i x y h1 h2; cases h; exact den_mkSel (iht h1) (ihr h2)
    · cases h
  | upd t r c v iht ihr ihv =>
    intro d h
    simp only [E.den] at h
    split at h
    · rename_i x y z h1 h2 h3; cases h; simp only [E.sub, E.den, iht h1, ihr h2, ihv h3]
    · cases h
  | cat t n u iht ihn ihu =>
    intro d h
    simp only [E.den] at h
    split at h
    · rename_i x y z h1 h2 h3; cases h; simp only [E.sub, E.den, iht h1, ihn h2, ihu h3]
    · cases h
  | sh t n iht ihn =>
    intro d h
    simp only [E.den] at h
    split at h
    · rename_i x y h1 h2; cases h; simp only [E.sub, E.den, iht h1, ihn h2]
    · cases h
  | teq t n u m iht ihn ihu ihm =>
    intro d h
    simp only [E.den] at h
    split at h
    · rename_i x y z v h1 h2 h3 h4; cases h; simp only [E.sub, E.den, iht h1, ihn h2, ihu h3, ihm h4]
    · cases h
  | fn j a b c d iha ihb ihc ihd =>
    intro x h
    simp only [E.den] at h
    split at h
    · rename_i x1 x2 x3 x4 h1 h2 h3 h4; simp only [E.sub, E.den, iha h1, ihb h2, ihc h3, ihd h4]; exact h
    · cases h
theorem dens_sub {σ : List E} {env env' : List D} (hσ : dens I env' σ = some env) : ∀ {l : List E} {ds : List D}, dens I env l = some ds → dens I env' (l.map (E.sub σ)) = some ds
  | [], _, h => h
  | e :: l, ds, h => by
    simp only [dens] at h
    split at h
    · rename_i d ds' h1 h2
      cases h
      simp only [List.map_cons, dens, E.sub_den hσ h1, dens_sub hσ h2]
    · cases h
def PE.sub (σ : List E) : PE → PE
  | .tt e => .tt (e.sub σ)
  | .ff e => .ff (e.sub σ)
  | .rng k e => .rng k (e.sub σ)
  | .same a b => .same (a.sub σ) (b.sub σ)
  | .pr j l => .pr j (l.map (E.sub σ))
  | .sort b e => .sort b (e.sub σ)
  | .byt t n => .byt (t.sub σ) (n.sub σ)
  | .col t c lo hi => .col (t.sub σ) c lo hi
  | .agr t u n w => .agr (t.sub σ) (u.sub σ) (n.sub σ) w
theorem PE.sub_den {σ : List E} {env env' : List D} (hσ : dens I env' σ = some env) : ∀ {p : PE}, p.den I env → (p.sub σ).den I env'
  | .tt _, ⟨n, h1, h2⟩ => ⟨n, E.sub_den hσ h1, h2⟩
  | .ff e, h => E.sub_den (e := e) hσ h
  | .rng _ _, ⟨n, h1, h2⟩ => ⟨n, E.sub_den hσ h1, h2⟩
  | .same _ _, ⟨d, h1, h2⟩ => ⟨d, E.sub_den hσ h1, E.sub_den hσ h2⟩
  | .pr _ _, ⟨ds, h1, h2⟩ => ⟨ds, dens_sub hσ h1, h2⟩
  | .sort true _, ⟨f, h⟩ => ⟨f, E.sub_den hσ h⟩
  | .sort false _, ⟨f, h⟩ => ⟨f, E.sub_den hσ h⟩
  | .col _ _ _ _, ⟨f, h1, h2⟩ => ⟨f, E.sub_den hσ h1, h2⟩
  | .agr _ _ _ _, ⟨f, g, k, h1, h2, h3, h4⟩ => ⟨f, g, k, E.sub_den hσ h1, E.sub_den hσ h2, E.sub_den hσ h3, h4⟩
  | .byt _ _, ⟨f, k, h1, h2, h3⟩ => ⟨f, k, E.sub_den hσ h1, E.sub_den hσ h2, h3⟩
def PE.sorted (fs : Nat → Option Bool) (ss : List Bool) : PE → Bool
  | .tt e | .ff e | .rng _ e | .sort _ e | .col e _ _ _ => (e.sortOf fs ss).isSome
  | .same a b | .byt a b => (a.sortOf fs ss).isSome && (b.sortOf fs ss).isSome
  | .agr t u n _ => (t.sortOf fs ss).isSome && ((u.sortOf fs ss).isSome && (n.sortOf fs ss).isSome)
  | .pr _ l => l.all fun e => (e.sortOf fs ss).isSome
section
variable {fs : Nat → Option Bool} (hI : I.tot fs) {ss : List Bool} {σ : List E} {env env' : List D} (hs : Sorts ss env) (hσ : dens I env' σ = some env)
include hI hs hσ
theorem E.sub_back {e : E} {d : D} (h1 : (e.sortOf fs ss).isSome = true) (h2 : (e.sub σ).den I env' = some d) : e.den I env = some d := by
  obtain ⟨b, hb⟩ := Option.isSome_iff_exists.1 h1
  obtain ⟨d', h3, _⟩ := E.sortOf_den hI hs hb
  have := E.sub_den hσ h3
  rw [this] at h2; cases h2; exact h3
theorem dens_back : ∀ {l : List E} {ds : List D}, (l.all fun e => (e.sortOf fs ss).isSome) = true → dens I env' (l.map (E.sub σ)) = some ds → dens I env l = some ds
  | [], _, _, h => h
  | e :: l, ds, hl, h => by
    simp only [List.all_cons, Bool.and_eq_true] at hl
    simp only [List.map_cons, dens] at h
    split at h
    · rename_i d ds' h1 h2
      cases h
      simp only [dens, E.sub_back hI hs hσ hl.1 h1, dens_back hl.2 h2]
    · cases h
theorem PE.sub_back {p : PE} (h1 : p.sorted fs ss = true) (h2 : (p.sub σ).den I env') : p.den I env := by
  cases p with
  | tt e => obtain ⟨n, h3, h4⟩ := h2; exact ⟨n, E.sub_back hI hs hσ h1 h3, h4⟩
  | ff e => exact E.sub_back hI hs hσ h1 h2
  | rng k e => obtain ⟨n, h3, h4⟩ := h2; exact ⟨n, E.sub_back hI hs hσ h1 h3, h4⟩
  | same a b =>
    simp only [PE.sorted, Bool.and_eq_true] at h1
    obtain ⟨d, h3, h4⟩ := h2
    exact ⟨d, E.sub_back hI hs hσ h1.1 h3, E.sub_back hI hs hσ h1.2 h4⟩
  | pr j l => obtain ⟨ds, h3, h4⟩ := h2; exact ⟨ds, dens_back hI hs hσ h1 h3, h4⟩
  | sort b e => cases b with
    | true => obtain ⟨n, h3⟩ := h2; exact ⟨n, E.sub_back hI hs hσ h1 h3⟩
    | false => obtain ⟨n, h3⟩ := h2; exact ⟨n, E.sub_back hI hs hσ h1 h3⟩
  | col t c lo hi => obtain ⟨f, h3, h4⟩ := h2; exact ⟨f, E.sub_back hI hs hσ h1 h3, h4⟩
  | agr t u n w =>
    simp only [PE.sorted, Bool.and_eq_true] at h1
    obtain ⟨f, g, k, h3, h4, h5, h6⟩ := h2
    exact ⟨f, g, k, E.sub_back hI hs hσ h1.1 h3, E.sub_back hI hs hσ h1.2.1 h4, E.sub_back hI hs hσ h1.2.2 h5, h6⟩
  | byt t m =>
    simp only [PE.sorted, Bool.and_eq_true] at h1
    obtain ⟨f, k, h3, h4, h5⟩ := h2
    exact ⟨f, k, E.sub_back hI hs hσ h1.1 h3, E.sub_back hI hs hσ h1.2 h4, h5⟩
end
def isVar : E → Bool
  | .var _ => true
  | _ => false
def defined (σ : List E) : PE → List E
  | .same (.var i) e => if ((σ[i]?).map isVar) = some true then σ.set i (e.sub σ) else σ
  | _ => σ
theorem dens_set {env' : List D} {e : E} {d : D} : ∀ {σ : List E} {env : List D} {i : Nat}, dens I env' σ = some env → env[i]? = some d → e.den I env' = some d → dens I env' (σ.set i e) = some env
  | [], env, i, h, hi, _ => by simp only [dens, Option.some.injEq] at h; subst h; simp at hi
  | e0 :: σ, env, i, h, hi, he => by
    simp only [dens] at h
    split at h
    · rename_i d0 ds h1 h2
      cases h
      cases i with
      | zero => simp at hi; subst hi; simp only [List.set_cons_zero, dens, he, h2]
      | succ i => simp only [List.set_cons_succ, dens, h1, dens_set h2 (by simpa using hi) he]
    · cases h
theorem defined_den {σ : List E} {env env' : List D} (hσ : dens I env' σ = some env) {p : PE} (hp : p.den I env) : dens I env' (defined σ p) = some env := by
  unfold defined
  split
  · split
    · obtain ⟨d, h1, h2⟩ := hp
      exact dens_set hσ h1 (E.sub_den hσ h2)
    · exact hσ
  · exact hσ
def Tree.tidy (fs : Nat → Option Bool) : List Bool → List E → List Bool → List PE → Tree → Tree
  | _, _, _, _, .ok => .ok
  | _, _, _, _, .fail n => .fail n
  | ss, σ, ss', K, .assert p t => if p.sorted fs ss then
      let q := p.sub σ
      if known fs ss' K q then t.tidy fs ss σ ss' K else .assert q (t.tidy fs ss σ ss' (q.flat ++ K))
    else .fail 200
  | ss, σ, ss', K, .assume p t =>
    let q := p.sub σ
    if known fs ss' K q then t.tidy fs ss σ ss' K else
    let t' := t.tidy fs ss (defined σ p) ss' (q.flat ++ K)
    if t'.isOk then .ok else .assume q t'
  | ss, σ, ss', K, .branch e a b => if e.sortOf fs ss = some false then
      let c := e.sub σ
      if known fs ss' K (.tt c) then a.tidy fs ss σ ss' K else if known fs ss' K (.ff c) then b.tidy fs ss σ ss' K else
      let a' := a.tidy fs ss σ ss' (c.flat true ++ K)
      let b' := b.tidy fs ss σ ss' (c.flat false ++ K)
      if a'.isOk && b'.isOk then .ok else .branch c a' b'
    else .fail 201
  | ss, σ, ss', K, .both a b =>
    let a' := a.tidy fs ss σ ss' K
    let b' := b.tidy fs ss σ ss' K
    if a'.isOk then b' else if b'.isOk then a' else .both a' b'
  | ss, σ, ss', K, .havoc s t =>
    let t' := t.tidy fs (ss ++ [s]) (σ ++ [.var ss'.length]) (ss' ++ [s]) K
    if t'.isOk then .ok else .havoc s t'
theorem dens_app1 {env' : List D} {e : E} {d : D} (he : e.den I env' = some d) : ∀ {σ : List E} {env : List D}, dens I env' σ = some env → dens I env' (σ ++ [e]) = some (env ++ [d])
  | [], env, h => by simp only [dens, Option.some.injEq] at h; subst h; simp [dens, he]
  | e0 :: σ, env, h => by
    simp only [dens] at h
    split at h
    · rename_i d0 ds h1 h2
      cases h
      simp only [List.cons_append, dens, h1, dens_app1 he h2]
    · cases h
theorem Tree.tidy_vc {fs : Nat → Option Bool} (hI : I.tot fs) : ∀ {t : Tree} {ss : List Bool} {σ : List E} {ss' : List Bool} {K : List PE} {env env' : List D}, Sorts ss env → Sorts ss' env' → dens I env' σ = some env → (∀ p ∈ K, p.den I env') →
    (t.tidy fs ss σ ss' K).vc I env' → t.vc I env := by
  intro t
  have addK : ∀ {K : List PE} {p : PE} {env : List D}, (∀ p ∈ K, p.den I env) → p.den I env → ∀ q ∈ p.flat ++ K, q.den I env := fun hK hp q hq => by
    rcases List.mem_append.1 hq with h | h
    · exact PE.flat_den.2 hp q h
    · exact hK q h
  induction t with
  | ok => intros; trivial
  | fail n => intro _ _ _ _ _ _ _ _ _ _ h; exact h
  | assert p t ih =>
    intro ss σ ss' K env env' hs hs' hσ hK h
    simp only [Tree.tidy] at h
    split at h
    · rename_i hsr
      split at h
      · rename_i hk
        exact ⟨PE.sub_back hI hs hσ hsr (known_den hI hs' hK hk), ih hs hs' hσ hK h⟩
      · exact ⟨PE.sub_back hI hs hσ hsr h.1, ih hs hs' hσ (addK hK h.1) h.2⟩
    · exact h.elim
  | assume p t ih =>
    intro ss σ ss' K env env' hs hs' hσ hK h hp
    simp only [Tree.tidy] at h
    have hq := PE.sub_den hσ hp
    split at h
    · exact ih hs hs' hσ hK h
    split at h
    · rename_i hk; exact ih hs hs' (defined_den hσ hp) (addK hK hq) (Tree.isOk_vc hk)
    · exact ih hs hs' (defined_den hσ hp) (addK hK hq) (h hq)
  | branch e a b iha ihb =>
    intro ss σ ss' K env env' hs hs' hσ hK h
    simp only [Tree.tidy] at h
    split at h
    rotate_left
    · exact h.elim
    split at h
    · rename_i hk
      obtain ⟨m, h1, h2⟩ := known_den hI hs' hK hk
      exact ⟨fun _ _ _ => iha hs hs' hσ hK h, fun h3 => by rw [E.sub_den hσ h3] at h1; cases h1; exact (h2 rfl).elim⟩
    split at h
    · rename_i hk
      have h1 : (e.sub σ).den I env' = some (.i 0) := known_den hI hs' hK hk
      exact ⟨fun n h2 h3 => by rw [E.sub_den hσ h2] at h1; cases h1; exact (h3 rfl).elim, fun _ => ihb hs hs' hσ hK h⟩
    have hT : ∀ n, e.den I env = some (.i n) → n ≠ 0 → ∀ q ∈ (e.sub σ).flat true ++ K, q.den I env' := fun n h1 h2 => addK (p := .tt (e.sub σ)) hK ⟨n, E.sub_den hσ h1, h2⟩
    have hF : e.den I env = some (.i 0) → ∀ q ∈ (e.sub σ).flat false ++ K, q.den I env' := fun h1 => addK (p := .ff (e.sub σ)) hK (E.sub_den hσ h1)
    split at h
    · rename_i hk
      simp only [Bool.and_eq_true] at hk
      exact ⟨fun n h1 h2 => iha hs hs' hσ (hT n h1 h2) (Tree.isOk_vc hk.1), fun h1 => ihb hs hs' hσ (hF h1) (Tree.isOk_vc hk.2)⟩
    · exact ⟨fun n h1 h2 => iha hs hs' hσ (hT n h1 h2) (h.1 n (E.sub_den hσ h1) h2), fun h1 => ihb hs hs' hσ (hF h1) (h.2 (E.sub_den hσ h1))⟩
  | both a b iha ihb =>
    intro ss σ ss' K env env' hs hs' hσ hK h
    simp only [Tree.tidy] at h
    split at h
    · rename_i hk; exact ⟨iha hs hs' hσ hK (Tree.isOk_vc hk), ihb hs hs' hσ hK h⟩
    split at h
    · rename_i hk; exact ⟨iha hs hs' hσ hK h, ihb hs hs' hσ hK (Tree.isOk_vc hk)⟩
    · exact ⟨iha hs hs' hσ hK h.1, ihb hs hs' hσ hK h.2⟩
  | havoc s t ih =>
    intro ss σ ss' K env env' hs hs' hσ hK h
    simp only [Tree.tidy] at h
    have go : ∀ d : D, d.is s → (∀ q ∈ K, q.den I (env' ++ [d])) ∧ dens I (env' ++ [d]) (σ ++ [.var ss'.length]) = some (env ++ [d]) := fun d _ =>
      ⟨fun q hq => PE.den_more (hK q hq), dens_app1 (by simp only [E.den, ← hs'.length, List.getElem?_concat_length]) (dens_more hσ)⟩
    cases s with
    | true =>
      intro f
      obtain ⟨hK', hσ'⟩ := go (.t f) trivial
      split at h
      · rename_i hk; exact ih (hs.app (b := true) trivial) (hs'.app (b := true) (d := .t f) trivial) hσ' hK' (Tree.isOk_vc hk)
      · exact ih (hs.app (b := true) trivial) (hs'.app (b := true) (d := .t f) trivial) hσ' hK' (h f)
    | false =>
      intro f
      obtain ⟨hK', hσ'⟩ := go (.i f) trivial
      split at h
      · rename_i hk; exact ih (hs.app (b := false) trivial) (hs'.app (b := false) (d := .i f) trivial) hσ' hK' (Tree.isOk_vc hk)
      · exact ih (hs.app (b := false) trivial) (hs'.app (b := false) (d := .i f) trivial) hσ' hK' (h f)
def tidied (fs : Nat → Option Bool) (cx : Cx) (fuel : Nat) (c : Contract) : Tree := (verify cx fuel c).tidy fs c.sorts (varsFrom 0 c.sorts.length) c.sorts []
theorem tidied_sound {fs : Nat → Option Bool} (hI : I.tot fs) {cx : Cx} (hC : ∀ c ∈ cx.cs, COk I cx.P cx.kn.globs c) {fuel : Nat} {c : Contract} (h : ∀ ds, Sorts c.sorts ds → (tidied fs cx fuel c).vc I ds) : COk I cx.P cx.kn.globs c :=
  verify_sound hC fun ds hd => by
    have h1 := dens_vars (I := I) (env := []) (outs := ds) ds.length (Nat.le_refl _)
    simp only [List.nil_append, List.length_nil, List.take_length] at h1
    rw [hd.length] at h1
    exact Tree.tidy_vc hI hd hd h1 (by simp) (h ds hd)
theorem tidied_ok {fs : Nat → Option Bool} (hI : I.tot fs) {cx : Cx} (hC : ∀ c ∈ cx.cs, COk I cx.P cx.kn.globs c) {fuel : Nat} {c : Contract} (h : (tidied fs cx fuel c).isOk = true) : COk I cx.P cx.kn.globs c :=
  tidied_sound hI hC fun _ _ => Tree.isOk_vc h
def noFs : Nat → Option Bool := fun _ => none
theorem tot_none (I : Itp) : I.tot noFs := fun _ _ h => by cases h
end Go.Sx
noncomputable section
namespace Go.Sx
open Go
variable {f : Nat → D → D → D → D → Option D} {p q : Nat → List D → Prop} {P : Program} {g : G} {A : Amb}
theorem E.den_pr (env : List D) : ∀ e : E, e.den ⟨f, p⟩ env = e.den ⟨f, q⟩ env := by
  intro e
  induction e with
  | lit n => rfl
  | zt => rfl
  | kt row => rfl
  | bt b => rfl
  | var i => rfl
  | bin o a b iha ihb => simp only [E.den, iha, ihb]
  | wrap k a ih => simp only [E.den, ih]
  | sel t r c iht ihr => simp only [E.den, iht, ihr]
  | upd t r c v iht ihr ihv => simp only [E.den, iht, ihr, ihv]
  | cat t n u iht ihn ihu => simp only [E.den, iht, ihn, ihu]
  | sh t n iht ihn => simp only [E.den, iht, ihn]
  | teq t n u m iht ihn ihu ihm => simp only [E.den, iht, ihn, ihu, ihm]
  | fn j a b c d iha ihb ihc ihd => simp only [E.den, iha, ihb, ihc, ihd]; rfl
mutual
theorem Rel.pr : ∀ {v : AV} {x : Value}, Rel ⟨f, p⟩ g v x → Rel ⟨f, q⟩ g v x := by
  intro v x h
  have he : ∀ (e : E) (d : D), e.den ⟨f, p⟩ g.env = some d → e.den ⟨f, q⟩ g.env = some d := fun e d h => by rw [← E.den_pr (p := p)]; exact h
  match v with
  | .any => simp [Rel]
  | .undef => simpa [Rel] using h
  | .bool e => obtain ⟨n, h1, h2⟩ := h; exact ⟨n, he _ _ h1, h2⟩
  | .int k e => obtain ⟨n, h1, h2⟩ := h; exact ⟨n, he _ _ h1, h2⟩
  | .nilptr => simpa [Rel] using h
  | .ptr b r s k => obtain ⟨n, p', h1, h2⟩ := h; exact ⟨n, p', he _ _ h1, h2⟩
  | .nilslice => simpa [Rel] using h
  | .slice b lo n s nl => obtain ⟨l, m, h1, h2, h3⟩ := h; exact ⟨l, m, he _ _ h1, he _ _ h2, h3⟩
  | .func fn l => obtain ⟨cs, h1, h2⟩ := h; exact ⟨cs, h1, Rels.pr h2⟩
  | .yld b => exact h
  | .nilfunc => simpa [Rel] using h
  | .agg l => obtain ⟨cs, h1, h2⟩ := h; exact ⟨cs, h1, Rels.pr h2⟩
  | .tup l => obtain ⟨cs, h1, h2⟩ := h; exact ⟨cs, h1, Rels.pr h2⟩
  | .big l ks t n m => obtain ⟨tf, xs, ys, zs, h1, h2, h3, h4, h5⟩ := h; exact ⟨tf, xs, ys, zs, he _ _ h1, h2, Rels.pr h3, Rels.pr h4, h5⟩
  | .cap0 => simpa [Rel] using h
  | .empty => simpa [Rel] using h
  | .asl b k n s => simpa [Rel] using h
  | .bfunc fn l m => obtain ⟨ms, cs, h1, h2, h3⟩ := h; exact ⟨ms, cs, h1, Rels.pr h2, Rels.pr h3⟩
  | .gptr b k => simpa [Rel] using h
  | .str l => simpa [Rel] using h
  | .strT t n => obtain ⟨tf, k, s, h1, h2, h3⟩ := h; exact ⟨tf, k, s, he _ _ h1, he _ _ h2, h3⟩
  | .capN => simpa [Rel] using h
  | .mref b => simpa [Rel] using h
  | .nilmap => simpa [Rel] using h
  | .nilif => simpa [Rel] using h
  | .sat e => obtain ⟨n, h1, h2⟩ := h; exact ⟨n, he _ _ h1, h2⟩
  | .ifo e => obtain ⟨n, h1, h2⟩ := h; exact ⟨n, he _ _ h1, h2⟩
theorem Rels.pr : ∀ {l : List AV} {xs : List Value}, Rels ⟨f, p⟩ g l xs → Rels ⟨f, q⟩ g l xs := by
  intro l xs h
  match l, xs with
  | [], [] => trivial
  | v :: l, x :: xs => exact ⟨Rel.pr h.1, Rels.pr h.2⟩
  | [], _ :: _ => simp [Rels] at h
  | _ :: _, [] => simp [Rels] at h
end
theorem FamOp.pr : ∀ {op : Option E} {k : Option Int}, FamOp ⟨f, p⟩ g op k → FamOp ⟨f, q⟩ g op k
  | none, none, _ => trivial
  | some _, some _, h => by simp only [FamOp] at h ⊢; rw [← E.den_pr (p := p)]; exact h
  | none, some _, h => h.elim
  | some _, none, h => h.elim
theorem BRel.pr {b : Nat} {H : Nat → Option Obj} : ∀ {x : Blk}, BRel ⟨f, p⟩ P g b H x → BRel ⟨f, q⟩ P g b H x
  | .cells l wr, ⟨pb, c, T, fr, h1, h2, h3, h4⟩ => ⟨pb, c, T, fr, h1, h2, fun i v hv => let ⟨x, a, b⟩ := h3 i v hv; ⟨x, a, Rel.pr b⟩, h4⟩
  | .rows ks t len wr nl, ⟨tf, n, h1, h2, h3⟩ => ⟨tf, n, by rw [← E.den_pr (p := p)]; exact h1, by rw [← E.den_pr (p := p)]; exact h2, h3⟩
  | .big l ks t n m wr, ⟨pb, c, T, fr, tf, h1, h2, h3, h4, h5, h6, h7⟩ =>
    ⟨pb, c, T, fr, tf, h1, h2, by rw [← E.den_pr (p := p)]; exact h3, fun i v hv => let ⟨x, a, b⟩ := h4 i v hv; ⟨x, a, Rel.pr b⟩, h5, fun i v hv => let ⟨x, a, b⟩ := h6 i v hv; ⟨x, a, Rel.pr b⟩, h7⟩
  | .loop st pend fn ix nt ts d, ⟨pb, qb, r, rf, h1, h2, h3, h4, h5, h6, h7, h8, h9, h10, h11, h12⟩ =>
    ⟨pb, qb, r, rf, h1, h2, h3, h4, h5, h6, h7, h8, h9, h10, h11, fun t v a b => let ⟨x, c, d⟩ := h12 t v a b; ⟨x, c, Rel.pr d⟩⟩
  | .dfr sh, h => h
  | .mp l m, ⟨pb, es, c, h1, h2, h3, h4⟩ => ⟨pb, es, c, h1, h2, Rels.pr h3, Rels.pr h4⟩
  | .smp _ _ _ _ _, ⟨pb, es, c, tf, h1, h2, h3, h4, h5⟩ => ⟨pb, es, c, tf, h1, h2, by rw [← E.den_pr (p := p)]; exact h3, by rw [← E.den_pr (p := p)]; exact h4, h5⟩
  | .iter _ _ _, ⟨pb, n, m, h1, h2, h3, h4, h5⟩ => ⟨pb, n, m, h1, h2, by rw [← E.den_pr (p := p)]; exact h3, by rw [← E.den_pr (p := p)]; exact h4, h5⟩
  | .bld _ _ _, ⟨pb, n, x, y, h1, h2, h3, h4, h5⟩ => ⟨pb, n, x, y, h1, h2, h3, by rw [← E.den_pr (p := p)]; exact h4, h5⟩
  | .byt _ _, ⟨n, h1, h2⟩ => ⟨n, by rw [← E.den_pr (p := p)]; exact h1, h2⟩
  | .fam _ _ _, ⟨pb, es, c, tf, k, h1, h2, h3, h4, h5⟩ => ⟨pb, es, c, tf, k, h1, h2, by rw [← E.den_pr (p := p)]; exact h3, FamOp.pr h4, h5⟩
theorem FRef.pr {b o : Nat} {H : Nat → Option Obj} : ∀ {x : Blk}, FRef H ⟨f, p⟩ g b x o → FRef H ⟨f, q⟩ g b x o
  | .fam _ _ _, ⟨pb, es, c, k, κ, h1, h2, h3, h4⟩ => ⟨pb, es, c, k, κ, h1, h2, FamOp.pr h3, h4⟩
theorem MRel.pr {M : Mem} {w : World} (h : MRel A ⟨f, p⟩ P g M w) : MRel A ⟨f, q⟩ P g M w where
  wf := h.wf
  blk := fun b x hb => BRel.pr (h.blk b x hb)
  lt := h.lt
  inj := h.inj
  bnd := h.bnd
  own := h.own
  size := h.size
  keep := h.keep
  same := h.same
  fam := fun b x o hx hr => let ⟨h1, h2, h3, h4⟩ := h.fam b x o hx (FRef.pr hr); ⟨h1, h2, h3, fun c y hc hr => h4 c y hc (FRef.pr hr)⟩
theorem dens_pr (env : List D) : ∀ l : List E, dens ⟨f, p⟩ env l = dens ⟨f, q⟩ env l
  | [] => rfl
  | e :: l => by simp only [dens, E.den_pr (p := p) (q := q) env e, dens_pr env l]
theorem PE.den_pr {env : List D} : ∀ {e : PE}, (∀ j l, e = .pr j l → ∀ ds, p j ds → q j ds) → e.den ⟨f, p⟩ env → e.den ⟨f, q⟩ env
  | .tt e, _, ⟨n, h1, h2⟩ => ⟨n, by rw [← E.den_pr (p := p)]; exact h1, h2⟩
  | .ff e, _, h => by have h : e.den ⟨f, p⟩ env = some (.i 0) := h; show e.den ⟨f, q⟩ env = some (.i 0); rw [← E.den_pr (p := p)]; exact h
  | .rng k e, _, ⟨n, h1, h2⟩ => ⟨n, by rw [← E.den_pr (p := p)]; exact h1, h2⟩
  | .same a b, _, ⟨d, h1, h2⟩ => ⟨d, by rw [← E.den_pr (p := p)]; exact h1, by rw [← E.den_pr (p := p)]; exact h2⟩
  | .pr j l, hj, ⟨ds, h1, h2⟩ => ⟨ds, by rw [← dens_pr (p := p)]; exact h1, hj j l rfl ds h2⟩
  | .sort true e, _, ⟨n, h1⟩ => ⟨n, by rw [← E.den_pr (p := p)]; exact h1⟩
  | .sort false e, _, ⟨n, h1⟩ => ⟨n, by rw [← E.den_pr (p := p)]; exact h1⟩
  | .col _ _ _ _, _, ⟨f, h1, h2⟩ => ⟨f, by rw [← E.den_pr (p := p)]; exact h1, h2⟩
  | .agr _ _ _ _, _, ⟨f, g, k, h1, h2, h3, h4⟩ => ⟨f, g, k, by rw [← E.den_pr (p := p)]; exact h1, by rw [← E.den_pr (p := p)]; exact h2, by rw [← E.den_pr (p := p)]; exact h3, h4⟩
  | .byt _ _, _, ⟨f, k, h1, h2, h3⟩ => ⟨f, k, by rw [← E.den_pr (p := p)]; exact h1, by rw [← E.den_pr (p := p)]; exact h2, h3⟩
theorem COk.pr {gl : List Glob} {c : Contract} {pre post : List PE} (h : COk ⟨f, p⟩ P gl c) (hpre : ∀ env, Sorts c.sorts env → (∀ e ∈ pre, e.den ⟨f, q⟩ env) → ∀ e ∈ c.pre, e.den ⟨f, p⟩ env)
    (hpost : ∀ env, (∀ e ∈ c.post, e.den ⟨f, p⟩ env) → ∀ e ∈ post, e.den ⟨f, q⟩ env) : COk ⟨f, q⟩ P gl { c with pre := pre, post := post } := by
  intro g w xs hso hnb hG hm ha hp
  refine (h g w xs hso hnb hG hm.pr (Rels.pr ha) (hpre _ hso hp)).mono fun e w' he => ?_
  obtain ⟨v, outs, g', h1, h2, h3, h4, h5, h6, h7, h8⟩ := he
  exact ⟨v, outs, g', h1, h2, h3, h4, h5, h6.pr, h7.pr, hpost _ h8⟩
theorem COk.weak {I : Itp} {gl : List Glob} {c : Contract} {post : List PE} (h : COk I P gl c)
    (hpost : ∀ env outs, Sorts c.sorts env → Sorts c.outs outs → (∀ e ∈ c.pre, e.den I env) → (∀ e ∈ c.post, e.den I (env ++ outs)) → ∀ e ∈ post, e.den I (env ++ outs)) : COk I P gl { c with post := post } := by
  intro g w xs hso hnb hG hm ha hp
  refine (h g w xs hso hnb hG hm ha hp).mono fun e w' he => ?_
  obtain ⟨v, outs, g', h1, h2, h3, h4, h5, h6, h7, h8⟩ := he
  exact ⟨v, outs, g', h1, h2, h3, h4, h5, h6, h7, by rw [h3] at h8 ⊢; exact hpost g.env outs hso h2 hp h8⟩
end Go.Sx
noncomputable section
namespace Go.Sx
open Go Go.ChangeShapes Go.WideShapes Go.ChangeAt Go.RowKit
structure Kept (W W' : World) : Prop where
  os : W'.os = W.os
  output : W'.output = W.output
  size : W.heap.size ≤ W'.heap.size
  old : ∀ i, i < W.heap.size → W'.heap[i]? = W.heap[i]?
theorem Kept.refl (W : World) : Kept W W := ⟨rfl, rfl, Nat.le_refl _, fun _ _ => rfl⟩
theorem Kept.keptBut {W W' : World} (h : Kept W W') (may : MemPlace → Prop) : W.keptBut W' may := by
  refine ⟨h.os, h.output, fun i hi => ?_⟩
  rw [h.old i hi]
  split
  · rename_i a b; cases b.symm.trans a; exact ⟨rfl, rfl, rfl, fun _ _ => rfl⟩
  · rename_i a b; cases b.symm.trans a; exact .inr ⟨rfl, rfl⟩
  · rfl
theorem Kept.sameAt {W W' : World} (h : Kept W W') {p : MemPlace} (hp : p.block < W.heap.size) : W.sameAt W' p := by
  cases p with
  | cell b off => simp only [World.sameAt, World.cell?]; rw [h.old b hp]
  | map b => exact h.old b hp
variable {H : Type} {enc : TypeId × Value → H} {P : Program}
theorem Kept.trodAll {W W' : World} (h : Kept W W') (hl : laidOutB P = true) : ∀ {ts : List TypeId} {vs : List Value} {ds : List (DataW H)} {ps : List MemPlace}, (∀ t ∈ ts, P.readableRec t = true ∧ t < P.types.size) →
    DataW.TrodAll enc P W 0 (fun _ => true) true ts vs ds ps → (∀ p ∈ ps, p.block < W.heap.size) → ∀ sp : Nat → Bool, (∀ p ∈ ps, sp p.block = true) → DataW.TrodAll enc P W' 0 sp true ts vs ds ps
  | [], _, _, _, _, ht, _, _, _ => by
    obtain ⟨rfl, rfl, rfl⟩ := trodAll_nil ht
    exact trodAll_mk0
  | t :: ts, _, _, _, hr, ht, hlt, sp, hs => by
    obtain ⟨v, vs', d, ds', p, q, rfl, rfl, rfl, h0, r0⟩ := trodAll_cons ht
    have hr0 := hr t (by simp)
    exact trodAll_cons_mk (WideElems.Trod_stays hl hr0.1 hr0.2 h0 (fun x hx => h.sameAt (hlt x (by simp [hx]))) (fun x hx => hs x (by simp [hx])))
      (Kept.trodAll h hl (fun t ht => hr t (by simp [ht])) r0 (fun p hp => hlt p (by simp [hp])) sp (fun p hp => hs p (by simp [hp])))
theorem law_post {f : Func} {s : ChangeSpec} {tb : TypeId} {apart fresh : Bool} {W W' : World} {args : Array Value} {ds gs : List (DataW H)} {before : List MemPlace}
    (hl : laidOutB P = true) (hrt : f.resultTypes = #[tb]) (hb : P.underlying tb = some .bool) (hv : s.vars = []) (hrd : ∀ t ∈ f.params.toList, P.readableRec t = true ∧ t < P.types.size)
    (hres : (s.fn H (ds ++ gs)).results = [.lit (.bool true)]) (hargs : (s.fn H (ds ++ gs)).args = ds) (hvs : (s.fn H (ds ++ gs)).vars = [])
    (hW : DataW.Whole enc P f.params.toList s.vars apart W args.toList ds gs before) (hk : Kept W W') : s.post enc P f apart fresh false false W args (.bool true) W' := by
  have hlt := hW.lt
  have hW0 := hW
  obtain ⟨p, q, hA, hV, rfl, hz, hn⟩ := hW
  rw [hv] at hV
  obtain ⟨rfl, rfl⟩ := trodVars_none hV
  simp only [List.append_nil] at hW0 hlt hres hargs hvs hz hn
  have hA' : ∀ sp : Nat → Bool, (∀ x ∈ p, sp x.block = true) → DataW.TrodAll enc P W' 0 sp true f.params.toList args.toList ds p := hk.trodAll hl hrd hA hlt
  have hR : ∀ (b : Nat) (sp : Nat → Bool) (hd : Bool), DataW.TrodAll enc P W' b sp hd f.resultTypes.toList ((Value.bool true).resultList f.resultTypes.size) [.lit (.bool true)] [] := fun b sp hd => by
    rw [hrt]; exact trodAll_mk1 (shut_bool hb true)
  refine ⟨ds, [], p, [], p, [], hW0, ?_, ?_, ?_, World.keptBut_mono (fun x hx => ⟨hx, .inr (.inl hx)⟩) (hk.keptBut _), fun h => by cases h⟩
  · simp only [List.append_nil, hres]; exact hR _ _ _
  · simp only [List.append_nil, hargs]
    exact hA' _ fun x hx => by simpa using hlt x hx
  · simp only [List.append_nil, hvs, hv]; rfl
end Go.Sx
end
namespace Go.Sx
open Go
theorem one_ne {P : Prop} [Decidable P] : ((if P then (1 : Int) else 0) ≠ 0) = P := by by_cases h : P <;> simp [h]
theorem one_eq {P : Prop} [Decidable P] : ((if P then (1 : Int) else 0) = 0) = ¬ P := by by_cases h : P <;> simp [h]
theorem zero_ne {P : Prop} [Decidable P] : ((if P then (0 : Int) else 1) ≠ 0) = ¬ P := by by_cases h : P <;> simp [h]
theorem zero_eq {P : Prop} [Decidable P] : ((if P then (0 : Int) else 1) = 0) = P := by by_cases h : P <;> simp [h]
theorem min_i64 : IntKind.i64.min = -9223372036854775808 := rfl
theorem max_i64 : IntKind.i64.max = 9223372036854775807 := rfl
theorem min_u8 : IntKind.u8.min = 0 := rfl
theorem max_u8 : IntKind.u8.max = 255 := rfl
theorem min_u16 : IntKind.u16.min = 0 := rfl
theorem max_u16 : IntKind.u16.max = 65535 := rfl
theorem min_u32 : IntKind.u32.min = 0 := rfl
theorem max_u32 : IntKind.u32.max = 4294967295 := rfl
theorem min_u64 : IntKind.u64.min = 0 := rfl
theorem max_u64 : IntKind.u64.max = 18446744073709551615 := rfl
theorem all_t {l : List Bool} {Q : List D → Prop} (h : ∀ T ds, Sorts l ds → Q (.t T :: ds)) : ∀ ds, Sorts (true :: l) ds → Q ds := by
  intro ds hs
  match ds, hs with
  | .t T :: ds, hs => exact h T ds hs
  | [], hs => exact hs.elim
  | .i _ :: _, hs => exact hs.elim
theorem all_i {l : List Bool} {Q : List D → Prop} (h : ∀ n ds, Sorts l ds → Q (.i n :: ds)) : ∀ ds, Sorts (false :: l) ds → Q ds := by
  intro ds hs
  match ds, hs with
  | .i n :: ds, hs => exact h n ds hs
  | [], hs => exact hs.elim
  | .t _ :: _, hs => exact hs.elim
theorem all_n {Q : List D → Prop} (h : Q []) : ∀ ds, Sorts [] ds → Q ds := by
  intro ds hs
  match ds, hs with
  | [], _ => exact h
  | _ :: _, hs => exact hs.elim
theorem cs_nil {I : Itp} {P : Program} {gl : List Glob} : ∀ c ∈ ([] : List Contract), COk I P gl c := fun _ h => by cases h
theorem cs_cons {I : Itp} {P : Program} {gl : List Glob} {c : Contract} {l : List Contract} (h : COk I P gl c) (hl : ∀ c ∈ l, COk I P gl c) : ∀ d ∈ c :: l, COk I P gl d := fun d hd => by
  rcases List.mem_cons.1 hd with rfl | hd
  · exact h
  · exact hl d hd
theorem ok_of {fs : Nat → Option Bool} {I : Itp} (hI : I.tot fs) {cx : Cx} {fuel : Nat} {c : Contract} {t : Tree} (hC : ∀ c ∈ cx.cs, COk I cx.P cx.kn.globs c) (ht : tidied fs cx fuel c = t) (h : ∀ ds, Sorts c.sorts ds → t.vc I ds) : COk I cx.P cx.kn.globs c :=
  tidied_sound hI hC fun ds hs => by rw [ht]; exact h ds hs
theorem quo64 {x : Int} (h0 : 0 ≤ x) (h1 : x < 1024) : bitsEv 6 .i64 x 64 = x / 64 := by
  have h2 : x.tdiv 64 = x / 64 := Int.tdiv_eq_ediv_of_nonneg h0
  simp only [bitsEv, h2, IntKind.wrap, IntKind.signed, IntKind.bits]
  have : x / 64 % 18446744073709551616 = x / 64 := Int.emod_eq_of_lt (by omega) (by omega)
  simp only [Int.reducePow, Bool.true_and, this]
  rw [if_neg]
  simp; omega
theorem bits_zero (x : Int) : bitsEv 0 .u64 (bitsEv 5 .u64 0 x) 1 = 0 := by
  have : bitsEv 5 .u64 0 x = 0 := by simp [bitsEv]
  rw [this]; rfl
end Go.Sx
noncomputable section
namespace Go.Sx
open Go
variable {I : Itp}
def Tree.only : Tree → List Bool → Tree
  | t, [] => t
  | .ok, _ => .ok
  | .fail n, _ => .fail n
  | .assert q t, p => .assert q (t.only p)
  | .assume q t, p => .assume q (t.only p)
  | .havoc s t, p => .havoc s (t.only p)
  | .branch e a _, true :: p => .branch e (a.only p) .ok
  | .branch e _ b, false :: p => .branch e .ok (b.only p)
  | .both a _, true :: p => a.only p
  | .both _ b, false :: p => b.only p
theorem Tree.vc_only : ∀ {t : Tree} {p : List Bool} {env : List D}, t.vc I env → (t.only p).vc I env := by
  intro t
  induction t with
  | ok => intro p env _; cases p <;> trivial
  | fail n => intro p env h; exact h.elim
  | assert q t ih =>
    intro p env h
    cases p with
    | nil => exact h
    | cons c p => exact ⟨h.1, ih h.2⟩
  | assume q t ih =>
    intro p env h
    cases p with
    | nil => exact h
    | cons c p => exact fun hq => ih (h hq)
  | branch e a b iha ihb =>
    intro p env h
    match p with
    | [] => exact h
    | true :: p => exact ⟨fun n hn h0 => iha (h.1 n hn h0), fun _ => trivial⟩
    | false :: p => exact ⟨fun _ _ _ => trivial, fun hn => ihb (h.2 hn)⟩
  | both a b iha ihb =>
    intro p env h
    match p with
    | [] => exact h
    | true :: p => exact iha (p := p) h.1
    | false :: p => exact ihb (p := p) h.2
  | havoc s t ih =>
    intro p env h
    cases p with
    | nil => exact h
    | cons c p =>
      cases s with
      | true => exact fun f => ih (h f)
      | false => exact fun f => ih (h f)
def mkAssume (q : PE) (t : Tree) : Tree := if t.isOk then .ok else .assume q t
def mkBranch (c : E) (a b : Tree) : Tree := if a.isOk && b.isOk then .ok else .branch c a b
def mkBoth (a b : Tree) : Tree := if a.isOk then b else if b.isOk then a else .both a b
def mkHavoc (s : Bool) (t : Tree) : Tree := if t.isOk then .ok else .havoc s t
theorem mkAssume_vc {q : PE} {t : Tree} {env : List D} : (mkAssume q t).vc I env ↔ (Tree.assume q t).vc I env := by
  unfold mkAssume
  split
  · rename_i h; exact ⟨fun _ _ => Tree.isOk_vc h, fun _ => trivial⟩
  · exact Iff.rfl
theorem mkBranch_vc {c : E} {a b : Tree} {env : List D} : (mkBranch c a b).vc I env ↔ (Tree.branch c a b).vc I env := by
  unfold mkBranch
  split
  · rename_i h
    simp only [Bool.and_eq_true] at h
    exact ⟨fun _ => ⟨fun _ _ _ => Tree.isOk_vc h.1, fun _ => Tree.isOk_vc h.2⟩, fun _ => trivial⟩
  · exact Iff.rfl
theorem mkBoth_vc {a b : Tree} {env : List D} : (mkBoth a b).vc I env ↔ (Tree.both a b).vc I env := by
  unfold mkBoth
  split
  · rename_i h; exact ⟨fun hb => ⟨Tree.isOk_vc h, hb⟩, fun h => h.2⟩
  · split
    · rename_i h; exact ⟨fun ha => ⟨ha, Tree.isOk_vc h⟩, fun h => h.1⟩
    · exact Iff.rfl
theorem mkHavoc_vc {s : Bool} {t : Tree} {env : List D} : (mkHavoc s t).vc I env ↔ (Tree.havoc s t).vc I env := by
  unfold mkHavoc
  split
  · rename_i h
    refine ⟨fun _ => ?_, fun _ => trivial⟩
    cases s with
    | true => exact fun _ => Tree.isOk_vc h
    | false => exact fun _ => Tree.isOk_vc h
  · exact Iff.rfl
def Tree.tidyP (fs : Nat → Option Bool) : List Bool → List E → List Bool → List PE → Tree → List Bool → Tree
  | ss, σ, ss', K, t, [] => t.tidy fs ss σ ss' K
  | _, _, _, _, .ok, _ => .ok
  | _, _, _, _, .fail n, _ => .fail n
  | ss, σ, ss', K, .assert p t, l => if p.sorted fs ss then
      let q := p.sub σ
      if known fs ss' K q then t.tidyP fs ss σ ss' K l else .assert q (t.tidyP fs ss σ ss' (q.flat ++ K) l)
    else .fail 200
  | ss, σ, ss', K, .assume p t, l =>
    let q := p.sub σ
    if known fs ss' K q then t.tidyP fs ss σ ss' K l else mkAssume q (t.tidyP fs ss (defined σ p) ss' (q.flat ++ K) l)
  | ss, σ, ss', K, .branch e a b, d :: l => if e.sortOf fs ss = some false then
      let c := e.sub σ
      if known fs ss' K (.tt c) then a.tidyP fs ss σ ss' K (d :: l) else if known fs ss' K (.ff c) then b.tidyP fs ss σ ss' K (d :: l) else
      if d then mkBranch c (a.tidyP fs ss σ ss' (c.flat true ++ K) l) .ok else mkBranch c .ok (b.tidyP fs ss σ ss' (c.flat false ++ K) l)
    else .fail 201
  | ss, σ, ss', K, .both a b, d :: l => if d then a.tidyP fs ss σ ss' K l else b.tidyP fs ss σ ss' K l
  | ss, σ, ss', K, .havoc s t, l => mkHavoc s (t.tidyP fs (ss ++ [s]) (σ ++ [.var ss'.length]) (ss' ++ [s]) K l)
theorem Tree.tidyP_nil {fs : Nat → Option Bool} {ss : List Bool} {σ : List E} {ss' : List Bool} {K : List PE} (t : Tree) : t.tidyP fs ss σ ss' K [] = t.tidy fs ss σ ss' K := by cases t <;> rfl
theorem Tree.tidyP_cut {fs : Nat → Option Bool} : ∀ {t : Tree} {ss : List Bool} {σ : List E} {ss' : List Bool} {K : List PE} {p : List Bool} {env : List D},
    (t.tidyP fs ss σ ss' K (p ++ [true])).vc I env → (t.tidyP fs ss σ ss' K (p ++ [false])).vc I env → (t.tidyP fs ss σ ss' K p).vc I env := by
  intro t
  induction t with
  | ok => intro ss σ ss' K p env _ _; cases p <;> trivial
  | fail n => intro ss σ ss' K p env h _; cases p <;> exact h
  | assert q t ih =>
    intro ss σ ss' K p env h1 h2
    have e : ∀ c l, (Tree.assert q t).tidyP fs ss σ ss' K (c :: l) = (if q.sorted fs ss then (if known fs ss' K (q.sub σ) then t.tidyP fs ss σ ss' K (c :: l) else .assert (q.sub σ) (t.tidyP fs ss σ ss' ((q.sub σ).flat ++ K) (c :: l))) else .fail 200) := fun _ _ => rfl
    have e0 : (Tree.assert q t).tidyP fs ss σ ss' K p = (if q.sorted fs ss then (if known fs ss' K (q.sub σ) then t.tidyP fs ss σ ss' K p else .assert (q.sub σ) (t.tidyP fs ss σ ss' ((q.sub σ).flat ++ K) p)) else .fail 200) := by
      cases p with
      | nil => rw [Tree.tidyP_nil, Tree.tidyP_nil, Tree.tidyP_nil]; rfl
      | cons c l => exact e c l
    obtain ⟨c1, l1, g1⟩ : ∃ c l, p ++ [true] = c :: l := by cases p <;> simp
    obtain ⟨c2, l2, g2⟩ : ∃ c l, p ++ [false] = c :: l := by cases p <;> simp
    rw [g1, e, ← g1] at h1
    rw [g2, e, ← g2] at h2
    rw [e0]
    split
    · rename_i hs
      rw [if_pos hs] at h1 h2
      split
      · rename_i hk
        rw [if_pos hk] at h1 h2
        exact ih h1 h2
      · rename_i hk
        rw [if_neg hk] at h1 h2
        exact ⟨h1.1, ih h1.2 h2.2⟩
    · rename_i hs
      rw [if_neg hs] at h1
      exact h1
  | assume q t ih =>
    intro ss σ ss' K p env h1 h2
    have e : ∀ c l, (Tree.assume q t).tidyP fs ss σ ss' K (c :: l) = (if known fs ss' K (q.sub σ) then t.tidyP fs ss σ ss' K (c :: l) else mkAssume (q.sub σ) (t.tidyP fs ss (defined σ q) ss' ((q.sub σ).flat ++ K) (c :: l))) := fun _ _ => rfl
    have e0 : (Tree.assume q t).tidyP fs ss σ ss' K p = (if known fs ss' K (q.sub σ) then t.tidyP fs ss σ ss' K p else mkAssume (q.sub σ) (t.tidyP fs ss (defined σ q) ss' ((q.sub σ).flat ++ K) p)) := by
      cases p with
      | nil => rw [Tree.tidyP_nil, Tree.tidyP_nil, Tree.tidyP_nil]; rfl
      | cons c l => exact e c l
    obtain ⟨c1, l1, g1⟩ : ∃ c l, p ++ [true] = c :: l := by cases p <;> simp
    obtain ⟨c2, l2, g2⟩ : ∃ c l, p ++ [false] = c :: l := by cases p <;> simp
    rw [g1, e, ← g1] at h1
    rw [g2, e, ← g2] at h2
    rw [e0]
    split
    · rename_i hk
      rw [if_pos hk] at h1 h2
      exact ih h1 h2
    · rename_i hk
      rw [if_neg hk] at h1 h2
      rw [mkAssume_vc] at h1 h2 ⊢
      exact fun hq => ih (h1 hq) (h2 hq)
  | branch x a b iha ihb =>
    intro ss σ ss' K p env h1 h2
    have e : ∀ d l, (Tree.branch x a b).tidyP fs ss σ ss' K (d :: l) = (if x.sortOf fs ss = some false then (if known fs ss' K (.tt (x.sub σ)) then a.tidyP fs ss σ ss' K (d :: l) else if known fs ss' K (.ff (x.sub σ)) then b.tidyP fs ss σ ss' K (d :: l) else
      if d then mkBranch (x.sub σ) (a.tidyP fs ss σ ss' ((x.sub σ).flat true ++ K) l) .ok else mkBranch (x.sub σ) .ok (b.tidyP fs ss σ ss' ((x.sub σ).flat false ++ K) l)) else .fail 201) := fun _ _ => rfl
    have en : (Tree.branch x a b).tidyP fs ss σ ss' K [] = (if x.sortOf fs ss = some false then (if known fs ss' K (.tt (x.sub σ)) then a.tidyP fs ss σ ss' K [] else if known fs ss' K (.ff (x.sub σ)) then b.tidyP fs ss σ ss' K [] else
      mkBranch (x.sub σ) (a.tidyP fs ss σ ss' ((x.sub σ).flat true ++ K) []) (b.tidyP fs ss σ ss' ((x.sub σ).flat false ++ K) [])) else .fail 201) := by
      rw [Tree.tidyP_nil, Tree.tidyP_nil, Tree.tidyP_nil, Tree.tidyP_nil, Tree.tidyP_nil]; rfl
    cases p with
    | nil =>
      rw [List.nil_append, e] at h1 h2
      rw [en]
      split
      · rename_i hs
        rw [if_pos hs] at h1 h2
        split
        · rename_i hk
          rw [if_pos hk] at h1 h2
          exact iha (p := []) h1 h2
        · rename_i hk
          rw [if_neg hk] at h1 h2
          split
          · rename_i hk2
            rw [if_pos hk2] at h1 h2
            exact ihb (p := []) h1 h2
          · rename_i hk2
            rw [if_neg hk2] at h1 h2
            rw [if_pos rfl, mkBranch_vc] at h1
            rw [if_neg (by decide), mkBranch_vc] at h2
            rw [mkBranch_vc]
            exact ⟨h1.1, h2.2⟩
      · rename_i hs
        rw [if_neg hs] at h1
        exact h1
    | cons d p =>
      rw [List.cons_append, e] at h1 h2
      rw [e]
      split
      · rename_i hs
        rw [if_pos hs] at h1 h2
        split
        · rename_i hk
          rw [if_pos hk] at h1 h2
          exact iha (p := d :: p) h1 h2
        · rename_i hk
          rw [if_neg hk] at h1 h2
          split
          · rename_i hk2
            rw [if_pos hk2] at h1 h2
            exact ihb (p := d :: p) h1 h2
          · rename_i hk2
            rw [if_neg hk2] at h1 h2
            cases d with
            | true =>
              rw [if_pos rfl, mkBranch_vc] at h1 h2 ⊢
              exact ⟨fun n hn h0 => iha (h1.1 n hn h0) (h2.1 n hn h0), fun _ => trivial⟩
            | false =>
              rw [if_neg (by decide), mkBranch_vc] at h1 h2 ⊢
              exact ⟨fun _ _ _ => trivial, fun hn => ihb (h1.2 hn) (h2.2 hn)⟩
      · rename_i hs
        rw [if_neg hs] at h1
        exact h1
  | both a b iha ihb =>
    intro ss σ ss' K p env h1 h2
    cases p with
    | nil =>
      have e : (Tree.both a b).tidyP fs ss σ ss' K [] = mkBoth (a.tidy fs ss σ ss' K) (b.tidy fs ss σ ss' K) := by rw [Tree.tidyP_nil]; rfl
      rw [e, mkBoth_vc]
      have h1 : (a.tidyP fs ss σ ss' K []).vc I env := h1
      have h2 : (b.tidyP fs ss σ ss' K []).vc I env := h2
      rw [Tree.tidyP_nil] at h1 h2
      exact ⟨h1, h2⟩
    | cons d p =>
      cases d with
      | true => exact iha (p := p) h1 h2
      | false => exact ihb (p := p) h1 h2
  | havoc s t ih =>
    intro ss σ ss' K p env h1 h2
    have e : ∀ c l, (Tree.havoc s t).tidyP fs ss σ ss' K (c :: l) = mkHavoc s (t.tidyP fs (ss ++ [s]) (σ ++ [.var ss'.length]) (ss' ++ [s]) K (c :: l)) := fun _ _ => rfl
    have e0 : (Tree.havoc s t).tidyP fs ss σ ss' K p = mkHavoc s (t.tidyP fs (ss ++ [s]) (σ ++ [.var ss'.length]) (ss' ++ [s]) K p) := by
      cases p with
      | nil => rw [Tree.tidyP_nil, Tree.tidyP_nil]; rfl
      | cons c l => exact e c l
    obtain ⟨c1, l1, g1⟩ : ∃ c l, p ++ [true] = c :: l := by cases p <;> simp
    obtain ⟨c2, l2, g2⟩ : ∃ c l, p ++ [false] = c :: l := by cases p <;> simp
    rw [g1, e, ← g1, mkHavoc_vc] at h1
    rw [g2, e, ← g2, mkHavoc_vc] at h2
    rw [e0, mkHavoc_vc]
    cases s with
    | true => exact fun f => ih (h1 f) (h2 f)
    | false => exact fun f => ih (h1 f) (h2 f)
inductive Cut where
  | leaf
  | node (a b : Cut)
def Cut.paths : Cut → List Bool → List (List Bool)
  | .leaf, p => [p]
  | .node a b, p => a.paths (p ++ [true]) ++ b.paths (p ++ [false])
def piece (fs : Nat → Option Bool) (cx : Cx) (fuel : Nat) (c : Contract) (p : List Bool) : Tree := (verify cx fuel c).tidyP fs c.sorts (varsFrom 0 c.sorts.length) c.sorts [] p
theorem cut_vc {fs : Nat → Option Bool} {cx : Cx} {fuel : Nat} {ct : Contract} {env : List D} : ∀ (c : Cut) (p : List Bool), (∀ q ∈ c.paths p, (piece fs cx fuel ct q).vc I env) → (piece fs cx fuel ct p).vc I env
  | .leaf, p, h => h p (by simp [Cut.paths])
  | .node a b, p, h => Tree.tidyP_cut (cut_vc a _ fun q hq => h q (by simp [Cut.paths, hq])) (cut_vc b _ fun q hq => h q (by simp [Cut.paths, hq]))
theorem parts_sound {fs : Nat → Option Bool} (hI : I.tot fs) {cx : Cx} (hC : ∀ c ∈ cx.cs, COk I cx.P cx.kn.globs c) {fuel : Nat} {c : Contract} (k : Cut)
    (h : ∀ p ∈ k.paths [], ∀ ds, Sorts c.sorts ds → (piece fs cx fuel c p).vc I ds) : COk I cx.P cx.kn.globs c :=
  tidied_sound (fuel := fuel) hI hC fun ds hd => by
    have := cut_vc (fs := fs) (cx := cx) (fuel := fuel) (ct := c) (env := ds) (I := I) k [] fun p hp => h p hp ds hd
    unfold piece at this
    rwa [Tree.tidyP_nil] at this
theorem ps_cons {α : Type} {Q : α → Prop} {a : α} {l : List α} (h : Q a) (hl : ∀ b ∈ l, Q b) : ∀ b ∈ a :: l, Q b := fun b hb => by
  rcases List.mem_cons.1 hb with rfl | hb
  · exact h
  · exact hl b hb
theorem ps_nil {α : Type} {Q : α → Prop} : ∀ b ∈ ([] : List α), Q b := fun b hb => by cases hb
end Go.Sx
end
noncomputable section
namespace Go.Sx
open Go
inductive RowsV (W : World) (ks : List CK) : Value → Int → (Int → Nat → Int) → Prop
  | none (T : Int → Nat → Int) : RowsV W ks (.slice none 0 0) 0 T
  | some (b off len cap : Nat) (c : Array Value) (T : TypeId) (fr : Nat × Nat) (f : Int → Nat → Int) (hl : len ≤ cap) (hb : W.heap[b]? = some (.cells c T fr))
      (hc : ∀ r j : Nat, ∀ k : CK, r < len → ks[j]? = some k → c[off + r * ks.length + j]? = some (k.val (f r j))) : RowsV W ks (.slice (some ⟨b, off, none⟩) len cap) len f
structure RowIn where
  ks : List CK
  v : Value
  n : Int
  T : Int → Nat → Int
  iT : Nat
  iN : Nat
def RowIn.pb (x : RowIn) : Option PB := match x.v with
  | .slice (some a) _ cap => some { blk := a.block, base := a.off, tot := cap * x.ks.length }
  | _ => none
def givesM : Nat → List RowIn → Mem
  | _, [] => []
  | i, x :: l => (i, .rows x.ks (.var x.iT) (.var x.iN) false true) :: givesM (i + 1) l
theorem givesM_get : ∀ {l : List RowIn} {i b : Nat} {y : Blk}, get (givesM i l) b = some y → ∃ x, i ≤ b ∧ l[b - i]? = some x ∧ y = .rows x.ks (.var x.iT) (.var x.iN) false true
  | [], i, b, y, h => by simp [givesM, get_nil] at h
  | x :: l, i, b, y, h => by
    simp only [givesM, get_cons] at h
    split at h
    · rename_i e; subst e; cases h; exact ⟨x, Nat.le_refl _, by simp, rfl⟩
    · rename_i e
      obtain ⟨z, h1, h2, h3⟩ := givesM_get h
      refine ⟨z, by omega, ?_, h3⟩
      rw [show b - i = (b - (i + 1)) + 1 by omega]
      simpa using h2
theorem gives_rel {W : World} {I : Itp} {P : Program} (l : List RowIn) (env : List D) (hl : ∀ x ∈ l, RowsV W x.ks x.v x.n x.T ∧ env[x.iT]? = some (.t x.T) ∧ env[x.iN]? = some (.i x.n)) :
    ∃ g : G, g.env = env ∧ g.nb = l.length ∧ (∀ c : Contract, c.mem = givesM 0 l → MRel (c.amb g W) I P g c.mem W ∧ ∀ i, ¬ (c.amb g W).X i) ∧
      ∀ i x, l[i]? = some x → Rel I g (.slice i (.lit 0) (.var x.iN) x.ks.length true) x.v := by
  let g : G := { env := env, φ := fun i => (l[i]?).bind RowIn.pb, nb := l.length }
  refine ⟨g, rfl, rfl, fun c hc => ?_, fun i x hx => ?_⟩
  · have hX : ∀ i, ¬ (c.amb g W).X i := by
      rintro i ⟨b, y, p, h1, h2, _⟩
      rw [hc] at h1
      obtain ⟨x, _, _, rfl⟩ := givesM_get h1
      cases h2
    refine ⟨?_, hX⟩
    rw [hc]
    refine ⟨fun b hb => ?_, fun b y hy => ?_, fun b y hy => ?_, fun b c x y p q hx _ hw => ?_, fun b p hp => ?_, fun b x p hx hw => ?_, Nat.le_refl _, fun _ _ _ => rfl, ⟨rfl, rfl⟩, fun b x o hx hr => ?_⟩
    · show (l[b]?).bind RowIn.pb = none
      rw [List.getElem?_eq_none hb]; rfl
    · obtain ⟨x, _, h2, rfl⟩ := givesM_get hy
      simp only [Nat.sub_zero] at h2
      obtain ⟨hv, hT, hN⟩ := hl x (List.mem_of_getElem? h2)
      obtain ⟨ks, v, n, T, iT, iN⟩ := x
      have hφ : g.φ b = RowIn.pb ⟨ks, v, n, T, iT, iN⟩ := by show (l[b]?).bind RowIn.pb = _; rw [h2]; rfl
      cases hv with
      | none T => exact ⟨_, 0, hT, hN, Int.le_refl _, .inr ⟨rfl, rfl, hφ⟩⟩
      | some b' off len cap c T' fr f hl hb hc =>
        refine ⟨_, (len : Int), hT, hN, Int.natCast_nonneg _, .inl ⟨_, c, T', fr, hφ, hb, fun r j k hr hj => ?_, fun h => by cases h⟩⟩
        exact hc r j k (by simpa using hr) hj
    · obtain ⟨x, _, h2, _⟩ := givesM_get hy
      simp only [Nat.sub_zero] at h2
      exact (List.getElem?_eq_some_iff.1 h2).1
    · obtain ⟨z, _, _, rfl⟩ := givesM_get hx
      cases hw
    · have hp : (l[b]?).bind RowIn.pb = some p := hp
      rcases h2 : l[b]? with _ | x
      · rw [h2] at hp; cases hp
      · rw [h2, Option.bind_some] at hp
        obtain ⟨hv, _, _⟩ := hl x (List.mem_of_getElem? h2)
        obtain ⟨ks, v, n, T, iT, iN⟩ := x
        cases hv with
        | none T => cases hp
        | some b' off len cap c T' fr f hl hb hc =>
          cases hp
          exact (Array.getElem?_eq_some_iff.1 hb).1
    · obtain ⟨z, _, _, rfl⟩ := givesM_get hx
      cases hw
    · obtain ⟨z, _, _, rfl⟩ := givesM_get hx
      exact hr.elim
  · obtain ⟨hv, _, hN⟩ := hl x (List.mem_of_getElem? hx)
    have hφ : g.φ i = x.pb := by show (l[i]?).bind RowIn.pb = _; rw [hx]; rfl
    obtain ⟨ks, v, n, T, iT, iN⟩ := x
    cases hv with
    | none T => exact ⟨0, 0, rfl, hN, Int.le_refl _, Int.le_refl _, .inr ⟨rfl, rfl, _, rfl⟩⟩
    | some b' off len cap c T' fr f hl hb hc => exact ⟨0, len, rfl, hN, Int.le_refl _, by omega, .inl ⟨_, cap, hφ, by simp, by simpa using hl, by simp⟩⟩
end Go.Sx
end
