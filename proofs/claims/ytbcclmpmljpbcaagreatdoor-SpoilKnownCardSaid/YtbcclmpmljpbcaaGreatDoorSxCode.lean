/-
  The executor is sound: every step, and so the whole. Conditions: none.
-/
import Derived.Test.YtbcclmpmljpbcaaGreatDoorSxDraw2
import Derived.RangeFuncNested
namespace Go.Sx
open Go

variable {A : Amb} {I : Itp} {P : Program} {g : G} {X : Nat → Prop} {ts : Tmps} {a : Act} {M : Mem} {w : World} {ops : Array Oper}

theorem Post.mono {g1 : G} {k : Ex → St → Tree} (h : g.Le g1) {e : Exit} (hp : Post A I P X g1 k e a w) : Post A I P X g k e a w := by
  obtain ⟨x, g', s', h1, h2, h3⟩ := hp
  exact ⟨x, g', s', h1, h.trans h2, h3⟩

theorem rangeEnd_post {l : Nat} {pl : PB} {k : Ex → St → Tree} {r : Option Nat} {n : Nat} {g2 : G} {a2 : Act} {v : Value} {w3 : World} (hle : g.Le g2) (hw2 : g2.wf) (hl : g2.φ l = some pl)
    (h : CPost A I P (fun _ => False) g2 a2 (fun _ s3 => rangeEnd l k s3) v w3) : rangePost (FW r) n P pl.blk (Post A I P (fun _ => False) g k) a2 (.returned v) w3 := by
  obtain ⟨av, g3, s3, hle3, _, hs3, hk⟩ := h
  have hl3 := hle3.some hw2 hl
  unfold rangeEnd at hk
  dsimp only at hk
  split at hk
  rotate_left
  · exact hk.elim
  rename_i st j fn' ix' nt' ts' d' hg
  split at hk
  · exact hk.elim
  rename_i hst
  obtain ⟨p', q, rl, rf, hp', hq, hh, hrf, h1, h2, h3, h4, h5, h6, h7, h8⟩ := hs3.m.blk l _ hg
  rw [hl3] at hp'; cases hp'
  have hlt := hs3.m.bnd l pl hl3
  have hm4 : MRel A I P g3 (put l (.loop .exhausted j fn' ix' nt' ts' d') s3.mem) (w3.putObj pl.blk (.loop { rl with state := .exhausted })) :=
    hs3.m.write hg rfl hl3 (by simp) (fun i hi => World.putObj_heap_other hi) ⟨pl, q, _, rf, hl3, hq, World.putObj_heap_same hlt, hrf, rfl, h2, h3, h4, h5, h6, h7, h8⟩
  have hs4 : SRel A I P (fun _ => False) g3 { s3 with mem := put l (.loop .exhausted j fn' ix' nt' ts' d') s3.mem } a2 (w3.putObj pl.blk (.loop { rl with state := .exhausted })) :=
    ⟨hm4, hs3.t, hs3.nt, hs3.d, hs3.nv, hs3.nb⟩
  refine ⟨_, _, run_endLoop hh (by rw [h1]; exact hst), ?_⟩
  rw [h2] at hs4 ⊢
  cases j with
  | none => exact ⟨.normal, g3, { s3 with mem := put l (.loop .exhausted none fn' ix' nt' ts' d') s3.mem }, rfl, hle.trans hle3, hs4, hk⟩
  | some j =>
    cases j with
    | ret => exact wpIn_ret ⟨.ret, g3, { s3 with mem := put l (.loop .exhausted (some .ret) fn' ix' nt' ts' d') s3.mem }, rfl, hle.trans hle3, hs4, hk⟩
    | exit id => exact wpIn_exit ⟨.exit id, g3, { s3 with mem := put l (.loop .exhausted (some (.exit id)) fn' ix' nt' ts' d') s3.mem }, rfl, hle.trans hle3, hs4, hk⟩
    | goto l => exact hk.elim

/-- The call that a range over a function makes. -/
theorem rangeGo_wp {cx : Cx} {e : Eng} (hE : EngSound I cx e) (hG : GOk cx.kn.globs A) {fn : FuncId} {o gf : Nat} {cap : List AV} {d : Nat} {s1 : St} {k : Ex → St → Tree} {g1 : G} {a1 : Act} {w1 : World} {q : PB} {r : Option Nat} {n : Nat}
    {rf : RF} {rl : Loop} {cs : Array Value} (hrf : rfAt cx.P fn o = some rf) (hle : g.Le g1) (hs : SRel A I cx.P (fun _ => False) g1 s1 a1 w1) (hq : g1.φ d = some q) (h : (rangeGo e fn o gf cap d s1 k).vc I g1.env)
    (hcap : Rels I g1 cap cs.toList) (h1 : rl.state = .ready) (h2 : rl.pending = none) (h3 : rl.params.toList = rf.params) (h4 : rl.assign = rf.assign) (h5 : rl.body = rf.body) (h6 : rl.defers = q.blk) (h7 : rl.tmps = a1.tmps) :
    (∃ fn c, cx.P.funcs[gf]? = some fn ∧ fn.body = some c ∧ (fn.name == "runtime.NumGoroutine") = false) ∧
    Calls cx.P gf (#[Value.func (.yield w1.heap.size) #[] #[]] ++ cs) (w1.alloc (.loop rl)) (rangePost (FW r) n cx.P w1.heap.size (Post A I cx.P (fun _ => False) g k) a1) := by
  unfold rangeGo at h
  let pl : PB := ⟨w1.heap.size, 0, 0⟩
  have hle2 := g1.lay_le (some pl)
  have hl : (g1.lay (some pl)).φ s1.nb = some pl := by simp [G.lay, hs.nb]
  have hq2 := hle2.some hs.m.wf hq
  have hm2 : MRel A I cx.P (g1.lay (some pl)) ((g1.nb, .loop .ready none fn o s1.nt s1.tmps d) :: s1.mem) (w1.alloc (.loop rl)) :=
    hs.m.alloc (fun _ _ h => h) rfl ⟨pl, q, rl, rf, by simp [G.lay], hq2, heap_alloc_new w1 _, hrf, h1, h2, h3, h4, h5, h6, by rw [h7]; exact hs.nt, by rw [h7]; exact hs.t.le hle2 hs.m.wf⟩
  rw [hs.nb] at hm2
  have hs2 : SRel A I cx.P (fun _ => False) (g1.lay (some pl)) (newBlk s1 (.loop .ready none fn o s1.nt s1.tmps d)) a1 (w1.alloc (.loop rl)) := hs.lay hm2
  have hargs : Rels I (g1.lay (some pl)) ([.yld s1.nb] ++ cap) ([Value.func (.yield w1.heap.size) #[] #[]] ++ cs.toList) :=
    Rels.append ⟨⟨pl, hl, rfl⟩, trivial⟩ (hcap.le hle2 hs.m.wf)
  obtain ⟨h8, h9⟩ := hE.callf (g := g1.lay (some pl)) hG h hs2 hargs
  refine ⟨h8, ?_⟩
  have e : (#[Value.func (.yield w1.heap.size) #[] #[]] ++ cs) = ([Value.func (.yield w1.heap.size) #[] #[]] ++ cs.toList).toArray := by simp
  rw [e]
  refine h9.mono fun e w' he => ?_
  obtain ⟨v, rfl, hv⟩ := he
  exact rangeEnd_post (hle.trans hle2) hs2.m.wf hl hv

theorem range_wp {cx : Cx} {e : Eng} (hE : EngSound I cx e) (hG : GOk cx.kn.globs A) {fn : FuncId} {rnd r : Option Nat} {bid o : Nat} {f : Operand} {ps : Array Tmp} {ac bc : Code} {s : St} {k : Ex → St → Tree}
    (h : (execStep cx e fn rnd bid o (.rangeFunc f ps ac bc) s k).vc I g.env) (hs : SRel A I cx.P (fun _ => False) g s a w) (hr : RndRel g rnd r) (hc : COK cx.P fn o (.rangeFunc f ps ac bc)) (n : Nat) :
    (Code.rangeFunc f ps ac bc).wpIn (FW r) n cx.P (Post A I cx.P (fun _ => False) g k) a w := by
  simp only [execStep] at h
  split at h
  rotate_left
  · exact h.elim
  rename_i gf cap hev
  have hrf : rfAt cx.P fn o = some { params := ps.toList, assign := ac, body := bc } := by
    have := hc 0 _ (by simp [rfs]; rfl)
    simpa using this
  obtain ⟨cs, hx, hcap⟩ : Rel I g (.func gf cap) (a.eval f) := evalOp_rel hs.t hev fun _ _ h => h
  have hres : ∀ (l : Nat) (w1 : World), (resolve a.eval (rangeCall f l) 0).run cx.P w1 = .ok { target := .fn (.func gf) cs, args := #[Value.func (.yield l) #[] #[]] } w1 := by
    intro l w1
    have e : resolve a.eval (rangeCall f l) 0 = Deferred.ofValue (a.eval f) #[Value.func (.yield l) #[] #[]] := by
      have e2 : a.eval (.const (.func (.yield l) #[] #[])) = Value.func (.yield l) #[] #[] := rfl
      simp only [resolve, List.map_toArray, List.map_cons, List.map_nil, e2]
    rw [e, hx]
    simp [Deferred.ofValue]
  refine wpIn_rangeFunc fun fn' _ => ?_
  split at h
  · -- an outermost loop
    cases r with
    | some r => exact hr.elim
    | none =>
    let q : PB := ⟨w.heap.size, 0, 0⟩
    have hle1 := g.lay_le (some q)
    have hm1 : MRel A I cx.P (g.lay (some q)) ((g.nb, .dfr true) :: s.mem) (w.alloc (.deferred (some []))) :=
      hs.m.alloc (fun _ _ h => h) rfl ⟨q, by simp [G.lay], heap_alloc_new w _⟩
    rw [hs.nb] at hm1
    have hs1 : SRel A I cx.P (fun _ => False) (g.lay (some q)) { newBlk s (.dfr true) with defers := .blk s.nb :: s.defers } { a with defers := [{ target := .collected w.heap.size, args := #[] }] ++ a.defers } (w.alloc (.deferred (some []))) :=
      ⟨hm1, hs.t.le hle1 hs.m.wf, hs.nt, ⟨⟨q, by simp [G.lay, hs.nb], rfl⟩, hs.d.le hle1 hs.m.wf⟩, hs.nv, by simp [G.lay, newBlk, hs.nb]⟩
    obtain ⟨⟨fnn, c, h1, h2, h3⟩, h4⟩ := rangeGo_wp (r := none) (n := n) (g := g) (rl := { state := .ready, pending := none, fn := fn', tmps := a.tmps, params := ps, assign := ac, body := bc, defers := w.heap.size })
      hE hG hrf hle1 hs1 (q := q) (by simp [G.lay, hs.nb]) h (hcap.le hle1 hs.m.wf) rfl rfl rfl rfl rfl rfl rfl
    obtain ⟨W, hW⟩ : ∃ W, (w.alloc (.deferred (some []))).alloc (.loop { state := .ready, pending := none, fn := fn', tmps := a.tmps, params := ps, assign := ac, body := bc, defers := w.heap.size }) = W := ⟨_, rfl⟩
    rw [hW] at h4
    have e : (w.alloc (.deferred (some []))).heap.size = w.heap.size + 1 := by simp
    rw [e] at h4
    refine ⟨w.heap.size + 1, [{ target := .collected w.heap.size, args := #[] }], W, _, W, gf, #[Value.func (.yield (w.heap.size + 1)) #[] #[]] ++ cs, W, by rw [← hW]; exact run_enterLoop_outer _ _ _ _ _, hres _ _, fun _ _ => trivial, ?_, fun h => by simp [FW, Fence.wide] at h, ?_⟩
    · have := run_callFunc (w := W) h1 h2 h3 (#[Value.func (.yield (w.heap.size + 1)) #[] #[]] ++ cs)
      simpa [invoke] using this
    · rw [callsIn_FW]; exact h4
  · -- a loop within a round
    rename_i l0
    cases r with
    | none => exact hr.elim
    | some r =>
    obtain ⟨p0, hp0, rfl⟩ := hr
    split at h
    rotate_left
    · exact h.elim
    rename_i d hg0
    obtain ⟨p', q, rl0, rf0, hp', hq, hh, _, _, _, _, _, _, h6, _, _⟩ := hs.m.blk l0 _ hg0
    rw [hp0] at hp'; cases hp'
    obtain ⟨⟨fnn, c, h1, h2, h3⟩, h4⟩ := rangeGo_wp (r := some p0.blk) (n := n) (g := g) (rl := { state := .ready, pending := none, fn := fn', tmps := a.tmps, params := ps, assign := ac, body := bc, defers := rl0.defers })
      hE hG hrf (.refl g) hs hq h hcap rfl rfl rfl rfl rfl h6 rfl
    obtain ⟨W, hW⟩ : ∃ W, w.alloc (.loop { state := .ready, pending := none, fn := fn', tmps := a.tmps, params := ps, assign := ac, body := bc, defers := rl0.defers }) = W := ⟨_, rfl⟩
    rw [hW] at h4
    refine ⟨w.heap.size, [], W, _, W, gf, #[Value.func (.yield w.heap.size) #[] #[]] ++ cs, W, by rw [← hW]; exact run_enterLoop_inner hh _ _ _ _ _, hres _ _, fun _ _ => trivial, ?_, fun h => by simp [FW, Fence.wide] at h, ?_⟩
    · have := run_callFunc (w := W) h1 h2 h3 (#[Value.func (.yield w.heap.size) #[] #[]] ++ cs)
      simpa [invoke] using this
    · rw [callsIn_FW]; simpa using h4

theorem exec_sound {cx : Cx} {e : Eng} (hE : EngSound I cx e) (hG : GOk cx.kn.globs A) {fn : FuncId} {rnd r : Option Nat} {bid o : Nat} {c : Code} {s : St} {k : Ex → St → Tree}
    (h : (execStep cx e fn rnd bid o c s k).vc I g.env) (hs : SRel A I cx.P (fun _ => False) g s a w) (hr : RndRel g rnd r) (hc : COK cx.P fn o c) (n : Nat) :
    c.wpIn (FW r) n cx.P (Post A I cx.P (fun _ => False) g k) a w := by
  cases c with
  | skip => exact wpIn_skip ⟨.normal, g, s, rfl, .refl _, hs, h⟩
  | label l => exact wpIn_label ⟨.normal, g, s, rfl, .refl _, hs, h⟩
  | ret => exact wpIn_ret ⟨.ret, g, s, rfl, .refl _, hs, h⟩
  | exit id => exact wpIn_exit ⟨.exit id, g, s, rfl, .refl _, hs, h⟩
  | seq x y =>
    simp only [execStep] at h
    have hcx : COK cx.P fn o x := fun i rf hi => hc i rf (by
      simp only [rfs]
      rw [List.getElem?_append_left]
      · exact hi
      · rcases Nat.lt_or_ge i (rfs x).length with h | h
        · exact h
        · rw [List.getElem?_eq_none (by simpa using h)] at hi; cases hi)
    have hcy : COK cx.P fn (o + (rfs x).length) y := fun i rf hi => by
      have := hc ((rfs x).length + i) rf (by
        simp only [rfs]
        rw [List.getElem?_append_right (by omega)]
        simpa using hi)
      rw [← Nat.add_assoc] at this
      exact this
    refine wpIn_seq (wpIn_mono (hE.exec hG h hs hr hcx n) fun ex a1 w1 hp => ?_)
    obtain ⟨x1, g1, s1, rfl, hle, hs1, hk⟩ := hp
    cases x1 with
    | normal => exact wpIn_mono (hE.exec hG hk hs1 (hr.le hle hs.m.wf) hcy n) fun ex a2 w2 hp => hp.mono hle
    | ret => exact ⟨.ret, g1, s1, rfl, hle, hs1, hk⟩
    | exit id => exact ⟨.exit id, g1, s1, rfl, hle, hs1, hk⟩
    | goto l => exact ⟨.goto l, g1, s1, rfl, hle, hs1, hk⟩
  | block id b =>
    simp only [execStep] at h
    refine wpIn_block (wpIn_mono (hE.exec hG h hs hr (fun i rf hi => hc i rf (by simpa [rfs] using hi)) n) fun ex a1 w1 hp => ?_)
    obtain ⟨x1, g1, s1, rfl, hle, hs1, hk⟩ := hp
    cases x1 with
    | normal => exact ⟨.normal, g1, s1, rfl, hle, hs1, hk⟩
    | ret => exact ⟨.ret, g1, s1, rfl, hle, hs1, hk⟩
    | exit id' =>
      dsimp only at hk
      simp only [Ex.toX, Exit.inBlock]
      split at hk
      · rename_i he; rw [if_pos he]; exact ⟨.normal, g1, s1, rfl, hle, hs1, hk⟩
      · rename_i he; rw [if_neg he]; exact ⟨.exit id', g1, s1, rfl, hle, hs1, hk⟩
    | goto l => exact ⟨.goto l, g1, s1, rfl, hle, hs1, hk⟩
  | cond c x y =>
    simp only [execStep] at h
    have hcx : COK cx.P fn o x := fun i rf hi => hc i rf (by
      simp only [rfs]
      rw [List.getElem?_append_left]
      · exact hi
      · rcases Nat.lt_or_ge i (rfs x).length with h | h
        · exact h
        · rw [List.getElem?_eq_none (by simpa using h)] at hi; cases hi)
    have hcy : COK cx.P fn (o + (rfs x).length) y := fun i rf hi => by
      have := hc ((rfs x).length + i) rf (by
        simp only [rfs]
        rw [List.getElem?_append_right (by omega)]
        simpa using hi)
      rw [← Nat.add_assoc] at this
      exact this
    split at h
    · rename_i m hev
      obtain ⟨m', h1, h2⟩ : Rel I g (.bool (.lit m)) (a.eval c) := evalOp_rel hs.t hev fun _ _ h => h
      simp [E.den] at h1; subst h1
      split at h
      · rename_i hm
        subst hm
        exact wpIn_cond_false (by simpa using h2) (hE.exec hG h hs hr hcy n)
      · rename_i hm
        exact wpIn_cond_true (by simpa [hm] using h2) (hE.exec hG h hs hr hcx n)
    · rename_i q _ hev
      obtain ⟨m, h1, h2⟩ : Rel I g (.bool q) (a.eval c) := evalOp_rel hs.t hev fun _ _ h => h
      obtain ⟨h3, h4⟩ := h
      by_cases hm : m = 0
      · subst hm
        exact wpIn_cond_false (by simpa using h2) (hE.exec hG (h4 h1) hs hr hcy n)
      · exact wpIn_cond_true (by simpa [hm] using h2) (hE.exec hG (h3 m h1 hm) hs hr hcx n)
    · exact h.elim
  | loop b => exact (hE.loop hG h hs hr (fun i rf hi => hc i rf (by simpa [rfs] using hi)) n).wp
  | region id ops dr =>
    cases dr with
    | false =>
      simp only [execStep] at h
      split at h
      · exact h.elim
      rename_i hdf
      have hd : r = none ∨ ∀ (i : Nat) (o : Oper), ops[i]? = some o → isDefer o.op = false := by
        cases rnd with
        | none => cases r with
          | none => exact .inl rfl
          | some _ => exact hr.elim
        | some b =>
          right
          intro i o ho
          simp only [Option.isSome_some, Bool.true_and, Bool.not_eq_true] at hdf
          rw [Array.any_eq_false'] at hdf
          cases hb : isDefer o.op with
          | false => rfl
          | true => exact absurd hb (hdf o (Array.mem_of_getElem? ho))
      exact wpIn_region (runOps_wp hE hG hd hs h fun g' a' w' hle hn => by
        obtain ⟨g2, s2, h1, h2, h3⟩ := hn
        exact ⟨.normal, g2, s2, rfl, hle.trans h1, h2, h3⟩)
    | true =>
      simp only [execStep] at h
      split at h
      rotate_left
      · exact h.elim
      rename_i hcond
      simp only [Bool.and_eq_true] at hcond
      have hD := drawOk_spec hcond.1
      have hs' : SRel A I cx.P (fun _ => False) g s a { w with drawn := w.drawn + 1 } := ⟨hs.m.heap_eq rfl, hs.t, hs.nt, hs.d, hs.nv, hs.nb⟩
      refine wpIn_region_any hcond.2 ?_
      refine drawGo_wp hE hG hD (g0 := g) (k := fun s' => k .normal s') (fun g' s' a' w' h1 h2 h3 => ⟨.normal, g', s', rfl, h1, h2, h3⟩) ops.size _ g _ _ a _ (List.range ops.size) (.refl g) h ?_ (fun i b x hm => by simp at hm) (by simp) (fun i hi _ => by simpa using hi)
      refine ⟨hs'.weaken fun t h => h.elim, by simp, fun i hi => ?_, fun i hi => absurd hi Ns.not_none, fun i o hi => absurd hi Ns.not_none, fun i b x hm => by simp at hm, rfl, rfl, fun i b x o hm => by simp at hm, fun i hi => absurd hi Ns.not_none, fun c b hc => by simp [getE] at hc, fun i hi => absurd hi Ns.not_none, fun i hi => ?_⟩
      · exfalso
        simp only [Array.getD_eq_getD_getElem?, Array.getElem?_replicate] at hi
        split at hi <;> simp at hi
      · exfalso
        simp only [Array.getD_eq_getD_getElem?, Array.getElem?_replicate] at hi
        split at hi <;> simp at hi
  | rangeFunc f ps x y => exact range_wp hE hG h hs hr hc n
  | _ => exact h.elim

theorem loop_sound {cx : Cx} {e : Eng} (hE : EngSound I cx e) (hG : GOk cx.kn.globs A) {fn : FuncId} {rnd r : Option Nat} {bid o : Nat} {c : Code} {s : St} {k : Ex → St → Tree}
    (h : (loopStep cx e fn rnd bid o c s k).vc I g.env) (hs : SRel A I cx.P (fun _ => False) g s a w) (hr : RndRel g rnd r) (hc : COK cx.P fn o c) (n : Nat) :
    LoopWp (FW r) n cx.P c (Post A I cx.P (fun _ => False) g k) a w := by
  unfold loopStep at h
  split at h
  · exact loopHead_wp hE hG h hs hr hc n
  · refine LoopWp.round (wpIn_mono (hE.exec hG h hs hr hc n) fun ex a1 w1 hp => ?_)
    obtain ⟨x1, g1, s1, rfl, hle, hs1, hk⟩ := hp
    cases x1 with
    | normal =>
      have hs1 : SRel A I cx.P (fun _ => False) g1 { s1 with tmps := keepL s.tmps s1.tmps, mem := gcR s.nb { s1 with tmps := keepL s.tmps s1.tmps } } a1 w1 := { hs1 with t := fun t v h1 h2 => hs1.t t v (get_keepL h1) h2, m := hs1.m.sub fun b y hb => gcR_get (s := { s1 with tmps := keepL s.tmps s1.tmps }) hb }
      have := hE.loop hG hk hs1 (hr.le hle hs.m.wf) hc n
      intro b k' cs h1 h2 h3
      obtain ⟨e', a', w', hq, harr⟩ := this b k' cs h1 h2 h3
      exact ⟨e', a', w', hq.mono hle, harr⟩
    | ret => exact ⟨.ret, g1, s1, rfl, hle, hs1, hk⟩
    | exit id => exact ⟨.exit id, g1, s1, rfl, hle, hs1, hk⟩
    | goto l => exact ⟨.goto l, g1, s1, rfl, hle, hs1, hk⟩

/-- The executor is sound. -/
theorem eng_sound {cx : Cx} (hC : ∀ c ∈ cx.cs, COk I cx.P cx.kn.globs c) : ∀ n, EngSound I cx (eng cx n)
  | 0 => ⟨fun _ h => h.elim, fun _ h => h.elim, fun _ h => h.elim, fun _ h => h.elim⟩
  | n + 1 =>
    have hE := eng_sound hC n
    ⟨fun hG h hs hr hc => exec_sound hE hG h hs hr hc, fun hG h hs hr hc => loop_sound hE hG h hs hr hc, fun hG h hs hf ha => callv_sound hE hG hC h hs hf ha, fun hG h hs ha => callF_sound hE hG hC h hs ha⟩
end Go.Sx
