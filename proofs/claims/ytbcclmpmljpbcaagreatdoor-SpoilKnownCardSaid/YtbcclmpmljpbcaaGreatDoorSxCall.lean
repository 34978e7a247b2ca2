/-
  Calls: of a function by its contract or by its body, and of a loop's round. Conditions: none.
-/
import Derived.Test.YtbcclmpmljpbcaaGreatDoorSxContract
import Derived.RangeFuncLeaves
import Derived.RangeFuncRecord
import Derived.Laws.Sem
noncomputable section
namespace Go.Sx
open Go

variable {A : Amb} {I : Itp} {P : Program} {g : G} {X : Nat → Prop} {ts : Tmps} {a : Act} {M : Mem} {w : World}

theorem callsIn_FW {r : Option Nat} {n : Nat} {f : FuncId} {args : Array Value} {R : Ending → World → Prop} : CallsIn (FW r) n P f args w R ↔ Calls P f args w R := by
  have : CallsIn (FW r) n P f args w R = CallsIn Fence.wide n P f args w R := rfl
  rw [this]; exact callsIn_wide

theorem run_callFunc {f : FuncId} {fn : Func} {c : Code} (hf : P.funcs[f]? = some fn) (hb : fn.body = some c) (hn : (fn.name == "runtime.NumGoroutine") = false) (args : Array Value) :
    (callFunc f args).run P w = .ok (.enter f args) w := by
  simp [callFunc, go_sem, hf, hb]
  intro h
  rw [h] at hn
  simp at hn

/-! ### What a function hands back -/

def rvSem (tmps : Array Value) : ResultVar → Sem Value
  | .tmp t => pure (tmps.getD t undef)
  | .cell b t => do loadVar t (← asAddr (tmps.getD b undef))

theorem resOf_run {s : St} (hm : MRel A I P g s.mem w) (ht : TRel I g (fun _ => False) s.tmps a.tmps) : ∀ {l : List ResultVar} {vs : List AV}, resOf P s l = some vs →
    ∃ xs, (l.mapM (rvSem a.tmps)).run P w = .ok xs w ∧ Rels I g vs xs
  | [], vs, h => by simp [resOf] at h; subst h; exact ⟨[], rfl, trivial⟩
  | .tmp t :: l, vs, h => by
    simp only [resOf] at h
    split at h
    · rename_i v vs' h1 h2
      simp at h; subst h
      obtain ⟨x, h3, h4⟩ := ht t v h1 (fun h => h)
      obtain ⟨xs, h5, h6⟩ := resOf_run hm ht h2
      refine ⟨x :: xs, ?_, h4, h6⟩
      simp [List.mapM_cons, rvSem, h5, Result.andThen, Array.getD_eq_getD_getElem?, h3]
    · cases h
  | .cell b t :: l, vs, h => by
    simp only [resOf] at h
    split at h
    · rename_i bl r z k ag n vs' h1 h2 h3 h4
      split at h
      · rename_i v hl
        simp at h; subst h
        obtain ⟨x, h5, h6⟩ := ht b _ h1 (fun h => h)
        obtain ⟨m, p, h7, h8, h9, rfl⟩ := h6
        obtain ⟨xs, h10, h11⟩ := resOf_run hm ht h4
        obtain ⟨y, h12, h13⟩ := loadAt_rel hm hl (fun q hq => by simp at hq) h7 h8 h9 h2 h3
        refine ⟨y :: xs, ?_, h13, h11⟩
        have h14 : (loadVar t ⟨p.blk, p.base + m.toNat * z + k, none⟩).run P w = .ok y w := by
          simpa [Instr.loadAt, Instr.sureAddr, Sem.run_bind, Result.andThen] using h12
        simp [List.mapM_cons, Sem.run_bind, rvSem, h10, Result.andThen, Array.getD_eq_getD_getElem?, h5, asAddr, h14]
      · cases h
    · cases h

theorem results_run {s : St} (hm : MRel A I P g s.mem w) (ht : TRel I g (fun _ => False) s.tmps a.tmps) {fn : Func} {vs : List AV} (h : resOf P s fn.results.toList = some vs) :
    ∃ v, (results fn a.tmps).run P w = .ok v w ∧ Rel I g (single vs) v := by
  obtain ⟨xs, h1, h2⟩ := resOf_run hm ht h
  have e : results fn a.tmps = (do let vs ← fn.results.mapM (rvSem a.tmps); pure (if h : vs.size = 1 then vs[0] else .tuple vs)) := by
    unfold results
    rfl
  rw [e, Array.mapM_eq_mapM_toList]
  have hrun : (Functor.map List.toArray (List.mapM (rvSem a.tmps) fn.results.toList)).run P w = .ok xs.toArray w := by
    rw [map_eq_pure_bind]
    simp [h1, Result.andThen]
  refine ⟨if h : xs.toArray.size = 1 then xs.toArray[0] else .tuple xs.toArray, ?_, ?_⟩
  · rw [Sem.run_bind, hrun]; simp [Result.andThen]
  · match vs, xs, h2 with
    | [], [], _ => simp [single, Rel, Rels]
    | [v], [x], h2 => simpa [single, Rels] using h2
    | v1 :: v2 :: vs, x1 :: x2 :: xs, h2 => simpa [single, Rel] using h2
    | [_], _ :: _ :: _, h2 => simp [Rels] at h2
    | _ :: _ :: _, [_], h2 => simp [Rels] at h2

theorem number_rel : ∀ {l : List AV} {xs : List Value} {n t : Nat} {v : AV}, Rels I g l xs → get (number n l) t = some v → ∃ x, n ≤ t ∧ xs[t - n]? = some x ∧ Rel I g v x
  | [], [], n, t, v, _, h => by simp [number, get_nil] at h
  | v0 :: l, x0 :: xs, n, t, v, hr, h => by
    simp only [number, get_cons] at h
    split at h
    · rename_i he; subst he; simp at h; subst h
      exact ⟨x0, Nat.le_refl _, by simp, hr.1⟩
    · obtain ⟨x, h1, h2, h3⟩ := number_rel hr.2 h
      refine ⟨x, by omega, ?_, h3⟩
      obtain ⟨k, rfl⟩ : ∃ k, t = n + 1 + k := ⟨t - (n + 1), by omega⟩
      rw [show n + 1 + k - n = (n + 1 + k - (n + 1)) + 1 by omega]
      simpa using h2
  | [], _ :: _, _, _, _, hr, _ => by simp [Rels] at hr
  | _ :: _, [], _, _, _, hr, _ => by simp [Rels] at hr

/-! ### Deferred calls -/

/-- The frame of a function's body, its arguments laid. -/
theorem enter_rel {s : St} {nt : Nat} {args : List AV} {xs : List Value} (hm : MRel A I P g s.mem w) (hnv : g.env.length = s.nv) (hnb : g.nb = s.nb) (ha : Rels I g args xs) (hlen : args.length ≤ nt) :
    SRel A I P (fun _ => False) g { s with tmps := number 0 args, nt := nt, defers := [] } { tmps := xs.toArray ++ Array.replicate (nt - xs.toArray.size) undef, defers := [] } w := by
  have hxs := ha.length
  refine ⟨hm, fun t v ht _ => ?_, ?_, trivial, hnv, hnb⟩
  · obtain ⟨x, _, h2, h3⟩ := number_rel ha ht
    have hlt : t < xs.length := by
      rcases Nat.lt_or_ge t xs.length with h | h
      · exact h
      · rw [List.getElem?_eq_none (by simpa using h)] at h2; cases h2
    exact ⟨x, by simp [Array.getElem?_append, hlt]; simpa [List.getElem?_eq_getElem hlt] using h2, h3⟩
  · simp; omega

theorem shut_leaves {cx : Cx} {e : Eng} (hE : EngSound I cx e) (hG : GOk cx.kn.globs A) {n : Nat} {fn : Func} {tmps : Array Value} {R : Ending → World → Prop} {k : St → Tree} : ∀ {l : List DV} {ds : List Deferred} {g : G} {s : St} {w : World},
    DRel I g l ds → MRel A I cx.P g s.mem w → TRel I g (fun _ => False) s.tmps tmps → g.env.length = s.nv → g.nb = s.nb → (shut cx e l s k).vc I g.env →
    (∀ g' s' w', g.Le g' → MRel A I cx.P g' s'.mem w' → TRel I g' (fun _ => False) s'.tmps tmps → g'.env.length = s'.nv → g'.nb = s'.nb → (k s').vc I g'.env → LeavesIn (FW none) n cx.P fn tmps R [] .returning w') →
    LeavesInM (FW none) n cx.P fn tmps R ds .returning w
  | [], [], g, s, w, _, hm, ht, hnv, hnb, h, hk => hk g s w (.refl _) hm ht hnv hnb h
  | .blk b :: l, d :: ds, g, s, w, ⟨⟨p, hp, hd⟩, hds⟩, hm, ht, hnv, hnb, h, hk => by
    simp only [shut] at h
    split at h
    · rename_i hg
      obtain ⟨p', hp', hh⟩ := hm.blk b _ hg
      rw [hp] at hp'; cases hp'
      refine ⟨by simp, .inl ⟨p.blk, _, by rw [hd], run_takeDeferred hh, ?_⟩⟩
      have hlt := hm.bnd b p hp
      exact shut_leaves hE hG (s := { s with mem := put b (.dfr false) s.mem }) hds (hm.write (y := .dfr false) hg rfl hp (by simp) (fun i hi => World.putObj_heap_other hi) ⟨p, hp, World.putObj_heap_same hlt⟩) ht hnv hnb h hk
    · exact h.elim
  | .fn f m cap :: l, d :: ds, g, s, w, ⟨⟨ms, cs, hd, hms, hcs⟩, hds⟩, hm, ht, hnv, hnb, h, hk => by
    simp only [shut] at h
    unfold deferF at h
    split at h
    rotate_left
    · exact h.elim
    rename_i fn' hf
    split at h
    rotate_left
    · exact h.elim
    rename_i c hb
    split at h
    · exact h.elim
    rename_i hname
    split at h
    rotate_left
    · exact h.elim
    rename_i hlen
    have ha : Rels I g (m ++ cap) (ms.toList ++ cs.toList) := hms.append hcs
    have hco : COK cx.P f 0 c := fun i rf hi => by simp [rfAt, hf, hb, hi]
    have hs0 := enter_rel hm hnv hnb ha hlen
    refine ⟨by simp, .inr ⟨fun h => by simp [FW, Fence.wide] at h, .func f, cs, f, ms ++ cs, by rw [hd], ?_, fun _ _ => trivial, ?_⟩⟩
    · rw [hd]
      have := run_callFunc (w := w) hf hb (by simpa using hname) (ms ++ cs)
      simpa [invoke] using this
    · have hargs : (ms.toList ++ cs.toList).toArray = ms ++ cs := by simp
      rw [hargs] at hs0
      refine (callsDIn_of_wp (R := fun e w' => ∃ v, e = .returned v ∧ LeavesInM (FW none) n cx.P fn tmps R ds .returning w') hf hb trivial ?_).mono fun e u' w' ⟨h1, v, h2, h3⟩ => by subst h1; subst h2; exact h3
      refine wpIn_mono (hE.exec hG (r := none) h hs0 trivial hco (n - 1)) fun ex a' w' hpost => ?_
      obtain ⟨x, g', s', rfl, hle, hs', hv⟩ := hpost
      have hall : x = .normal ∨ x = .ret → a'.defers = [] ∧ ∃ v, (results fn' a'.tmps).run cx.P w' = .ok v w' ∧ ∃ v', Ending.returned v = .returned v' ∧ LeavesInM (FW none) n cx.P fn tmps R ds .returning w' := by
        intro hx
        have hv' : (if s'.defers.isEmpty then match resOf cx.P s' fn'.results.toList with
              | some _ => shut cx e l { s with mem := s'.mem, nv := s'.nv, nb := s'.nb } k
              | none => .fail 30
            else .fail 37).vc I g'.env := by
          rcases hx with rfl | rfl <;> exact hv
        split at hv'
        · rename_i hemp
          split at hv'
          · rename_i vs hvs
            obtain ⟨v, h4, _⟩ := results_run hs'.m hs'.t hvs
            have hd0 : a'.defers = [] := by
              have := hs'.d
              rw [List.isEmpty_iff.1 hemp] at this
              cases hda : a'.defers with
              | nil => rfl
              | cons _ _ => rw [hda] at this; simp [DRel] at this
            refine ⟨hd0, v, h4, v, rfl, ?_⟩
            exact shut_leaves hE hG (s := { s with mem := s'.mem, nv := s'.nv, nb := s'.nb }) (hds.le hle hm.wf) hs'.m (ht.le hle hm.wf) hs'.nv hs'.nb hv'
              fun g2 s2 w2 hle2 => hk g2 s2 w2 (hle.trans hle2)
          · exact hv'.elim
        · exact hv'.elim
      cases x with
      | normal => exact hall (.inl rfl)
      | ret => exact hall (.inr rfl)
      | exit id => exact hv.elim
      | goto l => exact hv.elim
  | [], _ :: _, _, _, _, hd, _, _, _, _, _, _ => by simp [DRel] at hd
  | _ :: _, [], _, _, _, hd, _, _, _, _, _, _ => by simp [DRel] at hd

theorem get_filter {p : Nat → Bool} : ∀ {M : Mem} {b : Nat} {y : Blk}, get (M.filter fun x => p x.1) b = some y → get M b = some y
  | [], b, y, h => by simp [get_nil] at h
  | (b0, x0) :: M, b, y, h => by
    simp only [List.filter_cons] at h
    simp only [get_cons]
    by_cases he : b0 = b
    · subst he
      rw [if_pos rfl]
      split at h
      · simpa [get_cons] using h
      · rename_i hp
        exfalso
        have hno : ∀ {M : Mem}, get (M.filter fun x => p x.1) b0 = none := by
          intro M
          induction M with
          | nil => rfl
          | cons q M ih =>
            obtain ⟨b1, x1⟩ := q
            simp only [List.filter_cons]
            split
            · rename_i h1
              simp only [get_cons]
              rw [if_neg]
              · exact ih
              · rintro rfl; exact hp h1
            · exact ih
        rw [hno] at h; cases h
    · rw [if_neg he]
      split at h
      · simp only [get_cons] at h; rw [if_neg he] at h; exact get_filter h
      · exact get_filter h

theorem gc_get {nb nb' : Nat} {v : AV} {M : Mem} {b : Nat} {y : Blk} (h : get (gc nb nb' v M) b = some y) : get M b = some y := by
  unfold gc at h
  split at h
  · exact h
  · exact get_filter (p := fun b => decide (b < nb) || (mark nb M 2000 (refsOld nb M (v.refs nb [])) []).contains b) h

theorem gcR_get {nb : Nat} {s : St} {b : Nat} {y : Blk} (h : get (gcR nb s) b = some y) : get s.mem b = some y := by
  unfold gcR at h
  split at h
  · exact h
  · exact get_filter (p := fun b => decide (b < nb) || (mark nb s.mem 2000 (refsOld nb s.mem (refsT nb s.tmps (refsD nb s.defers []))) []).contains b) h

theorem findC_mem : ∀ {cs : List Contract} {f : FuncId} {args : List AV} {s : St} {c : Contract}, findC cs f args s = some c → c ∈ cs ∧ c.fn = f := by
  intro cs f args s c h
  unfold findC at h
  exact ⟨List.mem_of_find?_eq_some h, by have := List.find?_some h; simp only [Bool.and_eq_true, beq_iff_eq] at this; exact this.1⟩

theorem callF_sound {cx : Cx} {e : Eng} (hE : EngSound I cx e) (hG : GOk cx.kn.globs A) (hC : ∀ c ∈ cx.cs, COk I cx.P cx.kn.globs c) {f : FuncId} {args : List AV} {s : St} {k : AV → St → Tree} {xs : List Value}
    (h : (callF cx e f args s k).vc I g.env) (hs : SRel A I cx.P X g s a w) (ha : Rels I g args xs) :
    (∃ fn c, cx.P.funcs[f]? = some fn ∧ fn.body = some c ∧ (fn.name == "runtime.NumGoroutine") = false) ∧
      Calls cx.P f xs.toArray w fun e w' => ∃ v, e = .returned v ∧ CPost A I cx.P X g a k v w' := by
  unfold callF at h
  split at h
  · rename_i fn hf
    split at h
    · rename_i c hb
      split at h
      · exact h.elim
      rename_i hname
      refine ⟨⟨fn, c, hf, hb, by simpa using hname⟩, ?_⟩
      split at h
      · rename_i ct hct
        obtain ⟨h1, h2⟩ := findC_mem hct
        subst h2
        exact applyC_sound hG (hC ct h1) h hs ha
      · split at h
        · rename_i hlen
          rw [← callsIn_FW (r := none) (n := 0)]
          refine callsIn_of_wp_marks hf hb trivial ?_
          have hs0 := enter_rel hs.m hs.nv hs.nb ha hlen
          have hco : COK cx.P f 0 c := fun i rf hi => by simp [rfAt, hf, hb, hi]
          refine wpIn_mono (hE.exec hG (r := none) h hs0 trivial hco 0) fun ex a' w' hpost => ?_
          obtain ⟨x, g', s', rfl, hle, hs', hv⟩ := hpost
          have hall : x = .normal ∨ x = .ret → LeavesInM (FW none) 0 cx.P fn a'.tmps (fun e w' => ∃ v, e = .returned v ∧ CPost A I cx.P X g a k v w') a'.defers .returning w' := by
            intro hx
            have hv' : (shut cx e s'.defers s' fun s'' => match resOf cx.P s'' fn.results.toList with
                | some vs => k (single vs) { s with mem := gc s.nb s''.nb (single vs) s''.mem, nv := s''.nv, nb := s''.nb }
                | none => .fail 30).vc I g'.env := by
              rcases hx with rfl | rfl <;> exact hv
            refine shut_leaves hE hG hs'.d hs'.m hs'.t hs'.nv hs'.nb hv' fun g2 s2 w2 hle2 hm2 ht2 hnv2 hnb2 hv2 => ?_
            split at hv2
            · rename_i vs h2
              obtain ⟨v, h4, h5⟩ := results_run hm2 ht2 h2
              have hle' := hle.trans hle2
              exact ⟨v, h4, v, rfl, single vs, g2, { s with mem := gc s.nb s2.nb (single vs) s2.mem, nv := s2.nv, nb := s2.nb }, hle', h5,
                ⟨hm2.sub fun b y hb => gc_get hb, hs.t.le hle' hs.m.wf, hs.nt, hs.d.le hle' hs.m.wf, hnv2, hnb2⟩, hv2⟩
            · exact hv2.elim
          cases x with
          | normal => exact hall (.inl rfl)
          | ret => exact hall (.inr rfl)
          | exit id => exact hv.elim
          | goto l => exact hv.elim
        · exact h.elim
    · exact h.elim
  · exact h.elim

/-! ### A round -/

theorem setParams_rel {nt : Nat} : ∀ {ps : List Nat} {args : List AV} {xs : List Value} {ts : Tmps} {arr : Array Value}, TRel I g (fun _ => False) ts arr → arr.size = nt → Rels I g args xs → ps.all (· < nt) = true →
    TRel I g (fun _ => False) (setParams ps args ts) ((ps.zip xs).foldl (fun tmps (t, a) => tmps.setIfInBounds t a) arr) ∧ ((ps.zip xs).foldl (fun tmps (t, a) => tmps.setIfInBounds t a) arr).size = nt
  | [], args, xs, ts, arr, ht, hn, _, _ => by simp [setParams]; exact ⟨ht, hn⟩
  | p :: ps, [], [], ts, arr, ht, hn, _, _ => by simp [setParams]; exact ⟨ht, hn⟩
  | p :: ps, v :: args, x :: xs, ts, arr, ht, hn, hr, hp => by
    simp only [List.all_cons, Bool.and_eq_true, decide_eq_true_eq] at hp
    simp only [setParams, List.zip_cons_cons, List.foldl_cons]
    refine setParams_rel (fun t u hu _ => ?_) (by simpa using hn) hr.2 hp.2
    rw [get_putT] at hu
    by_cases htp : p = t
    · subst htp
      rw [if_pos rfl] at hu; simp at hu; subst hu
      exact ⟨x, by simp [hn, hp.1], hr.1⟩
    · rw [if_neg htp] at hu
      obtain ⟨y, h1, h2⟩ := ht t u hu (fun h => h)
      exact ⟨y, by simp [Array.getElem?_setIfInBounds_ne htp, h1], h2⟩
  | _ :: _, [], _ :: _, _, _, _, _, hr, _ => by simp [Rels] at hr
  | _ :: _, _ :: _, [], _, _, _, _, hr, _ => by simp [Rels] at hr

theorem rfs_nest : ∀ {c : Code} {i j : Nat} {rf x : RF}, (rfs c)[i]? = some rf → (rfs rf.assign ++ rfs rf.body)[j]? = some x → (rfs c)[i + 1 + j]? = some x := by
  have happ : ∀ {l m : List RF} {i j : Nat} {rf x : RF}, (∀ {i j : Nat} {rf x : RF}, l[i]? = some rf → (rfs rf.assign ++ rfs rf.body)[j]? = some x → l[i + 1 + j]? = some x) →
      (∀ {i j : Nat} {rf x : RF}, m[i]? = some rf → (rfs rf.assign ++ rfs rf.body)[j]? = some x → m[i + 1 + j]? = some x) →
      (l ++ m)[i]? = some rf → (rfs rf.assign ++ rfs rf.body)[j]? = some x → (l ++ m)[i + 1 + j]? = some x := by
    intro l m i j rf x hl hm h1 h2
    rcases Nat.lt_or_ge i l.length with hi | hi
    · rw [List.getElem?_append_left hi] at h1
      have h3 := hl h1 h2
      have hlt : i + 1 + j < l.length := by
        rcases Nat.lt_or_ge (i + 1 + j) l.length with h | h
        · exact h
        · rw [List.getElem?_eq_none (by simpa using h)] at h3; cases h3
      rw [List.getElem?_append_left hlt]; exact h3
    · rw [List.getElem?_append_right hi] at h1
      have h3 := hm h1 h2
      rw [List.getElem?_append_right (by omega), show i + 1 + j - l.length = i - l.length + 1 + j by omega]
      exact h3
  intro c
  induction c with
  | seq a b iha ihb => intro i j rf x h1 h2; simp only [rfs] at h1 ⊢; exact happ iha ihb h1 h2
  | cond o a b iha ihb => intro i j rf x h1 h2; simp only [rfs] at h1 ⊢; exact happ iha ihb h1 h2
  | block id b ih => intro i j rf x h1 h2; simp only [rfs] at h1 ⊢; exact ih h1 h2
  | loop b ih => intro i j rf x h1 h2; simp only [rfs] at h1 ⊢; exact ih h1 h2
  | scope b ih => intro i j rf x h1 h2; simp only [rfs] at h1 ⊢; exact ih h1 h2
  | rangeFunc f ps a b iha ihb =>
    intro i j rf x h1 h2
    simp only [rfs] at h1 ⊢
    cases i with
    | zero =>
      simp at h1; subst h1
      rw [show 0 + 1 + j = j + 1 by omega, List.getElem?_cons_succ]; exact h2
    | succ i =>
      rw [List.getElem?_cons_succ] at h1
      rw [show i + 1 + 1 + j = (i + 1 + j) + 1 by omega, List.getElem?_cons_succ]
      exact happ iha ihb h1 h2
  | _ => intro i j rf x h1 h2; simp [rfs] at h1

theorem COK.of_rf {fn ix : Nat} {rf : RF} (h : rfAt P fn ix = some rf) : COK P fn (ix + 1) rf.assign ∧ COK P fn (ix + 1 + (rfs rf.assign).length) rf.body := by
  unfold rfAt at h
  split at h
  · rename_i f hf
    split at h
    · rename_i c hb
      refine ⟨fun i x hi => ?_, fun i x hi => ?_⟩
      · have := rfs_nest (j := i) h (x := x) (by
          rw [List.getElem?_append_left]
          · exact hi
          · rcases Nat.lt_or_ge i (rfs rf.assign).length with h | h
            · exact h
            · rw [List.getElem?_eq_none (by simpa using h)] at hi; cases hi)
        simp [rfAt, hf, hb, this]
      · have := rfs_nest (j := (rfs rf.assign).length + i) h (x := x) (by
          rw [List.getElem?_append_right (by omega)]
          simpa using hi)
        rw [← Nat.add_assoc] at this
        simp [rfAt, hf, hb, this]
    · cases h
  · cases h

theorem yield_sound {cx : Cx} {e : Eng} (hE : EngSound I cx e) (hG : GOk cx.kn.globs A) {b : Nat} {p : PB} {args : List AV} {s : St} {k : AV → St → Tree} {xs : List Value} {r : Option Nat} {n : Nat}
    (h : (yield cx e b args s k).vc I g.env) (hs : SRel A I cx.P X g s a w) (hp : g.φ b = some p) (ha : Rels I g args xs) :
    CallTo r n cx.P (.func (.yield p.blk) #[] #[]) xs w (CPost A I cx.P X g a k) := by
  unfold yield at h
  split at h
  rotate_left
  · exact h.elim
  rename_i pend fn ix nt ts dd hg
  split at h
  rotate_left
  · exact h.elim
  rename_i rf hrf
  split at h
  rotate_left
  · exact h.elim
  rename_i hcond
  obtain ⟨hlen, hps⟩ := hcond
  obtain ⟨p', q, rl, rf', hp', hq, hh, hrf', hst, hpend, hpar, has, hbo, hdef, hsz, htr⟩ := hs.m.blk b _ hg
  rw [hp] at hp'; cases hp'
  rw [hrf] at hrf'; cases hrf'
  have hxs := ha.length
  have hyr := run_yield (P := cx.P) (args := xs.toArray) hh (by
    have : rl.params.size = rf.params.length := by rw [← hpar]; simp
    simp; omega)
  refine ⟨_, w, ?_, .inr ⟨p.blk, rl.fn, (rl.params.zip xs.toArray).foldl (fun tmps (t, a) => tmps.setIfInBounds t a) rl.tmps, rl.assign, rl.body, rfl, ?_⟩⟩
  · have e : (do let d ← Deferred.ofValue (.func (.yield p.blk) #[] #[]) xs.toArray; invoke d.target d.args : Sem Next).run cx.P w = (Instr.yield p.blk xs.toArray).run cx.P w := by
      simp [Deferred.ofValue, invoke]
    rw [e]; exact hyr
  refine roundIn_of_wpIn (F := FW r) trivial ?_
  rw [show (FW r).inRound p.blk = FW (some p.blk) from rfl]
  obtain ⟨hca, hcb⟩ := COK.of_rf hrf
  have htmps := setParams_rel (nt := nt) htr hsz ha hps
  have hfold : (rl.params.zip xs.toArray).foldl (fun tmps (t, a) => tmps.setIfInBounds t a) rl.tmps = (rf.params.zip xs).foldl (fun tmps (t, a) => tmps.setIfInBounds t a) rl.tmps := by
    rw [← hpar, ← Array.foldl_toList]
    simp
  rw [has, hbo]
  have hs0 : SRel A I cx.P (fun _ => False) g { s with tmps := setParams rf.params args ts, nt := nt, defers := [] }
      { tmps := (rl.params.zip xs.toArray).foldl (fun tmps (t, a) => tmps.setIfInBounds t a) rl.tmps, defers := [] } w :=
    ⟨hs.m, by rw [hfold]; exact htmps.1, by rw [hfold]; exact htmps.2, trivial, hs.nv, hs.nb⟩
  refine wpIn_mono (hE.exec hG (r := some p.blk) h hs0 ⟨p, hp, rfl⟩ hca n) fun ex a1 w1 hpost => ?_
  obtain ⟨x, g1, s1, rfl, hle1, hs1, hv1⟩ := hpost
  have hp1 := hle1.some hs.m.wf hp
  cases x with
  | ret => exact hv1.elim
  | exit id => exact hv1.elim
  | goto l => exact hv1.elim
  | normal =>
    dsimp only at hv1
    split at hv1
    rotate_left
    · exact hv1.elim
    rename_i pend1 fn1 ix1 nt1 ts1 d1 hx1 hg1
    split at hv1
    rotate_left
    · exact hv1.elim
    rename_i hfi
    obtain ⟨rfl, rfl⟩ := hfi
    obtain ⟨p', q1, rl1, rf1, hp', hq1, hh1, hrf1, hst1, hpend1, hpar1, has1, hbo1, hdef1, hsz1, htr1⟩ := hs1.m.blk b _ hg1
    rw [hp1] at hp'; cases hp'
    refine ⟨_, run_beginRound hh1 hst1, ?_⟩
    have hlt1 := hs1.m.bnd b p hp1
    have hm2 : MRel A I cx.P g1 (put b (.loop .busy pend1 fn1 ix1 nt1 ts1 d1) s1.mem) (w1.putObj p.blk (.loop { rl1 with state := .busy })) :=
      hs1.m.write hg1 rfl hp1 (by simp) (fun i hi => World.putObj_heap_other hi) ⟨p, q1, _, rf1, hp1, hq1, World.putObj_heap_same hlt1, hrf1, rfl, hpend1, hpar1, has1, hbo1, hdef1, hsz1, htr1⟩
    have hs2 : SRel A I cx.P (fun _ => False) g1 { s1 with mem := put b (.loop .busy pend1 fn1 ix1 nt1 ts1 d1) s1.mem } a1 (w1.putObj p.blk (.loop { rl1 with state := .busy })) :=
      ⟨hm2, hs1.t, hs1.nt, hs1.d, hs1.nv, hs1.nb⟩
    refine wpIn_mono (hE.exec hG (r := some p.blk) hv1 hs2 ⟨p, hp1, rfl⟩ hcb n) fun ex a2 w2 hpost2 => ?_
    obtain ⟨y, g2, s2, rfl, hle2, hs3, hv2⟩ := hpost2
    have hp2 := hle2.some hs1.m.wf hp1
    dsimp only at hv2
    split at hv2
    rotate_left
    · exact hv2.elim
    rename_i st2 pend2 fn2 ix2 nt2 ts2 d2 hg2
    obtain ⟨p', q2, rl2, rf2, hp', hq2, hh2, hrf2, hst2, hpend2, hpar2, has2, hbo2, hdef2, hsz2, htr2⟩ := hs3.m.blk b _ hg2
    rw [hp2] at hp'; cases hp'
    have hlt2 := hs3.m.bnd b p hp2
    have fin : ∀ (j : Option Jump),
        (k (.bool (.lit (if j.isNone then 1 else 0))) { s with mem := put b (.loop (if j.isNone then .ready else .done) j fn2 ix2 nt2 ts2 d2) s2.mem, nv := s2.nv, nb := s2.nb }).vc I g2.env →
        ∃ v w', (Instr.endRound p.blk (j.map Jump.code)).run cx.P w2 = .ok v w' ∧ ∃ v', Ending.returned v = .returned v' ∧ CPost A I cx.P X g a k v' w' := by
      intro j hj
      refine ⟨_, _, run_endRound (j.map Jump.code) hh2, _, rfl, .bool (.lit (if j.isNone then 1 else 0)), g2, { s with mem := put b (.loop (if j.isNone then .ready else .done) j fn2 ix2 nt2 ts2 d2) s2.mem, nv := s2.nv, nb := s2.nb }, hle1.trans hle2, ?_, ⟨?_, hs.t.le (hle1.trans hle2) hs.m.wf, hs.nt, hs.d.le (hle1.trans hle2) hs.m.wf, hs3.nv, hs3.nb⟩, hj⟩
      · refine ⟨_, rfl, ?_⟩
        cases j <;> rfl
      · refine hs3.m.write hg2 rfl hp2 (by simp) (fun i hi => World.putObj_heap_other hi) ⟨p, q2, _, rf2, hp2, hq2, World.putObj_heap_same hlt2, hrf2, ?_, rfl, hpar2, has2, hbo2, hdef2, hsz2, htr2⟩
        cases j <;> rfl
    cases y with
    | normal => exact fin none hv2
    | ret => exact fin (some .ret) hv2
    | exit id => exact fin (some (.exit id)) hv2
    | goto l => exact fin (some (.goto l)) hv2

theorem callv_sound {cx : Cx} {e : Eng} (hE : EngSound I cx e) (hG : GOk cx.kn.globs A) (hC : ∀ c ∈ cx.cs, COk I cx.P cx.kn.globs c) {f : AV} {args : List AV} {s : St} {k : AV → St → Tree} {x : Value} {xs : List Value} {r : Option Nat}
    (h : (callvStep cx e f args s k).vc I g.env) (hs : SRel A I cx.P X g s a w) (hf : Rel I g f x) (ha : Rels I g args xs) (n : Nat) :
    CallTo r n cx.P x xs w (CPost A I cx.P X g a k) := by
  unfold callvStep at h
  split at h
  · rename_i f' cap
    obtain ⟨cs, rfl, hcap⟩ := hf
    obtain ⟨⟨fn, c, h1, h2, h3⟩, h4⟩ := callF_sound hE hG hC h hs (ha.append hcap)
    refine ⟨.enter f' (xs.toArray ++ cs), w, ?_, .inl ⟨f', _, rfl, ?_⟩⟩
    · have := run_callFunc (w := w) h1 h2 h3 (xs.toArray ++ cs)
      simpa [Deferred.ofValue, invoke, Sem.run_bind, Result.andThen] using this
    · rw [callsIn_FW]
      have e : (xs ++ cs.toList).toArray = xs.toArray ++ cs := by simp
      rw [← e]; exact h4
  · rename_i f' m cap
    obtain ⟨ms, cs, rfl, hm, hcap⟩ := hf
    obtain ⟨⟨fn, c, h1, h2, h3⟩, h4⟩ := callF_sound hE hG hC h hs ((hm.append ha).append hcap)
    refine ⟨.enter f' (ms ++ xs.toArray ++ cs), w, ?_, .inl ⟨f', _, rfl, ?_⟩⟩
    · have := run_callFunc (w := w) h1 h2 h3 (ms ++ xs.toArray ++ cs)
      simpa [Deferred.ofValue, invoke, Sem.run_bind, Result.andThen] using this
    · rw [callsIn_FW]
      have e : (ms.toList ++ xs ++ cs.toList).toArray = ms ++ xs.toArray ++ cs := by simp
      rw [← e]; exact h4
  · rename_i b
    obtain ⟨p, hp, rfl⟩ := hf
    exact yield_sound hE hG h hs hp ha
  · exact h.elim
end Go.Sx
