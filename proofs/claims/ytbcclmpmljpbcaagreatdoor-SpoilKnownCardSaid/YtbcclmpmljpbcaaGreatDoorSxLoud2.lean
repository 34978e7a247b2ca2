/-
  Operations that make or write memory, all of them. Conditions: none.
-/
import Derived.Test.YtbcclmpmljpbcaaGreatDoorSxAppend2
noncomputable section
namespace Go.Sx
open Go

variable {A : Amb} {I : Itp} {P : Program} {g : G} {X : Nat → Prop} {ts : Tmps} {a : Act} {M : Mem} {w : World}

/-- A string's bytes in a block of their own. -/
theorem convert_loud {s : St} {o : Oper} {src dst el : TypeId} {x : Operand} {t n : E} (hs : SRel A I P X g s a w) (hop : o.op = .convert src dst x) (hsrc : P.underlying src = some .string) (hd : P.underlying dst = some (.slice el))
    (hel : P.underlying el = some (.int .u8)) (hv : Rel I g (.strT t n) (a.eval x)) :
    LoudRun A I P X g a w o (.slice s.nb (.lit 0) n 1 false) (newBlk s (.rows [.int .u8] t n true false)) := by
  obtain ⟨f, k, sb, h1, h2, h3, h4, h5⟩ := hv
  have hsize : sb.size = sb.data.toList.length := by rw [Array.length_toList]; rfl
  have hcap : sb.size ≤ grownCap w sb.size 0 el := by simp [grownCap, Question.cut]
  obtain ⟨cap, hcapE⟩ : ∃ cap, cap = grownCap w sb.size 0 el := ⟨_, rfl⟩
  rw [← hcapE] at hcap
  have hrun := run_bytes_of_string w src dst el sb hsrc hd hel
  rw [← hcapE] at hrun
  have hcs : (bytesRow sb cap).size = cap := by
    simp [bytesRow]
    have : sb.data.size = sb.size := rfl
    omega
  have hget : ∀ (i : Nat) (b : UInt8), sb.data.toList[i]? = some b → (bytesRow sb cap)[i]? = some (.int .u8 (b.toNat : Int)) := fun i b hb => by
    have hi := (List.getElem?_eq_some_iff.1 hb).1
    have hb' : sb.data[i]? = some b := by simpa using hb
    unfold bytesRow
    rw [Array.getElem?_append_left (by simp; rw [Array.length_toList] at hi; exact hi)]
    simp [hb']
  generalize bytesRow sb cap = cs at hrun hcs hget
  let p : PB := { blk := w.heap.size, base := 0, tot := cap }
  refine ⟨.slice (some ⟨w.heap.size, 0, none⟩) sb.size cap, w.drew.alloc (.cells cs el (cs.size, cs.size + 1)), g.lay (some p), .inl ?_, g.lay_le _, rfl, ?_, ?_⟩
  · have : (execOp a.eval o) = (do pure (.value (← convert src dst (.string sb)))) := by simp only [execOp, hop, h3]
    rw [this, Sem.run_bind, hrun]
    rfl
  · refine ⟨0, k, rfl, E.den_le (g.lay_le _) h2, Int.le_refl _, by omega, .inl ⟨p, cap, by rw [← hs.nb]; exact G.lay_new g (some p), ?_, by omega, by simp [p]⟩⟩
    simp only [p, Int.toNat_zero, Nat.zero_mul, Nat.add_zero]
    congr 1; omega
  · have hm1 := (hs.m.heap_eq (w' := w.drew) rfl).alloc (M' := s.mem) (o := .cells cs el (cs.size, cs.size + 1)) (x := .rows [.int .u8] t n true false) (p := p) (fun _ _ h => h) rfl
      ⟨f, k, h1, h2, by omega, .inl ⟨p, cs, el, _, G.lay_new g (some p), heap_alloc_new _ _, fun r j ck hr hj => by
        cases j with
        | zero =>
          simp at hj; subst hj
          have hlt : r < sb.data.toList.length := by omega
          have hb := List.getElem?_eq_getElem hlt
          have := hget r _ hb
          simp only [p, List.length_singleton, Nat.mul_one, Nat.zero_add, Nat.add_zero]
          rw [this, h5 r _ hb]; rfl
        | succ j => simp at hj, fun _ => ⟨.inr (Nat.le_refl _), by simp [p]; omega, by simp [p]; omega⟩⟩⟩
    rw [hs.nb] at hm1
    exact hs.lay hm1

/-- A slice of bytes turned to its own type: behind its block's end a mark is laid. -/
theorem mark_loud {s : St} {o : Oper} {src el : TypeId} {x : Operand} {b : Nat} {lo n t len : E} (hs : SRel A I P X g s a w) (hop : o.op = .convert src src x) (hu : P.underlying src = some (.slice el)) (hel : P.underlying el = some (.int .u8))
    (hv : Rel I g (.slice b lo n 1 false) (a.eval x)) (hb : get s.mem b = some (.rows [.int .u8] t len true false)) :
    LoudRun A I P X g a w o (.slice b lo n 1 false) { s with mem := put b (.rows [.int .u8] t len true false) s.mem } := by
  have hv0 := hv
  obtain ⟨l, m, hl, hm, hl0, hm0, ⟨p, cap, hp, hx, hle, htot⟩ | ⟨h0, _⟩⟩ := hv
  case inr => cases h0
  obtain ⟨f, k, h1, h2, h3, ⟨p', c, T, fr, hp', hh, hc, hw⟩ | ⟨h0, _⟩⟩ := hs.m.blk b _ hb
  case inr => cases h0
  obtain rfl : p' = p := Option.some.inj (hp'.symm.trans hp)
  obtain ⟨hfr, hw2, hw3⟩ := hw rfl
  have hsh : (shape p'.blk).run P w = .ok (some (T, c.size)) w := by simp [run_shape, World.shape?, hh]
  have hrun : (execOp a.eval o).run P w = .ok (.value (a.eval x)) (w.freeze ⟨p'.blk, c.size, none⟩ 1) := by
    simp only [execOp, hop, hx, convert, Sem.run_bind, run_underlying hu, run_underlying hel, Result.andThen, beq_self_eq_true, markStringish, hsh, Sem.run_pure, run_freeze]
  refine ⟨_, _, g, .inl hrun, .refl g, rfl, hv0, hs.mem (hs.m.write hb rfl hp (by simp [World.freeze]) (fun i hi => ?_) ?_ ⟨rfl, rfl⟩)⟩
  · simp only [World.freeze, Nat.one_ne_zero, if_false]
    rw [Array.getElem?_modify, if_neg (fun e => hi e.symm)]
  · refine ⟨f, k, h1, h2, h3, .inl ⟨p', c, T, (if fr.1 == fr.2 then (c.size, c.size + 1) else (min fr.1 c.size, max fr.2 (c.size + 1))), hp, ?_, hc, fun _ => ⟨?_, hw2, hw3⟩⟩⟩
    · simp only [World.freeze, Nat.one_ne_zero, if_false]
      rw [Array.getElem?_modify, if_pos rfl]
      have : w.heap[p'.blk]? = some (.cells c T fr) := hh
      rw [this]; rfl
    · rcases hfr with rfl | hfr
      · exact .inr (Nat.le_refl _)
      · right
        split
        · exact Nat.le_refl _
        · show c.size ≤ min fr.1 c.size
          omega

/-! ### Maps -/

theorem makeMap_loud {s : St} {o : Oper} {t : TypeId} (hs : SRel A I P X g s a w) (hop : o.op = .makeMap t none) :
    LoudRun A I P X g a w o (.mref s.nb) (newBlk s (.mp [] [])) := by
  let p : PB := { blk := w.heap.size, base := 0, tot := 0 }
  refine ⟨.map (some w.heap.size), w.alloc (.map #[] 0), g.lay (some p), .inl ?_, g.lay_le _, rfl, ?_, ?_⟩
  · simp only [execOp, hop, Option.map_none, Instr.makeMap, Sem.run_bind, Result.andThen, run_newObj_alloc, Sem.run_pure]
  · exact ⟨p, by rw [← hs.nb]; exact G.lay_new g (some p), rfl⟩
  · have hm := hs.m.alloc (M' := s.mem) (o := .map #[] 0) (x := .mp [] []) (p := p) (fun _ _ h => h) rfl
      ⟨p, #[], 0, G.lay_new g (some p), heap_alloc_new _ _, trivial, trivial⟩
    rw [hs.nb] at hm
    exact hs.lay hm

theorem sameF_rel {v u : AV} {x y : Value} (h : v.sameF u = true) (hx : Rel I g v x) (hy : Rel I g u y) : x = y ∧ ∀ n, Instr.sameBits n x y = true := by
  unfold AV.sameF at h
  split at h
  · obtain ⟨s1, rfl, h1⟩ := hx
    obtain ⟨s2, rfl, h2⟩ := hy
    have : s1 = s2 := by
      have e : s1.data = s2.data := Array.toList_inj.1 (by rw [h1, h2]; exact beq_iff_eq.1 h)
      cases s1; cases s2; simp_all
    subst this
    have e : (s1 == s1) = true := by
      show (s1.data == s1.data) = true
      simp
    exact ⟨rfl, fun n => by cases n <;> simp only [Instr.sameBits, e]⟩
  · simp only [Bool.and_eq_true, beq_iff_eq] at h
    obtain ⟨rfl, rfl⟩ := h
    obtain ⟨n1, h1, rfl⟩ := hx
    obtain ⟨n2, h2, rfl⟩ := hy
    simp only [E.den, Option.some.injEq, D.i.injEq] at h1 h2
    subst h1; subst h2
    exact ⟨rfl, fun n => by cases n <;> simp [Instr.sameBits]⟩
  · cases h
theorem sameFs_rel : ∀ {l m : List AV} {xs ys : List Value}, sameFs l m = true → Rels I g l xs → Rels I g m ys → xs = ys ∧ ∀ n, (xs.zip ys).all (fun z => Instr.sameBits n z.1 z.2) = true
  | [], [], [], [], _, _, _ => ⟨rfl, fun _ => rfl⟩
  | v :: l, u :: m, x :: xs, y :: ys, h, hx, hy => by
    simp only [sameFs, Bool.and_eq_true] at h
    obtain ⟨h1, h2⟩ := sameF_rel h.1 hx.1 hy.1
    obtain ⟨h3, h4⟩ := sameFs_rel h.2 hx.2 hy.2
    exact ⟨by rw [h1, h3], fun n => by simp [h2 n]; simpa using h4 n⟩
  | [], [], _ :: _, _, _, h, _ => by simp [Rels] at h
  | [], [], [], _ :: _, _, _, h => by simp [Rels] at h
  | [], _ :: _, _, _, h, _, _ => by simp [sameFs] at h
  | _ :: _, [], _, _, h, _, _ => by simp [sameFs] at h
  | _ :: _, _ :: _, [], _, _, h, _ => by simp [Rels] at h
  | _ :: _, _ :: _, _ :: _, [], _, _, h => by simp [Rels] at h
theorem sameK_rel {v u : AV} {x y : Value} (h : v.sameK u = true) (hx : Rel I g v x) (hy : Rel I g u y) : x = y ∧ ∀ n, Instr.sameBits (n + 1) x y = true := by
  unfold AV.sameK at h
  split at h
  · obtain ⟨cs, rfl, h1⟩ := hx
    obtain ⟨ds, rfl, h2⟩ := hy
    obtain ⟨h3, h4⟩ := sameFs_rel h h1 h2
    have : cs = ds := Array.toList_inj.1 h3
    subst this
    exact ⟨rfl, fun n => by simp only [Instr.sameBits, beq_self_eq_true, Bool.true_and]; exact h4 n⟩
  · obtain ⟨h1, h2⟩ := sameF_rel h hx hy
    exact ⟨h1, fun n => h2 _⟩

theorem Rels.set1 {l : List AV} {xs : List Value} {v : AV} {x : Value} (h : Rels I g l xs) (hv : Rel I g v x) (j : Nat) : Rels I g (l.set j v) (xs.set j x) :=
  .mk (by simp [h.length]) fun i u y h1 h2 => by
    rw [List.getElem?_set] at h1 h2
    split at h1
    · rename_i hij
      rw [if_pos hij] at h2
      split at h1
      · split at h2
        · cases h1; cases h2; exact hv
        · cases h2
      · cases h1
    · rename_i hij
      rw [if_neg hij] at h2
      obtain ⟨z, h3, h4⟩ := h.get h1
      rw [h2] at h3; cases h3
      exact h4

theorem run_setObj_mp {r : Nat} {es : Array MapEntry} {c : Nat} {o : Obj} (h : w.heap[r]? = some (.map es c)) : (setObj r o).run P w = .ok () (w.putObj r o) := by
  simp [setObj, Sem.run, h, World.putObj]

theorem mapUpdate_loud {s : St} {o : Oper} {t kt et : TypeId} {y z x : Operand} (hs : SRel A I P X g s a w) (hop : o.op = .mapUpdate t y z x) (hu : P.underlying t = some (.map kt et)) {b : Nat} {k v u : AV} {s1 : St} {ps : List PE}
    (hy : Rel I g (.mref b) (a.eval y)) (hz : Rel I g k (a.eval z)) (hv : Rel I g v (a.eval x)) (h : updateAV P s kt b k v = some (u, s1, ps)) :
    LoudRun A I P X g a w o u s1 := by
  unfold updateAV at h
  split at h
  · rename_i hk
    split at h
    · rename_i l m hb
      obtain ⟨p, h1, h2⟩ := hy
      obtain ⟨p', es, c, h3, h4, h5, h6⟩ := hs.m.blk b _ hb
      rw [h1] at h3; cases h3
      have hlt := hs.m.bnd b p h1
      have hc : ∀ em, (Instr.checkKey em 10000 kt (a.eval z)).run P w = .ok () w := fun em => checkKey_run hk hz em 9998
      split at h
      · rename_i j hj
        split at h
        · rename_i k' hk'
          split at h
          · rename_i hsame
            simp at h
            obtain ⟨rfl, rfl, rfl⟩ := h
            obtain ⟨e, k1, k2⟩ := findKey_run (w := w) hk hz hj h5
            obtain ⟨kv, k3, k4⟩ := h5.get hk'
            have k5 : kv = e.key := by
              rw [List.getElem?_map, k1] at k3
              simpa using k3.symm
            subst k5
            obtain ⟨k6, k7⟩ := sameK_rel hsame k4 hz
            have k8 : es[j]? = some e := by rw [← Array.getElem?_toList]; exact k1
            have hstay : (Instr.keyThatStays e.key (a.eval z)).run P w = .ok (a.eval z) w := by
              unfold Instr.keyThatStays
              rw [if_pos (k7 9999)]; rfl
            have hjl : j < es.size := (Array.getElem?_eq_some_iff.1 k8).1
            have hkeys : ((es.modify j fun e => { e with key := a.eval z, val := a.eval x }).toList.map (·.key)) = es.toList.map (·.key) := by
              apply List.ext_getElem?
              intro i
              simp only [List.getElem?_map, Array.getElem?_toList, Array.getElem?_modify]
              split
              · rename_i hij; subst hij
                rw [k8]
                simp [k6]
              · rfl
            have hvals : ((es.modify j fun e => { e with key := a.eval z, val := a.eval x }).toList.map (·.val)) = (es.toList.map (·.val)).set j (a.eval x) := by
              apply List.ext_getElem?
              intro i
              simp only [List.getElem?_map, Array.getElem?_toList, Array.getElem?_modify, List.getElem?_set]
              split
              · rename_i hij; subst hij
                rw [k8]
                simp [hjl]
              · rfl
            refine ⟨Go.undef, w.putObj p.blk (.map (es.modify j fun e => { e with key := a.eval z, val := a.eval x }) c), g, .inr ⟨?_, rfl⟩, .refl _, rfl, rfl, hs.mem (hs.m.write (y := .mp l (m.set j v)) hb rfl h1 (by simp) (fun i hi => World.putObj_heap_other hi) ?_)⟩
            · simp only [execOp, hop, h2, Instr.mapUpdate, Sem.run_bind, run_underlying hu, Result.andThen, run_getObj_mp h4, hc, k2, k8, Option.map_some, Option.getD_some, hstay, run_setObj_mp h4, Sem.run_pure]
            · exact ⟨p, _, c, h1, World.putObj_heap_same hlt, by rw [hkeys]; exact h5, by rw [hvals]; exact h6.set1 hv j⟩
          · cases h
        · cases h
      · rename_i hj
        simp at h
        obtain ⟨rfl, rfl, rfl⟩ := h
        have k2 := findKey_run (w := w) hk hz hj h5
        refine ⟨Go.undef, w.putObj p.blk (.map (es.push { key := a.eval z, val := a.eval x, born := c }) (c + 1)), g, .inr ⟨?_, rfl⟩, .refl _, rfl, rfl, hs.mem (hs.m.write (y := .mp (l ++ [k]) (m ++ [v])) hb rfl h1 (by simp) (fun i hi => World.putObj_heap_other hi) ?_)⟩
        · simp only [execOp, hop, h2, Instr.mapUpdate, Sem.run_bind, run_underlying hu, Result.andThen, run_getObj_mp h4, hc, k2, run_setObj_mp h4, Sem.run_pure]
        · exact ⟨p, _, _, h1, World.putObj_heap_same hlt, by simpa using Rels.append h5 (m := [k]) (ys := [a.eval z]) ⟨hz, trivial⟩, by simpa using Rels.append h6 (m := [v]) (ys := [a.eval x]) ⟨hv, trivial⟩⟩
      · cases h
    · cases h
  · cases h

theorem loud_sound {s : St} {o : Oper} {v : AV} {s1 : St} {ps : List PE} (hs : SRel A I P X g s a w) (hx : ∀ t, .tmp t ∈ o.op.operands.toList → ¬ X t)
    {kn : Kn} (h : loud P kn s o.op = some (v, s1, ps)) (hp : ∀ q ∈ ps, q.den I g.env) : LoudRun A I P X g a w o v s1 := by
  have ev : ∀ {y : Operand} {u : AV}, y ∈ o.op.operands.toList → evalOp s.tmps y = some u → Rel I g u (a.eval y) := fun hy hu => evalOp_rel hs.t hu fun t e => hx t (e ▸ hy)
  cases hop : o.op with
  | alloc t =>
    rw [hop] at h
    simp only [loud] at h
    split at h
    · split at h
      · rename_i bg hbg
        split at h
        · rename_i l m hz
          cases h
          have ht : bg.t = t := by have := List.find?_some hbg; simpa using this
          subst ht
          exact allocBig_loud hs hop hz
        · cases h
      · cases h
    · split at h
      · rename_i z hz
        simp at h
        obtain ⟨rfl, rfl, rfl⟩ := h
        exact alloc_loud hs hop hz
      · cases h
  | convert src dst x =>
    rw [hop] at h ev
    simp only [loud] at h
    split at h
    · rename_i hsd
      subst hsd
      unfold markBytes at h
      split at h
      · rename_i b lo n el hv hd
        split at h
        · rename_i t len hel hb
          cases h
          exact mark_loud hs hop hd hel (ev (by simp [Op.operands]) hv) hb
        · cases h
      · cases h
    split at h
    · rename_i tE n el hv hd hsrc
      split at h
      · rename_i hel hsz
        simp at h
        obtain ⟨rfl, rfl, rfl⟩ := h
        obtain ⟨u, hu, has⟩ := Option.bind_eq_some_iff.1 hv
        exact convert_loud hs hop hsrc hd hel (asTab_rel has (ev (by simp [Op.operands]) hu))
      · cases h
    · cases h
  | box t x =>
    rw [hop] at h ev
    simp only [loud] at h
    split at h
    · rename_i l ks tt n m hu
      split at h
      · cases h
        exact boxBig_loud hs hop (ev (by simp [Op.operands]) hu)
      · cases h
    · rename_i u hnb hu
      split at h
      · simp at h
        obtain ⟨rfl, rfl, rfl⟩ := h
        exact box_loud hs hop (ev (by simp [Op.operands]) hu) (evalOp_ne hu) (by cases u <;> first | rfl | exact (hnb _ _ _ _ _ rfl).elim)
      · cases h
    · cases h
  | makeMap t r =>
    rw [hop] at h
    cases r with
    | some _ => simp [loud] at h
    | none =>
      simp [loud] at h
      obtain ⟨rfl, rfl, rfl⟩ := h
      exact makeMap_loud hs hop
  | mapUpdate t y z x =>
    rw [hop] at h ev
    simp only [loud] at h
    split at h
    · rename_i b k v' kt et hy hz hv hu
      exact mapUpdate_loud hs hop hu (ev (by simp [Op.operands]) hy) (ev (by simp [Op.operands]) hz) (ev (by simp [Op.operands]) hv) h
    · cases h
  | store t y x =>
    rw [hop] at h ev
    simp only [loud] at h
    split at h
    · rename_i b r z k u n hy hu hn
      split at h
      · rename_i hl
        cases hst : storeAt s.mem b r z k u.cells with
        | none => simp [hst] at h
        | some q =>
          obtain ⟨M', ps'⟩ := q
          simp [hst] at h
          obtain ⟨rfl, rfl, rfl⟩ := h
          exact store_loud hs hop (ev (by simp [Op.operands]) hy) (ev (by simp [Op.operands]) hu) (evalOp_ne hu) (by cases u <;> first | rfl | simp [storeAt, AV.cells, AV.one] at hst) hn hl hst hp
      · cases h
    · cases h
  | buildSlice t n parts =>
    rw [hop] at h
    simp only [loud] at h
    split at h
    · rename_i el hu
      split at h
      · rename_i z sz l hz hsz hl
        split at h
        · rename_i hc
          split at h
          · rename_i vs hf
            split at h
            · simp at h
              obtain ⟨rfl, rfl, rfl⟩ := h
              exact buildSlice_loud hs hop hx hu hz hsz hl hc.1 hc.2 hf
            · cases h
          · cases h
        · cases h
      · cases h
    · cases h
  | makeSlice t l c =>
    rw [hop] at h ev
    simp only [loud] at h
    split at h
    · rename_i el k1 x k2 y hu hl hc
      split at h
      · rename_i z sz bytes hz hsz hb
        split at h
        · rename_i hcond
          obtain ⟨h0, rfl, h1, h2, h3⟩ := hcond
          split at h
          · rename_i ks hks
            split at h
            · rename_i haz
              simp at h
              obtain ⟨rfl, rfl, rfl⟩ := h
              exact makeSlice_loud hs hop hu (ev (by simp [Op.operands]) hl) (ev (by simp [Op.operands]) hc) hz hsz hb h0 h1 h2 h3 hks haz
            · cases h
          · split at h
            · cases h
              exact makeCells_loud hs hop hu (ev (by simp [Op.operands]) hl) (ev (by simp [Op.operands]) hc) hz hsz hb h0 h1 h2 h3
            · cases h
        · cases h
      · cases h
    · cases h
  | call c =>
    obtain ⟨callee, args, argTypes⟩ := c
    rw [hop] at h ev
    cases callee with
    | builtin b =>
      cases b with
      | append =>
        simp only [loud] at h
        split at h
        · rename_i x y t u ha hat
          have ha' := toList_two ha
          have hat' := toList_two hat
          subst ha'; subst hat'
          split at h
          · rename_i v1 kd e el k hv1 hv2 ht hu
            split at h
            · rename_i r hr
              cases h
              exact appendZeros_loud hs hop ht hu (ev (by simp [Op.operands, Call.operands]) hv1) (ev (by simp [Op.operands, Call.operands]) hv2) hr hp
            · exact appendZeroCells_loud hs hop ht hu (ev (by simp [Op.operands, Call.operands]) hv1) (ev (by simp [Op.operands, Call.operands]) hv2) h
          · rename_i v1 v2 el d hv1 hv2 ht hu
            split at h
            · split at h
              · exact append_loud hs hop ht hu (ev (by simp [Op.operands, Call.operands]) hv1) (ev (by simp [Op.operands, Call.operands]) hv2) h hp
              · exact appendCells_loud hs hop ht hu (ev (by simp [Op.operands, Call.operands]) hv1) (ev (by simp [Op.operands, Call.operands]) hv2) h
            · cases h
          · cases h
        · cases h
      | clear =>
        simp only [loud] at h
        split at h
        · rename_i x t ha hat
          have ha' := toList_one ha
          have hat' := toList_one hat
          subst ha'; subst hat'
          split at h
          · rename_i b k n z el hv1 ht
            split at h
            · rename_i zv sz hz hsz
              split at h
              · rename_i hc
                obtain ⟨rfl, hl⟩ := hc
                cases hcl : clearAt s.mem b k sz zv.cells n with
                | none => simp [hcl] at h
                | some q =>
                  obtain ⟨M', ps'⟩ := q
                  simp [hcl] at h
                  obtain ⟨rfl, rfl, rfl⟩ := h
                  exact clear_loud hs hop ht (ev (by simp [Op.operands, Call.operands]) hv1) hz hl hcl hp
              · cases h
            · cases h
          · cases h
        · cases h
      | _ => simp [loud] at h
    | _ => simp [loud] at h
  | _ => rw [hop] at h; simp [loud] at h

/-! ### Formulas -/

section vc
variable {env : List D}
theorem asserts_vc : ∀ {ps : List PE} {t : Tree}, (asserts ps t).vc I env → (∀ p ∈ ps, p.den I env) ∧ t.vc I env
  | [], t, h => ⟨by simp, h⟩
  | p :: ps, t, h => by
    obtain ⟨h1, h2⟩ := h
    obtain ⟨h3, h4⟩ := asserts_vc h2
    exact ⟨List.forall_mem_cons.2 ⟨h1, h3⟩, h4⟩
theorem colOk_den {c : Nat} {lo hi : Int} : ∀ {e : E}, e.colOk c lo hi = true → ∃ f, e.den I env = some (.t f) ∧ ∀ r : Int, lo ≤ f r c ∧ f r c ≤ hi := by
  intro e
  induction e with
  | zt => intro h; simp [E.colOk] at h; exact ⟨_, rfl, fun _ => h⟩
  | kt row => intro h; simp [E.colOk] at h; exact ⟨_, rfl, fun _ => by simpa using h⟩
  | upd t r d v iht _ _ =>
    intro h
    cases r with
    | lit m =>
      cases v with
      | lit n =>
        simp only [E.colOk, Bool.and_eq_true, Bool.or_eq_true, bne_iff_ne, ne_eq, decide_eq_true_eq] at h
        obtain ⟨f, h1, h2⟩ := iht h.2
        refine ⟨tupd f m d n, by simp [E.den, h1], fun r => ?_⟩
        simp only [tupd]
        split
        · rename_i hc
          rcases h.1 with h3 | h3
          · exact absurd hc.2.symm h3
          · exact h3
        · exact h2 r
      | _ => simp [E.colOk] at h
    | _ => simp [E.colOk] at h
  | _ => intro h; simp [E.colOk] at h
theorem mkAssert_vc {p : PE} {t : Tree} (h : (mkAssert p t).vc I env) : p.den I env ∧ t.vc I env := by
  unfold mkAssert at h
  split at h
  · split at h
    · exact h.elim
    · rename_i n hn; exact ⟨⟨n, rfl, hn⟩, h⟩
  · split at h
    · rename_i n hn; subst hn; exact ⟨rfl, h⟩
    · exact h.elim
  · split at h
    · rename_i k n hn; exact ⟨⟨n, rfl, hn⟩, h⟩
    · exact h.elim
  · exact ⟨⟨_, rfl⟩, h⟩
  · exact ⟨⟨_, rfl⟩, h⟩
  · split at h
    · rename_i hc; exact ⟨colOk_den hc, h⟩
    · exact h
  · exact h
theorem mkAsserts_vc : ∀ {ps : List PE} {t : Tree}, (mkAsserts ps t).vc I env → (∀ p ∈ ps, p.den I env) ∧ t.vc I env
  | [], t, h => ⟨by simp, h⟩
  | p :: ps, t, h => by
    obtain ⟨h1, h2⟩ := mkAssert_vc h
    obtain ⟨h3, h4⟩ := mkAsserts_vc h2
    exact ⟨List.forall_mem_cons.2 ⟨h1, h3⟩, h4⟩
theorem assumes_vc : ∀ {ps : List PE} {t : Tree}, (assumes ps t).vc I env → (∀ p ∈ ps, p.den I env) → t.vc I env
  | [], t, h, _ => h
  | p :: ps, t, h, hp => assumes_vc (h (hp p (by simp))) fun q hq => hp q (by simp [hq])

/-- Values of the sorts asked. -/
def Sorts : List Bool → List D → Prop
  | [], [] => True
  | true :: l, .t _ :: m => Sorts l m
  | false :: l, .i _ :: m => Sorts l m
  | _, _ => False
theorem Sorts.length : ∀ {l : List Bool} {m : List D}, Sorts l m → m.length = l.length
  | [], [], _ => rfl
  | true :: l, .t _ :: m, h => by simp [Sorts.length (l := l) (m := m) h]
  | false :: l, .i _ :: m, h => by simp [Sorts.length (l := l) (m := m) h]
  | [], _ :: _, h => by simp [Sorts] at h
  | true :: _, [], h => by simp [Sorts] at h
  | false :: _, [], h => by simp [Sorts] at h
  | true :: _, .i _ :: _, h => by simp [Sorts] at h
  | false :: _, .t _ :: _, h => by simp [Sorts] at h
theorem havocs_vc : ∀ {l : List Bool} {ds : List D} {env : List D} {t : Tree}, (havocs l t).vc I env → Sorts l ds → t.vc I (env ++ ds)
  | [], [], env, t, h, _ => by simpa [havocs] using h
  | true :: l, .t f :: m, env, t, h, hs => by
    have := havocs_vc (l := l) (ds := m) (env := env ++ [.t f]) (h f) hs
    simpa using this
  | false :: l, .i n :: m, env, t, h, hs => by
    have := havocs_vc (l := l) (ds := m) (env := env ++ [.i n]) (h n) hs
    simpa using this
  | [], _ :: _, _, _, _, h => by simp [Sorts] at h
  | true :: _, [], _, _, _, h => by simp [Sorts] at h
  | false :: _, [], _, _, _, h => by simp [Sorts] at h
  | true :: _, .i _ :: _, _, _, _, h => by simp [Sorts] at h
  | false :: _, .t _ :: _, _, _, _, h => by simp [Sorts] at h
end vc
end Go.Sx
