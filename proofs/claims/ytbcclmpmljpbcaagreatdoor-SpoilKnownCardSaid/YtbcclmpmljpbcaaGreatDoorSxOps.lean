/-
  The operations that leave memory alone: each does what the executor says. Conditions: none.
-/
import Derived.Test.YtbcclmpmljpbcaaGreatDoorSxPart
namespace Go.Sx
open Go

variable {A : Amb} {I : Itp} {P : Program} {g : G} {X : Nat → Prop} {ts : Tmps} {a : Act} {M : Mem} {w : World}

/-! ### Laying parts -/

theorem fill_rel {place : Nat → Option (Nat × Nat)} : ∀ {ps : List (Nat × AV)} {qs : List (Nat × Value)} {l m : List AV} {cs : Array Value},
    ps.map (·.1) = qs.map (·.1) → Rels I g (ps.map (·.2)) (qs.map (·.2)) → (∀ x ∈ ps, x.2 ≠ .any ∧ x.2.isBig = false) → Rels I g l cs.toList → fillAV place l ps = some m →
    ∃ ds, Instr.fill place cs qs = some ds ∧ Rels I g m ds.toList
  | [], [], l, m, cs, _, _, _, h, hf => by
    simp [fillAV] at hf; subst hf; exact ⟨cs, rfl, h⟩
  | (i, v) :: ps, (j, x) :: qs, l, m, cs, h1, h2, h3, h, hf => by
    simp at h1
    obtain ⟨rfl, h1⟩ := h1
    obtain ⟨hv, h2⟩ := h2
    have hc := cells_rel hv (h3 (i, v) (by simp)).1 (h3 (i, v) (by simp)).2
    have hlen : v.cells.length = x.cells.size := by simpa using hc.length
    have hl : l.length = cs.size := by simpa using h.length
    simp only [fillAV] at hf
    simp only [Instr.fill]
    cases hp : place i with
    | none => simp [hp] at hf
    | some os =>
      obtain ⟨off, size⟩ := os
      simp only [hp] at hf ⊢
      split at hf
      · cases hf
      · rename_i hn
        rw [hlen, hl] at hn
        rw [if_neg (by simpa using hn)]
        refine fill_rel (by simpa using h1) h2 (fun y hy => h3 y (by simp [hy])) ?_ hf
        have e := foldl_setL off x.cells.toList 0 cs
        rw [Nat.add_zero] at e
        have e2 : (x.cells.zipIdx.foldl (fun cs (c, j) => cs.setIfInBounds (off + j) c) cs).toList = setL cs.toList off x.cells.toList := by
          rw [← e, ← Array.foldl_toList]; simp
        rw [e2]
        exact h.setL off hc
  | [], _ :: _, _, _, _, h, _, _, _, _ => by simp at h
  | _ :: _, [], _, _, _, h, _, _, _, _ => by simp at h

theorem run_places : ∀ (fs : List Field) {pl : List (Nat × Nat)}, fieldPlaces P fs = some pl → ∀ w : World,
    (fs.mapM fun f => (do pure (f.offset, ← sizeOf f.type) : Sem (Nat × Nat))).run P w = .ok pl w
  | [], pl, h, w => by simp [fieldPlaces] at h; subst h; rfl
  | f :: fs, pl, h, w => by
    simp only [fieldPlaces] at h
    split at h
    · rename_i s l h1 h2
      simp at h; subst h
      have := run_places fs h2 w
      simp only [List.mapM_cons, Sem.run_bind, run_tySize h1, Result.andThen, Sem.run_pure, this]
    · cases h

theorem rel_int {v : AV} {x : Value} {k : IntKind} {e : E} (hv : v = .int k e) (h : Rel I g v x) : ∃ n : Int, e.den I g.env = some (.i n) ∧ x = .int k n := by
  subst hv; exact h

theorem toList_one {α : Type} {x : Array α} {a : α} (h : x.toList = [a]) : x = #[a] := Array.toList_inj.1 (by simpa using h)
theorem toList_two {α : Type} {x : Array α} {a b : α} (h : x.toList = [a, b]) : x = #[a, b] := Array.toList_inj.1 (by simpa using h)

theorem run_field {t : TypeId} {f : Nat} {fd : Field} (h : field? P t f = some fd) : ∃ fs, P.underlying t = some (.struct fs) ∧ fs[f]? = some fd := by
  unfold field? at h
  split at h
  · rename_i fs hu; exact ⟨fs, hu, h⟩
  · cases h

theorem run_fieldPlace {p : Addr} {fd : Field} {n : Nat} (h : tySize P fd.type = some (n + 1)) : (fieldPlace p fd).run P w = .ok (p.add fd.offset) w := by
  simp [fieldPlace, run_tySize h, Result.andThen]

theorem extract_rel {l : List AV} {cs : Array Value} (h : Rels I g l cs.toList) (o n : Nat) (_hn : o + n ≤ l.length) : Rel I g (.agg ((l.drop o).take n)) (.agg (cs.extract o (o + n))) := by
  refine ⟨_, rfl, ?_⟩
  have := (h.drop o).take n
  simpa [Array.toList_extract, List.extract_eq_take_drop] using this

set_option maxHeartbeats 1000000 in
theorem quiet1_sound {kn : Kn} {o : Oper} {v : AV} {ps : List PE} (hG : GOk kn.globs A) (hm : MRel A I P g M w) (ht : TRel I g X ts a.tmps) (hx : ∀ t, .tmp t ∈ o.op.operands.toList → ¬ X t)
    (h : quiet1 P kn ts M o.op = some (v, ps)) (hp : ∀ q ∈ ps, q.den I g.env) : ∃ x, (execOp a.eval o).run P w = .ok (.value x) w ∧ Rel I g v x := by
  have ev : ∀ {y : Operand} {u : AV}, y ∈ o.op.operands.toList → evalOp ts y = some u → Rel I g u (a.eval y) := fun hy hu => evalOp_rel ht hu fun t e => hx t (e ▸ hy)
  cases hop : o.op with
  | move y =>
    rw [hop] at h ev
    simp only [quiet1] at h
    cases he : evalOp ts y with
    | none => simp [he] at h
    | some u =>
      simp [he] at h
      obtain ⟨rfl, rfl⟩ := h
      exact ⟨_, by simp [execOp, hop], ev (by simp [Op.operands]) he⟩
  | assign y =>
    rw [hop] at h ev
    simp only [quiet1] at h
    cases he : evalOp ts y with
    | none => simp [he] at h
    | some u =>
      simp [he] at h
      obtain ⟨rfl, rfl⟩ := h
      exact ⟨_, by simp [execOp, hop], ev (by simp [Op.operands]) he⟩
  | pick c x y =>
    rw [hop] at h ev
    simp only [quiet1] at h
    split at h
    · rename_i n hc
      have h1 := ev (by simp [Op.operands]) hc
      obtain ⟨m, h2, h3⟩ := h1
      have hmn : m = n := by simp [E.den] at h2; exact h2.symm
      subst hmn
      by_cases hn : m = 0
      · rw [if_pos hn] at h
        cases he : evalOp ts y with
        | none => simp [he] at h
        | some u =>
          simp [he] at h
          obtain ⟨rfl, rfl⟩ := h
          exact ⟨a.eval y, by simp [execOp, hop, h3, hn, asBool], ev (by simp [Op.operands]) he⟩
      · rw [if_neg hn] at h
        cases he : evalOp ts x with
        | none => simp [he] at h
        | some u =>
          simp [he] at h
          obtain ⟨rfl, rfl⟩ := h
          exact ⟨a.eval x, by simp [execOp, hop, h3, hn, asBool], ev (by simp [Op.operands]) he⟩
    · cases h
  | load t y =>
    rw [hop] at h ev
    simp only [quiet1] at h
    split at h
    · rename_i b r s k ag n he hag hn
      have h1 := ev (by simp [Op.operands]) he
      obtain ⟨m, p, h2, h3, h4, h5⟩ := h1
      obtain ⟨z, h6, h7⟩ := loadAt_rel hm h hp h2 h3 h4 hag hn
      exact ⟨z, by simp [execOp, hop, h5, h6, Result.andThen], h7⟩
    · rename_i gv k n he hag hn
      cases hgl : globAt kn.globs gv k with
      | none => simp [hgl] at h
      | some u =>
        simp [hgl] at h
        obtain ⟨rfl, rfl⟩ := h
        have h1 := ev (by simp [Op.operands]) he
        simp only [Rel] at h1
        unfold globAt at hgl
        split at hgl
        · rename_i x hx
          cases hl : x.l[k]? with
          | none => simp [hl] at hgl
          | some m =>
            simp [hl] at hgl
            have hmem := List.mem_of_find?_eq_some hx
            have hgx : x.g = gv := by simpa using List.find?_some hx
            obtain ⟨g1, g2, c, T, fr, g3, g4⟩ := hG x hmem
            have hh := hm.keep _ g1 g2
            rw [g3, hgx] at hh
            refine ⟨x.k.val m, ?_, ?_⟩
            · have := run_loadOne (P := P) (t := t) (o := k) (b := gv) (v := x.k.val m) hag (by rw [cell_cells hh]; exact g4.1 k m hl)
              simp [execOp, hop, h1, this, Result.andThen]
            · rw [← hgl]
              exact ck_rel rfl
        · cases hgl
    · cases h
  | nilCheck y =>
    rw [hop] at h ev
    simp only [quiet1] at h
    split at h
    · rename_i b r s k he
      simp at h
      obtain ⟨rfl, rfl⟩ := h
      have h1 := ev (by simp [Op.operands]) he
      have h0 := h1
      obtain ⟨m, p, h2, h3, h4, h5⟩ := h1
      exact ⟨_, by simp only [execOp, hop, h5]; rfl, by rw [h5] at h0; exact h0⟩
    · rename_i gv k he
      simp at h
      obtain ⟨rfl, rfl⟩ := h
      have h1 := ev (by simp [Op.operands]) he
      simp only [Rel] at h1
      exact ⟨_, by simp only [execOp, hop, h1]; rfl, rfl⟩
    · cases h
  | binOp bo t x y yt =>
    rw [hop] at h ev
    simp only [quiet1] at h
    split at h
    · rename_i u u' he he'
      obtain ⟨r, h1, h2⟩ := binAV_run h hp (ev (by simp [Op.operands]) he) (ev (by simp [Op.operands]) he') x y w
      exact ⟨r, by simp only [execOp, hop]; rw [Sem.run_bind, h1]; rfl, h2⟩
    · cases h
  | unOp uo t x =>
    rw [hop] at h ev
    cases uo with
    | not =>
      simp only [quiet1] at h
      split at h
      · rename_i e he
        simp at h
        obtain ⟨rfl, rfl⟩ := h
        obtain ⟨n, h1, h2⟩ := ev (by simp [Op.operands]) he
        refine ⟨.bool (!decide (n ≠ 0)), by simp only [execOp, hop, h2]; rfl, _, den_mkBin h1 (show (E.lit 0).den I g.env = some (.i 0) from rfl), ?_⟩
        by_cases hn : n = 0 <;> simp [BO.ev, hn]
      · cases h
    | neg =>
      simp only [quiet1] at h
      split at h
      · rename_i k e he
        simp only [Option.some.injEq] at h
        obtain ⟨n, h1, h2⟩ := ev (by simp [Op.operands]) he
        exact ⟨.int k (k.wrap (0 - n)), by simp only [execOp, hop, h2]; rfl, arith_rel h hp (den_mkBin (o := .sub) (show (E.lit 0).den I g.env = some (.i 0) from rfl) h1)⟩
      · cases h
    | xor =>
      simp only [quiet1] at h
      split at h
      · rename_i k e he
        simp at h
        obtain ⟨rfl, rfl⟩ := h
        obtain ⟨n, h1, h2⟩ := ev (by simp [Op.operands]) he
        exact ⟨.int k (bitsEv 2 k (if k.signed then -1 else k.max) n), by simp only [execOp, hop, h2]; rfl, _, den_mkBin (o := .bits 2 k) (show (E.lit _).den I g.env = some (.i _) from rfl) h1, rfl⟩
      · cases h
    | _ => simp [quiet1] at h
  | convert src dst x =>
    rw [hop] at h ev
    simp only [quiet1] at h
    split at h
    · rename_i k e k' s he hu hs
      simp at h
      obtain ⟨rfl, rfl⟩ := h
      obtain ⟨n, h1, h2⟩ := ev (by simp [Op.operands]) he
      refine ⟨.int k' (k'.wrap n), ?_, _, den_mkWrap h1, rfl⟩
      simp only [execOp, hop, h2, convert, Sem.run_bind, run_underlying hs, run_underlying hu, Result.andThen]
      cases s <;> rfl
    · cases h
  | makeFunc fn first cap =>
    rw [hop] at h
    cases fn with
    | func f =>
      simp only [quiet1] at h
      split at h
      · rename_i l hf hc
        simp at h
        obtain ⟨rfl, rfl⟩ := h
        have h0 := evalOps_rel (a := a) ht hf fun t ht' => hx t (by rw [hop]; simp [Op.operands]; exact .inl (by simpa using ht'))
        have hf' : first = #[] := by
          have := h0.length
          simp at this
          exact Array.eq_empty_of_size_eq_zero this.symm
        subst hf'
        have h1 := evalOps_rel (a := a) ht hc fun t ht' => hx t (by rw [hop]; simpa [Op.operands] using ht')
        exact ⟨_, by simp only [execOp, hop]; rfl, cap.map a.eval, by simp, by simpa using h1⟩
      · rename_i m l hne hf hc
        simp at h
        obtain ⟨rfl, rfl⟩ := h
        have h0 := evalOps_rel (a := a) ht hf fun t ht' => hx t (by rw [hop]; simp [Op.operands]; exact .inl (by simpa using ht'))
        have h1 := evalOps_rel (a := a) ht hc fun t ht' => hx t (by rw [hop]; simp [Op.operands]; exact .inr (by simpa using ht'))
        exact ⟨_, by simp only [execOp, hop]; rfl, first.map a.eval, cap.map a.eval, by simp, by simpa using h0, by simpa using h1⟩
      · cases h
    | _ => simp [quiet1] at h
  | fieldAddr t x f =>
    rw [hop] at h ev
    simp only [quiet1] at h
    split at h
    · rename_i b r s k fd he hf
      split at h
      · rename_i n hn
        simp at h
        obtain ⟨rfl, rfl⟩ := h
        obtain ⟨m, p, h2, h3, h4, h5⟩ := ev (by simp [Op.operands]) he
        obtain ⟨fs, hu, hfs⟩ := run_field hf
        refine ⟨.pointer (some ⟨p.blk, p.base + m.toNat * s + (k + fd.offset), none⟩), ?_, m, p, h2, h3, h4, rfl⟩
        simp only [execOp, hop, h5, Instr.fieldAt, Sem.run_bind, run_underlying hu, Result.andThen, hfs, Instr.sureAddr, Sem.run_pure, run_fieldPlace hn, addr_add]
        simp [Nat.add_assoc]
      · cases h
    · cases h
  | field t x f =>
    rw [hop] at h ev
    simp only [quiet1] at h
    split at h
    · rename_i l fd he hf
      obtain ⟨cs, h2, h3⟩ := ev (by simp [Op.operands]) he
      obtain ⟨fs, hu, hfs⟩ := run_field hf
      split at h
      · rename_i n hag hn
        split at h
        · rename_i hle
          simp at h
          obtain ⟨rfl, rfl⟩ := h
          refine ⟨_, ?_, extract_rel h3 fd.offset n hle⟩
          simp only [execOp, hop, h2, Instr.field, Sem.run_bind, run_underlying hu, Result.andThen, hfs, asAgg, Sem.run_pure, part, run_tyAgg hag, if_true, run_tySize hn]
        · cases h
      · rename_i n hag hn
        cases hl : l[fd.offset]? with
        | none => simp [hl] at h
        | some u =>
          simp [hl] at h
          obtain ⟨rfl, rfl⟩ := h
          obtain ⟨y, h4, h5⟩ := h3.get hl
          refine ⟨y, ?_, h5⟩
          have h4' : cs[fd.offset]? = some y := by simpa using h4
          simp only [execOp, hop, h2, Instr.field, Sem.run_bind, run_underlying hu, Result.andThen, hfs, asAgg, Sem.run_pure, part, run_tyAgg hag, Bool.false_eq_true, if_false, h4']
      · cases h
    · cases h
  | indexAddr t x i =>
    rw [hop] at h ev
    simp only [quiet1] at h
    split at h
    · rename_i b lo len s nl k e el he hi hu
      split at h
      · rename_i hs
        simp at h
        obtain ⟨rfl, rfl⟩ := h
        obtain ⟨l, n, h1, h2, h3, h4, h5⟩ := ev (by simp [Op.operands]) he
        obtain ⟨m, h6, h7⟩ := ev (by simp [Op.operands]) hi
        obtain ⟨h8, h9⟩ := inRow_den h6 h2 hp
        rcases h5 with ⟨p, cap, h10, h11, _⟩ | ⟨_, h10, _⟩
        · refine ⟨.pointer (some ⟨p.blk, p.base + (l + m).toNat * s + 0, none⟩), ?_, _, p, den_mkAdd h1 h6, by omega, h10, rfl⟩
          have hlt : 0 ≤ m ∧ m < (n.toNat : Int) := by omega
          simp only [execOp, hop, h7, h11, Instr.indexAt, asIntOf, Sem.run_bind, Sem.run_pure, run_underlying hu, Result.andThen, if_pos hlt, run_tySize hs, addr_add]
          have e1 : (l + m).toNat = l.toNat + m.toNat := by omega
          rw [e1, Nat.add_mul, Nat.add_assoc, Nat.add_zero]
        · omega
      · cases h
    · rename_i b r s k k' xx n el he hi hu
      split at h
      · rename_i z hz
        split at h
        · rename_i hlt
          simp at h
          obtain ⟨rfl, rfl⟩ := h
          obtain ⟨m, p, h2, h3, h4, h5⟩ := ev (by simp [Op.operands]) he
          obtain ⟨m', h6, h7⟩ := ev (by simp [Op.operands]) hi
          have e : m' = xx := by simp [E.den] at h6; exact h6.symm
          subst e
          refine ⟨.pointer (some ⟨p.blk, p.base + m.toNat * s + (k + m'.toNat * z), none⟩), ?_, m, p, h2, h3, h4, rfl⟩
          simp only [execOp, hop, h7, h5, Instr.indexAt, asIntOf, Sem.run_bind, Sem.run_pure, run_underlying hu, Result.andThen, Instr.sureAddr, if_pos hlt, run_tySize hz, addr_add]
          simp [Nat.add_assoc]
        · cases h
      · cases h
    · rename_i b s k k' e n el hov he hi hu
      split at h
      · rename_i z hz
        simp at h
        obtain ⟨rfl, rfl⟩ := h
        obtain ⟨m, p, h2, h3, h4, h5⟩ := ev (by simp [Op.operands]) he
        have hm0 : m = 0 := by simp [E.den] at h2; exact h2.symm
        subst hm0
        obtain ⟨j, h6, h7⟩ := ev (by simp [Op.operands]) hi
        have hlt := inRow_den h6 (show (E.lit n).den I g.env = some (.i n) from rfl) hp
        refine ⟨.pointer (some ⟨p.blk, p.base + j.toNat * z + k, none⟩), ?_, j, p, h6, hlt.1, h4, rfl⟩
        simp only [execOp, hop, h7, h5, Instr.indexAt, asIntOf, Sem.run_bind, Sem.run_pure, run_underlying hu, Result.andThen, Instr.sureAddr, if_pos hlt, run_tySize hz, addr_add]
        rw [show p.base + (0 : Int).toNat * s + k + j.toNat * z = p.base + j.toNat * z + k by simp; omega]
      · cases h
    · rename_i gv k k' xx n el he hi hu
      split at h
      · rename_i z hz
        split at h
        · rename_i hlt
          simp at h
          obtain ⟨rfl, rfl⟩ := h
          have h1 := ev (by simp [Op.operands]) he
          simp only [Rel] at h1
          obtain ⟨m', h6, h7⟩ := ev (by simp [Op.operands]) hi
          have e : m' = xx := by simp [E.den] at h6; exact h6.symm
          subst e
          refine ⟨.pointer (some ⟨gv, k + m'.toNat * z, none⟩), ?_, rfl⟩
          simp only [execOp, hop, h7, h1, Instr.indexAt, asIntOf, Sem.run_bind, Sem.run_pure, run_underlying hu, Result.andThen, Instr.sureAddr, if_pos hlt, run_tySize hz, addr_add]
        · cases h
      · cases h
    · rename_i b k n s k' xx el he hi hu
      split at h
      · rename_i hc
        obtain ⟨hz, h0, hlt⟩ := hc
        simp at h
        obtain ⟨rfl, rfl⟩ := h
        obtain ⟨p, cap, h1, h2, h3⟩ := ev (by simp [Op.operands]) he
        obtain ⟨m', h6, h7⟩ := ev (by simp [Op.operands]) hi
        have e : m' = xx := by simp [E.den] at h6; exact h6.symm
        subst e
        refine ⟨.pointer (some ⟨p.blk, p.base + (0 : Int).toNat * 0 + (k + m'.toNat * s), none⟩), ?_, 0, p, rfl, by omega, h1, rfl⟩
        simp only [execOp, hop, h7, h3, Instr.indexAt, asIntOf, Sem.run_bind, Sem.run_pure, run_underlying hu, Result.andThen, if_pos (show 0 ≤ m' ∧ m' < (n : Int) from ⟨h0, hlt⟩), run_tySize hz, addr_add]
        simp [Nat.add_assoc]
      · cases h
    · cases h
  | index t x i =>
    rw [hop] at h ev
    simp only [quiet1] at h
    split at h
    · rename_i l k j he hi hu
      split at h
      · rename_i h0
        cases hl : l[j.toNat]? with
        | none => simp [hl] at h
        | some b =>
          simp [hl] at h
          obtain ⟨rfl, rfl⟩ := h
          obtain ⟨s, h1, rfl⟩ := ev (by simp [Op.operands]) he
          obtain ⟨m', h6, h7⟩ := ev (by simp [Op.operands]) hi
          have e : m' = j := by simp [E.den] at h6; exact h6.symm
          subst e
          refine ⟨.int .u8 b.toNat, ?_, _, rfl, rfl⟩
          have hb : s[m'.toNat]? = some b := by
            obtain ⟨hlt, hb⟩ := List.getElem?_eq_some_iff.1 hl
            have hlt' : m'.toNat < s.size := by
              have := hlt
              rw [Array.length_toList] at this
              exact this
            rw [getElem?_pos s m'.toNat hlt']
            congr 1
          simp only [execOp, hop, h1, h7, Instr.index, asIntOf, Sem.run_bind, Sem.run_pure, run_underlying hu, Result.andThen, if_pos h0, hb]
      · cases h
    · rename_i l k j n el he hi hu
      split at h
      · rename_i ag z hag hz
        split at h
        · rename_i hlt
          cases hc : cellsAt l (j.toNat * z) z ag with
          | none => simp [hc] at h
          | some u =>
            simp [hc] at h
            obtain ⟨rfl, rfl⟩ := h
            obtain ⟨cs, h1, h2⟩ := ev (by simp [Op.operands]) he
            obtain ⟨m', h6, h7⟩ := ev (by simp [Op.operands]) hi
            have e : m' = j := by simp [E.den] at h6; exact h6.symm
            subst e
            obtain ⟨y, h3, h4⟩ := part_rel (P := P) (w := w) hc h2 hag hz
            refine ⟨y, ?_, h4⟩
            simp only [execOp, hop, h1, h7, Instr.index, asIntOf, Sem.run_bind, Sem.run_pure, run_underlying hu, Result.andThen, if_pos hlt, run_tySize hz, h3]
        · cases h
      · cases h
    · cases h
  | extract x i =>
    rw [hop] at h ev
    simp only [quiet1] at h
    split at h
    · rename_i l he
      cases hl : l[i]? with
      | none => simp [hl] at h
      | some u =>
        simp [hl] at h
        obtain ⟨rfl, rfl⟩ := h
        obtain ⟨cs, h2, h3⟩ := ev (by simp [Op.operands]) he
        obtain ⟨y, h4, h5⟩ := h3.get hl
        have h4' : cs[i]? = some y := by simpa using h4
        exact ⟨y, by simp [execOp, hop, h2, Instr.extract, h4'], h5⟩
    · cases h
  | slice t x lo hi mx =>
    rw [hop] at h ev
    simp only [quiet1] at h
    split at h
    · rename_i u el he hu
      split at h
      · rename_i b lo' len s nl y
        split at h
        · rename_i k e sz hy hs
          simp at h
          obtain ⟨rfl, rfl⟩ := h
          obtain ⟨l, n, h1, h2, h3, h4, h5⟩ := ev (by simp [Op.operands]) he
          obtain ⟨m, h6, h7⟩ := ev (by simp [Op.operands]) hy
          have h8 := le_den (show (E.lit 0).den I g.env = some (.i 0) from rfl) h6 (hp _ (by simp))
          have h9 := le_den h6 h2 (hp _ (by simp))
          rcases h5 with ⟨p, cap, h10, h11, h12, h13⟩ | ⟨h10, h11, ad, h12⟩
          · refine ⟨.slice (some ⟨p.blk, p.base + l.toNat * s, none⟩) m.toNat cap, ?_, l, m, h1, h6, h3, h8, .inl ⟨p, cap, h10, rfl, by omega, h13⟩⟩
            have := run_slice (w := w) hu hs (ad := some ⟨p.blk, p.base + l.toNat * s, none⟩) (len := n.toNat) (cap := cap) (lo := none) (hi := some (.int k m)) (mx := none) (a := none) (h := some m) (m := none) rfl ⟨k, rfl⟩ rfl (by simp) (by simp) (by simpa using h8) (by simp; omega) (by simp)
            simp only [Option.getD_none, Option.getD_some, Int.toNat_zero, Nat.zero_mul, Nat.sub_zero, Int.toNat_natCast] at this
            simp only [execOp, hop, h11, Option.map_some, Option.map_none, h7, Sem.run_bind, this, Result.andThen]
            simp [Addr.add]
          · subst h11
            have hm0 : m = 0 := by omega
            subst hm0
            refine ⟨.slice ad 0 0, ?_, l, 0, h1, h6, h3, h8, .inr ⟨h10, rfl, ad, rfl⟩⟩
            have := run_slice (w := w) hu hs (ad := ad) (len := 0) (cap := 0) (lo := none) (hi := some (.int k 0)) (mx := none) (a := none) (h := some 0) (m := none) rfl ⟨k, rfl⟩ rfl (by simp) (by simp) (by simp) (by simp) (by simp)
            simp only [Option.getD_none, Option.getD_some, Int.toNat_zero, Nat.zero_mul, Nat.sub_zero, Int.toNat_natCast] at this
            simp only [execOp, hop, h12, Option.map_some, Option.map_none, h7, Sem.run_bind, this, Result.andThen]
            simp
        · cases h
      · split at h
        · rename_i ca ch cm ha hh hm'
          obtain ⟨z, h1, h2⟩ := sliceAV_run (w := w) hu (ev (by simp [Op.operands]) he) (litOp_rel ht ha fun t' e => hx t' (by rw [hop]; simp [Op.operands, e]))
            (litOp_rel ht hh fun t' e => hx t' (by rw [hop]; simp [Op.operands, e])) (litOp_rel ht hm' fun t' e => hx t' (by rw [hop]; simp [Op.operands, e])) h hp
          exact ⟨z, by simp only [execOp, hop, Sem.run_bind, h1, Result.andThen]; rfl, h2⟩
        · cases h
    · rename_i u n el he hu
      split at h
      · rename_i ca ch cm ha hh hm'
        obtain ⟨z, h1, h2⟩ := sliceArr_run (w := w) hu (ev (by simp [Op.operands]) he) (litOp_rel ht ha fun t' e => hx t' (by rw [hop]; simp [Op.operands, e]))
          (litOp_rel ht hh fun t' e => hx t' (by rw [hop]; simp [Op.operands, e])) (litOp_rel ht hm' fun t' e => hx t' (by rw [hop]; simp [Op.operands, e])) h
        exact ⟨z, by simp only [execOp, hop, Sem.run_bind, h1, Result.andThen]; rfl, h2⟩
      · cases h
    · cases h
  | build t parts =>
    rw [hop] at h
    simp only [quiet1] at h
    split at h
    · rename_i hbig
      split at h
      · rename_i b l fs hb hl hu
        have hbt : b.t = t := by
          have := List.find?_some (show kn.bigs.find? (fun b => b.t == t) = some b from hb)
          simpa using this
        subst hbt
        split at h
        · rename_i pre post pl hz hpl
          cases hf : fillBig (fun i => pl[i]?) (b.n * b.ks.length) pre post l with
          | none => simp [hf] at h
          | some q =>
            obtain ⟨l', m'⟩ := q
            simp [hf] at h
            obtain ⟨rfl, rfl⟩ := h
            obtain ⟨ti, cs, xs, ys, zs, _, _, hcs, hzr, hzrel, hyl, hys⟩ := zeroBig_spec hz
            obtain ⟨h1, h2, h3⟩ := evalParts_rel (a := a) ht hl fun t' ht' => hx t' (by rw [hop]; simpa [Op.operands] using ht')
            obtain ⟨ds, xs', zs', h4, h5, h6, h7⟩ := fillBig_rel (qs := parts.toList.map fun x => (x.1, a.eval x.2)) (cs := cs) (by simpa [Function.comp_def] using h1) (by simpa [Function.comp_def] using h2) h3 (hzrel I g).1 (hzrel I g).2 hcs hyl hf
            refine ⟨.agg ds, ?_, fun _ _ => 0, xs', ys, zs', rfl, ?_, h6, h7, hyl, hys⟩
            · have hpm : (fs.mapM fun f => (do pure (f.offset, ← sizeOf f.type) : Sem (Nat × Nat))).run P w = .ok pl.toArray w := by
                rw [Array.mapM_eq_mapM_toList]
                simp only [Sem.run_map, run_places fs.toList hpl w, Result.andThen]
              have h4' : Instr.fill (fun x => pl.toArray[x]?) cs (parts.map fun x => (x.1, a.eval x.2)).toList = some ds := by
                rw [← h4]; congr 1
                · funext i; simp
                · simp
              simp only [execOp, hop, Instr.build, Sem.run_bind, hzr, run_underlying hu, Result.andThen, hpm, Value.cells]
              rw [h4']
              rfl
            · congr 1
              rw [← h5]
        · cases h
      · rename_i b n el hb hl hu
        have hbt : b.t = t := by
          have := List.find?_some (show kn.bigs.find? (fun b => b.t == t) = some b from hb)
          simpa using this
        subst hbt
        split at h
        · rename_i hsome
          obtain ⟨sz, hsz⟩ := Option.isSome_iff_exists.1 hsome
          cases hz : zeroBig P b with
          | none => simp [hz] at h
          | some q =>
            obtain ⟨l', m'⟩ := q
            simp [hz] at h
            obtain ⟨rfl, rfl⟩ := h
            obtain ⟨ti, cs, xs, ys, zs, _, _, hcs, hzr, hzrel, hyl, hys⟩ := zeroBig_spec hz
            have hnil : parts = #[] := by
              have := (evalParts_rel (a := a) ht hl fun t' ht' => hx t' (by rw [hop]; simpa [Op.operands] using ht')).1
              simp at this
              exact this
            subst hnil
            refine ⟨.agg cs, ?_, fun _ _ => 0, xs, ys, zs, rfl, ?_, (hzrel I g).1, (hzrel I g).2, hyl, hys⟩
            · have e : ((#[] : Array (Nat × Operand)).map fun x => (x.1, a.eval x.2)).toList = [] := by simp
              simp only [execOp, hop, Instr.build, Sem.run_bind, hzr, run_underlying hu, Result.andThen, run_tySize hsz, Value.cells]
              rw [e]
              rfl
            · congr 1
              rw [← hcs]
        · cases h
      · cases h
    split at h
    · rename_i z l fs hz hl hu
      split at h
      · rename_i pl hpl
        cases hf : fillAV (fun i => pl[i]?) z.cells l with
        | none => simp [hf] at h
        | some m =>
          simp [hf] at h
          obtain ⟨rfl, rfl⟩ := h
          obtain ⟨ti, zx, _, _, hzr, hzrel⟩ := zeroAV_rel hz
          obtain ⟨h1, h2, h3⟩ := evalParts_rel (a := a) ht hl fun t' ht' => hx t' (by rw [hop]; simpa [Op.operands] using ht')
          obtain ⟨ds, h4, h5⟩ := fill_rel (qs := parts.toList.map fun x => (x.1, a.eval x.2)) (cs := zx.cells) (by simpa [Function.comp_def] using h1) (by simpa [Function.comp_def] using h2) h3 (hzrel I g).2 hf
          refine ⟨.agg ds, ?_, ds, rfl, h5⟩
          have hpm : (fs.mapM fun f => (do pure (f.offset, ← sizeOf f.type) : Sem (Nat × Nat))).run P w = .ok pl.toArray w := by
            rw [Array.mapM_eq_mapM_toList]
            simp only [Sem.run_map, run_places fs.toList hpl w, Result.andThen]
          have h4' : Instr.fill (fun x => pl.toArray[x]?) zx.cells (parts.map fun x => (x.1, a.eval x.2)).toList = some ds := by
            rw [← h4]; congr 1
            · funext i; simp
            · simp
          simp only [execOp, hop, Instr.build, Sem.run_bind, hzr, run_underlying hu, Result.andThen, hpm]
          rw [h4']
          rfl
      · cases h
    · rename_i z l len el hz hl hu
      split at h
      · rename_i sz hsz
        cases hf : fillAV (fun i => some (i * sz, sz)) z.cells l with
        | none => simp [hf] at h
        | some m =>
          simp [hf] at h
          obtain ⟨rfl, rfl⟩ := h
          obtain ⟨ti, zx, _, _, hzr, hzrel⟩ := zeroAV_rel hz
          obtain ⟨h1, h2, h3⟩ := evalParts_rel (a := a) ht hl fun t' ht' => hx t' (by rw [hop]; simpa [Op.operands] using ht')
          obtain ⟨ds, h4, h5⟩ := fill_rel (qs := parts.toList.map fun x => (x.1, a.eval x.2)) (cs := zx.cells) (by simpa [Function.comp_def] using h1) (by simpa [Function.comp_def] using h2) h3 (hzrel I g).2 hf
          refine ⟨.agg ds, ?_, ds, rfl, h5⟩
          have h4' : Instr.fill (fun i => some (i * sz, sz)) zx.cells (parts.map fun x => (x.1, a.eval x.2)).toList = some ds := by
            rw [← h4]; congr 1
            simp
          simp only [execOp, hop, Instr.build, Sem.run_bind, hzr, run_underlying hu, Result.andThen, run_tySize hsz]
          rw [h4']
          rfl
      · cases h
    · cases h
  | call c =>
    rw [hop] at h ev
    obtain ⟨callee, args, argTypes⟩ := c
    cases callee with
    | builtin b =>
      cases b with
      | len =>
        simp only [quiet1] at h
        split at h
        · rename_i y t ha hat
          have ha' := toList_one ha
          have hat' := toList_one hat
          subst ha'; subst hat'
          split at h
          · rename_i b' lo len s nl el he hu
            simp at h
            obtain ⟨rfl, rfl⟩ := h
            obtain ⟨l, n, h1, h2, h3, h4, h5⟩ := ev (by simp [Op.operands, Call.operands]) he
            refine ⟨.int .i64 n, ?_, n, h2, rfl⟩
            rcases h5 with ⟨p, cap, _, h11, _⟩ | ⟨_, h11, ad, h12⟩
            · simp [execOp, hop, resolve, invoke, builtin, Builtin.len_, run_underlying hu, Result.andThen, h11, goInt]
              omega
            · subst h11
              cases ad <;> simp [execOp, hop, resolve, invoke, builtin, Builtin.len_, run_underlying hu, Result.andThen, h12, goInt]
          · rename_i el he hu
            simp at h
            obtain ⟨rfl, rfl⟩ := h
            have h1 := ev (by simp [Op.operands, Call.operands]) he
            simp only [Rel] at h1
            exact ⟨.int .i64 0, by simp [execOp, hop, resolve, invoke, builtin, Builtin.len_, run_underlying hu, Result.andThen, h1, goInt], 0, rfl, rfl⟩
          · rename_i el he hu
            simp at h
            obtain ⟨rfl, rfl⟩ := h
            obtain ⟨ad, h1⟩ := ev (by simp [Op.operands, Call.operands]) he
            exact ⟨.int .i64 0, by simp [execOp, hop, resolve, invoke, builtin, Builtin.len_, run_underlying hu, Result.andThen, h1, goInt], 0, rfl, rfl⟩
          · rename_i el he hu
            simp at h
            obtain ⟨rfl, rfl⟩ := h
            obtain ⟨ad, c, h1⟩ := ev (by simp [Op.operands, Call.operands]) he
            exact ⟨.int .i64 0, by simp [execOp, hop, resolve, invoke, builtin, Builtin.len_, run_underlying hu, Result.andThen, h1, goInt], 0, rfl, rfl⟩
          · rename_i b' k n s el he hu
            simp at h
            obtain ⟨rfl, rfl⟩ := h
            obtain ⟨p, c, h0, h2, h1⟩ := ev (by simp [Op.operands, Call.operands]) he
            exact ⟨.int .i64 n, by simp [execOp, hop, resolve, invoke, builtin, Builtin.len_, run_underlying hu, Result.andThen, h1, goInt], n, rfl, rfl⟩
          · rename_i l he hu
            simp at h
            obtain ⟨rfl, rfl⟩ := h
            obtain ⟨s, h1, rfl⟩ := ev (by simp [Op.operands, Call.operands]) he
            refine ⟨.int .i64 s.size, by simp [execOp, hop, resolve, invoke, builtin, Builtin.len_, run_underlying hu, Result.andThen, h1, goInt], _, rfl, ?_⟩
            show Value.int .i64 ((s.size : Nat) : Int) = Value.int .i64 ((s.data.toList.length : Nat) : Int)
            rw [Array.length_toList]
            rfl
          · cases h
        · cases h
      | cap =>
        simp only [quiet1] at h
        split at h
        · rename_i y t ha hat
          have ha' := toList_one ha
          have hat' := toList_one hat
          subst ha'; subst hat'
          split at h
          · rename_i el he hu
            simp at h
            obtain ⟨rfl, rfl⟩ := h
            have h1 := ev (by simp [Op.operands, Call.operands]) he
            simp only [Rel] at h1
            exact ⟨.int .i64 0, by simp [execOp, hop, resolve, invoke, builtin, Builtin.cap_, run_underlying hu, Result.andThen, h1, goInt], 0, rfl, rfl⟩
          · rename_i el he hu
            simp at h
            obtain ⟨rfl, rfl⟩ := h
            obtain ⟨ad, h1⟩ := ev (by simp [Op.operands, Call.operands]) he
            exact ⟨.int .i64 0, by simp [execOp, hop, resolve, invoke, builtin, Builtin.cap_, run_underlying hu, Result.andThen, h1, goInt], 0, rfl, rfl⟩
          · cases h
        · cases h
      | min =>
        simp only [quiet1] at h
        split at h
        · rename_i y z ha
          have ha' := toList_two ha
          subst ha'
          split at h
          · rename_i k e k' e' he he'
            split at h
            · rename_i hk
              subst hk
              simp at h
              obtain ⟨rfl, rfl⟩ := h
              obtain ⟨n, h1, h2⟩ := ev (by simp [Op.operands, Call.operands]) he
              obtain ⟨n', h3, h4⟩ := ev (by simp [Op.operands, Call.operands]) he'
              refine ⟨.int k (if n' < n then n' else n), ?_, _, den_mkBin h1 h3, rfl⟩
              simp [execOp, hop, resolve, invoke, builtin, Builtin.min_, Builtin.min2, h2, h4]
            · cases h
          · cases h
        · cases h
      | max =>
        simp only [quiet1] at h
        split at h
        · rename_i y z ha
          have ha' := toList_two ha
          subst ha'
          split at h
          · rename_i k e k' e' he he'
            split at h
            · rename_i hk
              subst hk
              simp at h
              obtain ⟨rfl, rfl⟩ := h
              obtain ⟨n, h1, h2⟩ := ev (by simp [Op.operands, Call.operands]) he
              obtain ⟨n', h3, h4⟩ := ev (by simp [Op.operands, Call.operands]) he'
              refine ⟨.int k (if n' > n then n' else n), ?_, _, den_mkBin h1 h3, rfl⟩
              simp [execOp, hop, resolve, invoke, builtin, Builtin.max_, Builtin.max2, h2, h4]
            · cases h
          · cases h
        · cases h
      | _ => simp [quiet1] at h
    | _ => simp [quiet1] at h
  | _ => rw [hop] at h; simp [quiet1] at h
end Go.Sx
