/-
  Strings; parts whose bounds are no constants: the second half of the operations that leave memory alone. Conditions: none.
-/
import Derived.Test.YtbcclmpmljpbcaaGreatDoorSxOps
import Derived.Laws.IdiomStrings
import Derived.Laws.Strings
noncomputable section
namespace Go.Sx
open Go

variable {A : Amb} {I : Itp} {P : Program} {g : G} {X : Nat → Prop} {ts : Tmps} {a : Act} {M : Mem} {w : World}

/-! ### Two strings -/

section
variable {env : List D} {t u : E} {f h : Int → Nat → Int}

theorem teqLit_den (ht : t.den I env = some (.t f)) (hu : u.den I env = some (.t h)) : ∀ k : Nat, (teqLit t u k).den I env = some (.i (if ((List.range k).all fun i => f i 0 == h i 0) = true then 1 else 0))
  | 0 => by simp [teqLit, E.den]
  | k + 1 => by
    have h1 := teqLit_den ht hu k
    have h2 := den_mkBin (o := .eq) (den_mkSel (c := 0) ht (show (E.lit (k : Int)).den I env = some (.i k) from rfl)) (den_mkSel (c := 0) hu (show (E.lit (k : Int)).den I env = some (.i k) from rfl))
    rw [teqLit, den_mkBin (o := .and) h1 h2]
    simp only [BO.ev, List.range_succ, List.all_append, List.all_cons, List.all_nil, Bool.and_true, Bool.and_eq_true, beq_iff_eq]
    by_cases h3 : ((List.range k).all fun i => f i 0 == h i 0) = true <;> by_cases h4 : f k 0 = h k 0 <;> simp [h3, h4]

theorem mkTeq_den {n m : E} {x y : Int} (ht : t.den I env = some (.t f)) (hn : n.den I env = some (.i x)) (hu : u.den I env = some (.t h)) (hm : m.den I env = some (.i y)) :
    (mkTeq t n u m).den I env = some (.i (strEq f x h y)) := by
  unfold mkTeq
  split
  · rename_i p q
    simp [E.den] at hn hm
    subst hn; subst hm
    split
    · rename_i hne; simp [strEq, hne, E.den]
    · rename_i he
      have he : p = q := Decidable.not_not.1 he
      subst he
      split
      · rw [teqLit_den ht hu]; simp only [strEq, true_and]
      · simp [E.den, ht, hu]
  · simp [E.den, ht, hu, hn, hm]
end

theorem asStr_rel {v : AV} {x : Value} {t n : E} (h : v.asStr = some (t, n)) (hv : Rel I g v x) : Rel I g (.strT t n) x := by
  cases v with
  | str l =>
    simp only [AV.asStr, Option.some.injEq, Prod.mk.injEq] at h
    obtain ⟨rfl, rfl⟩ := h
    obtain ⟨s, h1, h2⟩ := hv
    obtain ⟨f, h3, h4⟩ := strTab_den (I := I) (env := g.env) l
    exact ⟨f, _, s, h3, rfl, h1, by rw [h2], fun i b hb => h4 i b (by rw [← h2]; exact hb)⟩
  | strT t' n' =>
    simp only [AV.asStr, Option.some.injEq, Prod.mk.injEq] at h
    obtain ⟨rfl, rfl⟩ := h
    exact hv
  | _ => simp [AV.asStr] at h

theorem strEq_lists {f h : Int → Nat → Int} {l m : List UInt8} (hf : ∀ (i : Nat) (b : UInt8), l[i]? = some b → f i 0 = b.toNat) (hh : ∀ (i : Nat) (b : UInt8), m[i]? = some b → h i 0 = b.toNat) :
    strEq f l.length h m.length = if l = m then 1 else 0 := by
  unfold strEq
  by_cases he : l = m
  · subst he
    rw [if_pos, if_pos rfl]
    refine ⟨rfl, ?_⟩
    rw [List.all_eq_true]
    intro i hi
    have hi : i < l.length := by simpa using hi
    simp only [beq_iff_eq]
    rw [hf i l[i] (List.getElem?_eq_getElem hi), hh i l[i] (List.getElem?_eq_getElem hi)]
  · rw [if_neg, if_neg he]
    rintro ⟨h1, h2⟩
    apply he
    have hlen : l.length = m.length := by omega
    refine List.ext_getElem hlen fun i h3 h4 => ?_
    rw [List.all_eq_true] at h2
    have := h2 i (by simpa using h3)
    simp only [beq_iff_eq] at this
    rw [hf i l[i] (List.getElem?_eq_getElem h3), hh i m[i] (List.getElem?_eq_getElem h4)] at this
    exact UInt8.toNat_inj.1 (by omega)

theorem guard_str {o : BinOp} {t : TypeId} {x y : ByteArray} {ox oy : Operand} : (eqGuard o t ox oy (.string x) (.string y)).run P w = .ok () w := by
  cases o <;> rfl
theorem run_str_eql {t : TypeId} {x y : ByteArray} : (binOp .eql t (.string x) (.string y)).run P w = .ok (.bool (decide (x.data.toList = y.data.toList))) w := by
  simp only [binOp, Op.stringOp, Sem.run_pure, ByteArray.toList_eq]
  congr 2
  by_cases h : x.data.toList = y.data.toList
  · rw [h]; simp
  · rw [beq_eq_false_iff_ne.2 h]; simp only [decide_eq_false h]
theorem run_str_neq {t : TypeId} {x y : ByteArray} : (binOp .neq t (.string x) (.string y)).run P w = .ok (.bool (!decide (x.data.toList = y.data.toList))) w := by
  simp only [binOp, Op.stringOp, Sem.run_pure, ByteArray.toList_eq]
  congr 2
  by_cases h : x.data.toList = y.data.toList
  · rw [h]; simp
  · rw [beq_eq_false_iff_ne.2 h]; simp only [decide_eq_false h]
theorem run_str_add {t : TypeId} {x y : ByteArray} (h : x.data.toList.length + y.data.toList.length ≤ 1000000) : (binOp .add t (.string x) (.string y)).run P w = .ok (.string (x ++ y)) w := by
  have h1 : x.size = x.data.toList.length := by rw [Array.length_toList]; rfl
  have h2 : y.size = y.data.toList.length := by rw [Array.length_toList]; rfl
  have h3 : ¬ (((x.size + y.size : Nat) : Int) > IntKind.i64.max) := by
    rw [h1, h2]
    have : IntKind.i64.max = 9223372036854775807 := by rfl
    omega
  simp only [binOp, Op.stringOp, if_neg h3, Sem.run_pure]

theorem app_toList (x y : ByteArray) : (x ++ y).data.toList = x.data.toList ++ y.data.toList := by
  have : (x ++ y).data = x.data ++ y.data := ByteArray.data_append
  rw [this, Array.toList_append]

theorem strBin_run {o : BinOp} {t : TypeId} {v u z : AV} {x y : Value} {ps : List PE} (h : strBin o v u = some (z, ps)) (hp : ∀ q ∈ ps, q.den I g.env)
    (hx : Rel I g v x) (hy : Rel I g u y) (ox oy : Operand) (w : World) : ∃ r, (do eqGuard o t ox oy x y; binOp o t x y : Sem Value).run P w = .ok r w ∧ Rel I g z r := by
  unfold strBin at h
  split at h
  · rename_i l m
    obtain ⟨s1, rfl, h1⟩ := hx
    obtain ⟨s2, rfl, h2⟩ := hy
    split at h
    · simp at h; obtain ⟨rfl, rfl⟩ := h
      refine ⟨_, run_bin guard_str run_str_eql, _, rfl, ?_⟩
      rw [h1, h2]; by_cases he : l = m <;> simp [he]
    · simp at h; obtain ⟨rfl, rfl⟩ := h
      refine ⟨_, run_bin guard_str run_str_neq, _, rfl, ?_⟩
      rw [h1, h2]; by_cases he : l = m <;> simp [he]
    · split at h
      · rename_i hlen
        simp at h; obtain ⟨rfl, rfl⟩ := h
        exact ⟨_, run_bin guard_str (run_str_add (by rw [h1, h2]; exact hlen)), _, rfl, by rw [app_toList, h1, h2]⟩
      · cases h
    · cases h
  · split at h
    · rename_i t1 n1 u1 m1 hv hu
      obtain ⟨f1, k1, s1, e1, e2, rfl, e3, e4⟩ := asStr_rel hv hx
      obtain ⟨f2, k2, s2, d1, d2, rfl, d3, d4⟩ := asStr_rel hu hy
      have heq := mkTeq_den e1 e2 d1 d2
      rw [e3, d3, strEq_lists e4 d4] at heq
      split at h
      · simp at h; obtain ⟨rfl, rfl⟩ := h
        refine ⟨_, run_bin guard_str run_str_eql, _, heq, ?_⟩
        by_cases he : s1.data.toList = s2.data.toList <;> simp [he]
      · simp at h; obtain ⟨rfl, rfl⟩ := h
        refine ⟨_, run_bin guard_str run_str_neq, _, den_mkBin (o := .eq) heq (show (E.lit 0).den I g.env = some (.i 0) from rfl), ?_⟩
        by_cases he : s1.data.toList = s2.data.toList <;> simp [he, BO.ev]
      · simp at h; obtain ⟨rfl, rfl⟩ := h
        have hle := le_den (den_mkAdd e2 d2) (show (E.lit 1000000).den I g.env = some (.i 1000000) from rfl) (hp _ (by simp))
        refine ⟨_, run_bin guard_str (run_str_add (by omega)), tcat f1 k1 f2, _, _, by simp only [E.den, e1, e2, d1], den_mkAdd e2 d2, rfl, by rw [app_toList, List.length_append]; omega, fun i b hb => ?_⟩
        rw [app_toList] at hb
        simp only [tcat]
        by_cases hi : i < s1.data.toList.length
        · rw [List.getElem?_append_left hi] at hb
          rw [if_pos (by omega)]; exact e4 i b hb
        · rw [List.getElem?_append_right (by omega)] at hb
          rw [if_neg (by omega), ← d4 _ b hb]
          congr 1; omega
      · cases h
    · cases h

/-! ### Structs in structs -/

theorem eqFs_run {eq : TypeId → AV → AV → Option E} {d : Nat} (xs ys : Array Value) {l m : List AV} (hl : Rels I g l xs.toList) (hm : Rels I g m ys.toList)
    (heq : ∀ (t : TypeId) (v u : AV) (e : E) (x y : Value), eq t v u = some e → Rel I g v x → Rel I g u y → ∃ n : Int, e.den I g.env = some (.i n) ∧ (n = 0 ∨ n = 1) ∧ (Op.equalIn d t x y).run P w = .ok (decide (n ≠ 0)) w) :
    ∀ (fs : List Field) (e : E), eqFs P eq l m fs = some e →
    ∃ n : Int, e.den I g.env = some (.i n) ∧ (n = 0 ∨ n = 1) ∧ (forIn fs (none, ()) (eqBody d xs ys)).run P w = .ok (if n = 0 then some false else none, ()) w := by
  intro fs
  induction fs with
  | nil => intro e he; simp [eqFs] at he; subst he; exact ⟨1, rfl, .inr rfl, rfl⟩
  | cons f fs ih =>
    intro e he
    simp only [eqFs] at he
    split at he
    · cases he
    rename_i hname
    split at he
    · rename_i ag n hag hn
      split at he
      · rename_i v u hv hu
        split at he
        · rename_i e1 e2 h1 h2
          simp at he; subst he
          obtain ⟨x, hx, hrx⟩ := part_rel (P := P) (w := w) hv hl hag hn
          obtain ⟨y, hy, hry⟩ := part_rel (P := P) (w := w) hu hm hag hn
          obtain ⟨n1, k1, k2, k3⟩ := heq _ _ _ _ _ _ h1 hrx hry
          obtain ⟨n2, j1, j2, j3⟩ := ih e2 h2
          refine ⟨_, den_mkBin k1 j1, and01 _ _, ?_⟩
          have step : (forIn (f :: fs) (none, ()) (eqBody d xs ys)).run P w = if n1 = 0 then .ok (some false, ()) w else (forIn fs (none, ()) (eqBody d xs ys)).run P w := by
            simp only [List.forIn_cons, eqBody, if_neg hname, Sem.run_bind, hx, hy, Result.andThen, k3]
            rcases k2 with rfl | rfl <;> rfl
          rw [step, j3]
          rcases k2 with rfl | rfl <;> rcases j2 with rfl | rfl <;> simp [BO.ev]
        · cases he
      · cases he
    · cases he

abbrev elBody (d : Nat) (el : TypeId) (n : Nat) (xs ys : Array Value) : Nat → Option Bool × Unit → Sem (ForInStep (Option Bool × Unit)) := fun i _ => do
  let __do_lift ← part el xs (i * n)
  let __do_lift_1 ← part el ys (i * n)
  let __do_lift_2 ← Op.equalIn d el __do_lift __do_lift_1
  if (!__do_lift_2) = true then pure (ForInStep.done (some false, ())) else do pure (ForInStep.yield (none, ()))
theorem eqEls_run {eq : AV → AV → Option E} {d : Nat} {el : TypeId} {n : Nat} {ag : Bool} (xs ys : Array Value) {l m : List AV} (hl : Rels I g l xs.toList) (hm : Rels I g m ys.toList) (hag : tyAgg P el = some ag) (hn : tySize P el = some n)
    (heq : ∀ (v u : AV) (e : E) (x y : Value), eq v u = some e → Rel I g v x → Rel I g u y → ∃ n : Int, e.den I g.env = some (.i n) ∧ (n = 0 ∨ n = 1) ∧ (Op.equalIn d el x y).run P w = .ok (decide (n ≠ 0)) w) :
    ∀ (k i : Nat) (e : E), eqEls eq l m n ag i k = some e →
    ∃ r : Int, e.den I g.env = some (.i r) ∧ (r = 0 ∨ r = 1) ∧ (forIn (List.range' i k 1) (none, ()) (elBody d el n xs ys)).run P w = .ok (if r = 0 then some false else none, ()) w := by
  intro k
  induction k with
  | zero => intro i e he; simp [eqEls] at he; subst he; exact ⟨1, rfl, .inr rfl, rfl⟩
  | succ k ih =>
    intro i e he
    simp only [eqEls] at he
    split at he
    · rename_i v u hv hu
      split at he
      · rename_i e1 e2 h1 h2
        simp at he; subst he
        obtain ⟨x, hx, hrx⟩ := part_rel (P := P) (w := w) hv hl hag hn
        obtain ⟨y, hy, hry⟩ := part_rel (P := P) (w := w) hu hm hag hn
        obtain ⟨n1, k1, k2, k3⟩ := heq _ _ _ _ _ h1 hrx hry
        obtain ⟨n2, j1, j2, j3⟩ := ih _ e2 h2
        refine ⟨_, den_mkBin k1 j1, and01 _ _, ?_⟩
        have step : (forIn (List.range' i (k + 1) 1) (none, ()) (elBody d el n xs ys)).run P w = if n1 = 0 then .ok (some false, ()) w else (forIn (List.range' (i + 1) k 1) (none, ()) (elBody d el n xs ys)).run P w := by
          simp only [List.range'_succ, List.forIn_cons, elBody, Sem.run_bind, hx, hy, Result.andThen, k3]
          rcases k2 with rfl | rfl <;> rfl
        rw [step, j3]
        rcases k2 with rfl | rfl <;> rcases j2 with rfl | rfl <;> simp [BO.ev]
      · cases he
    · cases he

theorem eq01 (x y : Int) : BO.eq.ev x y = 0 ∨ BO.eq.ev x y = 1 := by simp only [BO.ev]; split <;> simp
theorem eqAV_run : ∀ (d : Nat) (t : TypeId) (v u : AV) (e : E) (x y : Value), eqAV P d t v u = some e → Rel I g v x → Rel I g u y →
    ∃ n : Int, e.den I g.env = some (.i n) ∧ (n = 0 ∨ n = 1) ∧ ∀ k, (Op.equalIn (d + k) t x y).run P w = .ok (decide (n ≠ 0)) w
  | 0, _, _, _, _, _, _, h, _, _ => by simp [eqAV] at h
  | d + 1, t, v, u, e, x, y, h, hx, hy => by
    simp only [eqAV] at h
    split at h
    · rename_i q hq
      split at h
      · rename_i k a k' b
        split at h
        · rename_i hk; subst hk
          simp at h; subst h
          obtain ⟨na, hna, rfl⟩ := hx
          obtain ⟨nb, hnb, rfl⟩ := hy
          refine ⟨_, den_mkBin hna hnb, eq01 _ _, fun j => ?_⟩
          rw [show d + 1 + j = (d + j) + 1 by omega]
          simp only [Op.equalIn, Sem.run_bind, run_underlying hq, Result.andThen]
          by_cases hab : na = nb <;> simp [BO.ev, hab, Sem.run_pure]
        · cases h
      · cases h
    · rename_i hq
      split at h
      · rename_i a b
        simp at h; subst h
        obtain ⟨na, hna, rfl⟩ := hx
        obtain ⟨nb, hnb, rfl⟩ := hy
        refine ⟨_, den_mkBin (den_mkBin hna (show (E.lit 0).den I g.env = some (.i 0) from rfl)) (den_mkBin hnb (show (E.lit 0).den I g.env = some (.i 0) from rfl)), eq01 _ _, fun j => ?_⟩
        rw [show d + 1 + j = (d + j) + 1 by omega]
        simp only [Op.equalIn, Sem.run_bind, run_underlying hq, Result.andThen]
        by_cases ha : na = 0 <;> by_cases hb : nb = 0 <;> simp [BO.ev, ha, hb, Sem.run_pure]
      · cases h
    · rename_i hq
      have fin : ∀ (s1 s2 : ByteArray) (j : Nat), (Op.equalIn (d + 1 + j) t (.string s1) (.string s2)).run P w = .ok (decide (s1.data.toList = s2.data.toList)) w := fun s1 s2 j => by
        rw [show d + 1 + j = (d + j) + 1 by omega]
        simp only [Op.equalIn, Sem.run_bind, run_underlying hq, Result.andThen, Sem.run_pure]
        congr 1
        have e : (s1 == s2) = (s1.data == s2.data) := by cases s1; cases s2; rfl
        rw [e]
        by_cases he : s1.data.toList = s2.data.toList
        · rw [decide_eq_true he, beq_iff_eq]
          exact Array.toList_inj.1 he
        · rw [decide_eq_false he, beq_eq_false_iff_ne]
          exact fun e => he (by rw [e])
      split at h
      · rename_i l m
        simp at h; subst h
        obtain ⟨s1, rfl, h1⟩ := hx
        obtain ⟨s2, rfl, h2⟩ := hy
        refine ⟨_, rfl, by split <;> simp, fun j => ?_⟩
        rw [fin, h1, h2]
        by_cases he : l = m <;> simp [he]
      · split at h
        · rename_i t1 n1 u1 m1 hv hu
          simp at h; subst h
          obtain ⟨f1, k1, s1, e1, e2, rfl, e3, e4⟩ := asStr_rel hv hx
          obtain ⟨f2, k2, s2, d1, d2, rfl, d3, d4⟩ := asStr_rel hu hy
          have heq := mkTeq_den e1 e2 d1 d2
          rw [e3, d3, strEq_lists e4 d4] at heq
          refine ⟨_, heq, by split <;> simp, fun j => ?_⟩
          rw [fin]
          by_cases he : s1.data.toList = s2.data.toList <;> simp [he]
        · split at h
          · rename_i ca cb hv hu
            simp at h; subst h
            obtain ⟨n1, e1, rfl⟩ := code_rel hv hx
            obtain ⟨n2, e2, rfl⟩ := code_rel hu hy
            refine ⟨_, den_mkBin (o := .eq) e1 e2, eq01 _ _, fun j => ?_⟩
            unfold sval
            rw [fin]
            simp only [BO.ev]
            by_cases he : n1 = n2
            · simp [he]
            · have : ¬ sdec n1 = sdec n2 := fun hh => he (sdec_inj hh)
              simp [he, this]
          · cases h
    · rename_i fs hq
      split at h
      · rename_i l m
        split at h
        · rename_i hst
          obtain ⟨cs, rfl, hl⟩ := hx
          obtain ⟨ds, rfl, hm⟩ := hy
          have key : ∀ j, ∃ n : Int, e.den I g.env = some (.i n) ∧ (n = 0 ∨ n = 1) ∧ (Op.equalIn (d + 1 + j) t (.agg cs) (.agg ds)).run P w = .ok (decide (n ≠ 0)) w := by
            intro j
            obtain ⟨n, h1, h2, h3⟩ := eqFs_run (P := P) (w := w) (d := d + j) cs ds hl hm (fun t v u e x y h hx hy => by
              obtain ⟨n, k1, k2, k3⟩ := eqAV_run d t v u e x y h hx hy
              exact ⟨n, k1, k2, k3 j⟩) fs.toList e h
            refine ⟨n, h1, h2, ?_⟩
            rw [show d + 1 + j = (d + j) + 1 by omega]
            have h4 : (Op.equalIn ((d + j) + 1) t (.agg cs) (.agg ds)).run P w = ((forIn fs (none, ()) (eqBody (d + j) cs ds)).run P w).andThen fun a w' => (match a.fst with
                | some r => (Pure.pure r : Sem Bool)
                | none => Pure.pure true).run P w' := by
              rw [Op.equalIn.eq_def]
              simp only [Sem.run_bind, run_underlying hq, Result.andThen, run_program, hst]
              simp
              have hb' : ∀ (b b' : Field → Option Bool × Unit → Sem (ForInStep (Option Bool × Unit))), b = b' → ∀ (K : Result (Option Bool × Unit) → Prop), K ((forIn fs (none, ()) b' : Sem _).run P w) → K ((forIn fs (none, ()) b : Sem _).run P w) := fun b b' e K h => by rw [e]; exact h
              refine hb' _ (eqBody (d + j) cs ds) ?_ (fun q => q.andThen _ = _) (by rcases (forIn fs (none, ()) (eqBody (d + j) cs ds) : Sem _).run P w with ⟨⟨_ | _, _⟩, _⟩ | _ <;> rfl)
              funext f s
              simp only [eqBody]
            rw [h4, ← Array.forIn_toList, h3]
            rcases h2 with rfl | rfl <;> rfl
          obtain ⟨n, h1, h2, _⟩ := key 0
          refine ⟨n, h1, h2, fun j => ?_⟩
          obtain ⟨n', h3, _, h4⟩ := key j
          rw [h1] at h3; cases h3
          exact h4
        · cases h
      · cases h
    · rename_i len el hq
      split at h
      · rename_i l m
        split at h
        · rename_i ag sz hag hn
          obtain ⟨cs, rfl, hl⟩ := hx
          obtain ⟨ds, rfl, hm⟩ := hy
          have key : ∀ j, ∃ n : Int, e.den I g.env = some (.i n) ∧ (n = 0 ∨ n = 1) ∧ (Op.equalIn (d + 1 + j) t (.agg cs) (.agg ds)).run P w = .ok (decide (n ≠ 0)) w := by
            intro j
            obtain ⟨n, h1, h2, h3⟩ := eqEls_run (P := P) (w := w) (d := d + j) cs ds hl hm hag hn (fun v u e x y h hx hy => by
              obtain ⟨n, k1, k2, k3⟩ := eqAV_run d el v u e x y h hx hy
              exact ⟨n, k1, k2, k3 j⟩) len 0 e h
            refine ⟨n, h1, h2, ?_⟩
            rw [show d + 1 + j = (d + j) + 1 by omega]
            rw [Op.equalIn.eq_def]
            simp only [Sem.run_bind, run_underlying hq, Result.andThen, run_tySize hn, Std.Legacy.Range.forIn_eq_forIn_range', Std.Legacy.Range.size, Nat.sub_zero, Nat.add_sub_cancel, Nat.div_one]
            have hb' : ∀ (b b' : Nat → Option Bool × Unit → Sem (ForInStep (Option Bool × Unit))), b = b' → ∀ (K : Result (Option Bool × Unit) → Prop), K ((forIn (List.range' 0 len 1) (none, ()) b' : Sem _).run P w) → K ((forIn (List.range' 0 len 1) (none, ()) b : Sem _).run P w) := fun b b' e K h => by rw [e]; exact h
            generalize hbody : (fun (i : Nat) (r : Option Bool × Unit) => _ : Nat → Option Bool × Unit → Sem (ForInStep (Option Bool × Unit))) = body
            obtain rfl : body = elBody (d + j) el sz cs ds := by subst hbody; funext f s; simp only [elBody]
            rw [h3]
            rcases h2 with rfl | rfl <;> rfl
          obtain ⟨n, h1, h2, _⟩ := key 0
          refine ⟨n, h1, h2, fun j => ?_⟩
          obtain ⟨n', h3, _, h4⟩ := key j
          rw [h1] at h3; cases h3
          exact h4
        · cases h
      · cases h
    · cases h

theorem aggBin_run {o : BinOp} {t : TypeId} {v u z : AV} {x y : Value} {ps : List PE} (h : aggBin P o t v u = some (z, ps))
    (hx : Rel I g v x) (hy : Rel I g u y) (ox oy : Operand) (w : World) : ∃ r, (do eqGuard o t ox oy x y; binOp o t x y : Sem Value).run P w = .ok r w ∧ Rel I g z r := by
  unfold aggBin at h
  split at h
  · rename_i l m
    split at h
    · rename_i hgd
      have hx0 := hx
      have hy0 := hy
      obtain ⟨cs, rfl, _⟩ := hx0
      obtain ⟨ds, rfl, _⟩ := hy0
      have fin : ∀ {e : E}, eqAV P 20 t (.agg l) (.agg m) = some e → ∃ n : Int, e.den I g.env = some (.i n) ∧ EqRun P w t (.agg cs) (.agg ds) n := fun he => by
        obtain ⟨n, h1, _, h2⟩ := eqAV_run 20 t _ _ _ _ _ he hx hy
        exact ⟨n, h1, .of_equal (fun op ox oy => by cases op <;> simp [eqGuard, Result.andThen, hgd]) rfl rfl (h2 9980)⟩
      split at h
      · rename_i e he
        simp at h; obtain ⟨rfl, rfl⟩ := h
        obtain ⟨n, h1, h2⟩ := fin he
        exact ⟨_, run_bin (h2.guard _ _ _) h2.eql, n, h1, rfl⟩
      · rename_i e he
        simp at h; obtain ⟨rfl, rfl⟩ := h
        obtain ⟨n, h1, h2⟩ := fin he
        refine ⟨_, run_bin (h2.guard _ _ _) h2.neq, _, den_mkBin h1 (show (E.lit 0).den I g.env = some (.i 0) from rfl), ?_⟩
        by_cases hn : n = 0 <;> simp [BO.ev, hn]
      · cases h
    · cases h
  · cases h

/-! ### Bytes as a string -/

theorem litBytes_spec {t : E} {f : Int → Nat → Int} {env : List D} (ht : t.den I env = some (.t f)) : ∀ {k : Nat} {l : List UInt8}, litBytes t k = some l → l.length = k ∧ ∀ (i : Nat) (b : UInt8), l[i]? = some b → f i 0 = b.toNat
  | 0, l, h => by simp [litBytes] at h; subst h; simp
  | k + 1, l, h => by
    simp only [litBytes] at h
    split at h
    · rename_i l0 x h1 h2
      split at h
      · rename_i hx
        simp at h; subst h
        obtain ⟨h3, h4⟩ := litBytes_spec ht h1
        refine ⟨by simp [h3], fun i b hb => ?_⟩
        by_cases hi : i < l0.length
        · rw [List.getElem?_append_left hi] at hb; exact h4 i b hb
        · rw [List.getElem?_append_right (by omega)] at hb
          have hik : i - l0.length = 0 := by
            have := (List.getElem?_eq_some_iff.1 hb).1
            simp at this; omega
          rw [hik] at hb
          simp at hb; subst hb
          have hik : i = k := by omega
          subst hik
          have h5 := den_mkSel (c := 0) ht (show (E.lit (i : Int)).den I env = some (.i i) from rfl)
          rw [h2] at h5
          simp [E.den] at h5
          rw [← h5, UInt8.toNat_ofNat']
          omega
      · cases h
    · cases h

/-- The bytes of the first rows. -/
theorem toStr_rel {t n : E} {f : Int → Nat → Int} {k : Int} (ht : t.den I g.env = some (.t f)) (hn : n.den I g.env = some (.i k)) (hk : 0 ≤ k) (hp : ∀ q ∈ (toStr t n).2, q.den I g.env) :
    ∃ bs : List UInt8, (bs.length : Int) = k ∧ (∀ (i : Nat) (b : UInt8), bs[i]? = some b → f i 0 = b.toNat) ∧ ∀ s : ByteArray, s.data.toList = bs → Rel I g (toStr t n).1 (.string s) := by
  have sym : (PE.byt t n).den I g.env → ∃ bs : List UInt8, (bs.length : Int) = k ∧ (∀ (i : Nat) (b : UInt8), bs[i]? = some b → f i 0 = b.toNat) ∧ ∀ s : ByteArray, s.data.toList = bs → Rel I g (.strT t n) (.string s) := by
    rintro ⟨f', k', h1, h2, h3⟩
    rw [ht] at h1; cases h1
    rw [hn] at h2; cases h2
    have hb : ∀ (i : Nat) (b : UInt8), ((List.range k.toNat).map fun (i : Nat) => UInt8.ofNat (f i 0).toNat)[i]? = some b → f i 0 = b.toNat := fun i b hb => by
      simp only [List.getElem?_map, Option.map_eq_some_iff] at hb
      obtain ⟨j, hj, rfl⟩ := hb
      obtain ⟨hlt, hj⟩ := List.getElem?_eq_some_iff.1 hj
      simp at hj hlt; subst hj
      have := h3 i (by omega)
      rw [UInt8.toNat_ofNat']
      omega
    refine ⟨_, by simp; omega, hb, fun s hs => ⟨f, k, s, ht, hn, rfl, by rw [hs]; simp; omega, by rw [hs]; exact hb⟩⟩
  unfold toStr at hp ⊢
  split at hp
  · rename_i m
    simp [E.den] at hn; subst hn
    split at hp
    · rename_i hc
      split at hp
      · rename_i l hl
        obtain ⟨h1, h2⟩ := litBytes_spec ht hl
        rw [if_pos hc]
        exact ⟨l, by omega, h2, fun s hs => ⟨s, rfl, hs⟩⟩
      · rename_i hl
        rw [if_pos hc]
        exact sym (hp _ (by simp))
    · rename_i hc
      rw [if_neg hc]
      exact sym (hp _ (by simp))
  · exact sym (hp _ (by simp))

theorem mkSh_den {env : List D} {t n : E} {f : Int → Nat → Int} {x : Int} (ht : t.den I env = some (.t f)) (hn : n.den I env = some (.i x)) : (mkSh t n).den I env = some (.t fun r c => f (r + x) c) := by
  unfold mkSh
  split
  · simp [E.den] at hn; subst hn; simpa using ht
  · simp [E.den, ht, hn]

theorem bytesStr_run {src dst el : TypeId} (hs : P.underlying src = some (.slice el)) (he : P.underlying el = some (.int .u8)) (hd : P.underlying dst = some .string) (hm : MRel A I P g M w) {v z : AV} {x : Value} {ps : List PE}
    (h : bytesStr M v = some (z, ps)) (hp : ∀ q ∈ ps, q.den I g.env) (hx : Rel I g v x) : ∃ r, (convert src dst x).run P w = .ok r w ∧ Rel I g z r := by
  have none0 : ∀ c d : Nat, ∃ s : ByteArray, (convert src dst (.slice none c d)).run P w = .ok (.string s) w ∧ s.data.toList = [] := fun c d => by
    rw [run_convert_bytes_string w src dst el none c d hs he hd]
    exact ⟨_, rfl, rfl⟩
  have some0 : ∀ (ad : Addr) (d : Nat), ∃ s : ByteArray, (convert src dst (.slice (some ad) 0 d)).run P w = .ok (.string s) w ∧ s.data.toList = [] := fun ad d =>
    ⟨_, run_convert_bytes_back w src dst el ad d [] hs he hd (fun j hj => by simp at hj), rfl⟩
  unfold bytesStr at h
  split at h
  · simp at h; obtain ⟨rfl, rfl⟩ := h
    simp only [Rel] at hx; subst hx
    obtain ⟨s, h1, h2⟩ := none0 0 0
    exact ⟨_, h1, s, rfl, h2⟩
  · simp at h; obtain ⟨rfl, rfl⟩ := h
    obtain ⟨ad, rfl⟩ := hx
    obtain ⟨s, h1, h2⟩ := some0 ad 0
    exact ⟨_, h1, s, rfl, h2⟩
  · simp at h; obtain ⟨rfl, rfl⟩ := h
    obtain ⟨ad, rfl⟩ := hx
    cases ad with
    | none => obtain ⟨s, h1, h2⟩ := none0 0 0; exact ⟨_, h1, s, rfl, h2⟩
    | some ad => obtain ⟨s, h1, h2⟩ := some0 ad 0; exact ⟨_, h1, s, rfl, h2⟩
  · simp at h; obtain ⟨rfl, rfl⟩ := h
    obtain ⟨ad, c, rfl⟩ := hx
    obtain ⟨s, h1, h2⟩ := some0 ad c
    exact ⟨_, h1, s, rfl, h2⟩
  · rename_i b lo n s nl
    split at h
    · rename_i ks t len wr nl2 hb
      split at h
      · rename_i hc
        obtain ⟨rfl, rfl⟩ := hc
        simp at h; obtain ⟨rfl, rfl⟩ := h
        obtain ⟨f, m, hf, hm2, hm0, hrow⟩ := hm.blk _ _ hb
        obtain ⟨l, k, h1, h2, h3, h4, h5⟩ := hx
        have hle := le_den (den_mkAdd h1 h2) hm2 (hp _ (by simp))
        obtain ⟨bs, k1, k2, k3⟩ := toStr_rel (mkSh_den hf h1) h2 h4 (fun q hq => hp q (by simp [hq]))
        have hlen : bs.length = k.toNat := by omega
        rcases h5 with ⟨p, cap, h6, rfl, h8, h9⟩ | ⟨_, h6, ad, rfl⟩
        · have hcell : ∀ (j : Nat) (hj : j < bs.length), w.cell? ((⟨p.blk, p.base + l.toNat * 1, none⟩ : Addr).add j) = some (.int .u8 (bs[j].toNat : Int)) := fun j hj => by
            rcases hrow with ⟨p', c, T, fr, hp', hh, hcs, _⟩ | ⟨_, hz, hno⟩
            · rw [h6] at hp'; cases hp'
              have := hcs (l.toNat + j) 0 (.int .u8) (by omega) rfl
              rw [addr_add, cell_cells hh]
              have e : p.base + l.toNat * 1 + j = p.base + (l.toNat + j) * [CK.int IntKind.u8].length + 0 := by simp; omega
              rw [e, this]
              have hb := k2 j bs[j] (List.getElem?_eq_getElem hj)
              have e2 : (((l.toNat + j : Nat) : Int)) = (j : Int) + l := by omega
              rw [e2, ← hb]; rfl
            · rw [h6] at hno; cases hno
          have hrun := run_convert_bytes_back w src dst el ⟨p.blk, p.base + l.toNat * 1, none⟩ cap bs hs he hd hcell
          rw [hlen] at hrun
          exact ⟨_, hrun, k3 _ rfl⟩
        · subst h6
          have hbs : bs = [] := List.length_eq_zero_iff.1 (by omega)
          subst hbs
          cases ad with
          | none => obtain ⟨s, h1, h2⟩ := none0 0 0; exact ⟨_, h1, k3 s h2⟩
          | some ad => obtain ⟨s, h1, h2⟩ := some0 ad 0; exact ⟨_, h1, k3 s h2⟩
      · cases h
    · cases h
  · cases h

/-! ### Parts -/

theorem intOp_rel (ht : TRel I g X ts a.tmps) {o : Option Operand} {e : Option E} (h : intOp ts o = some e) (hx : ∀ t, o = some (.tmp t) → ¬ X t) :
    ∃ c : Option Int, OptLit (o.map a.eval) c ∧ (c.isSome = e.isSome) ∧ ∀ (d : E) (m : Int), d.den I g.env = some (.i m) → (e.getD d).den I g.env = some (.i (c.getD m)) := by
  cases o with
  | none =>
    simp [intOp] at h; subst h
    exact ⟨none, rfl, rfl, fun d m hd => hd⟩
  | some y =>
    simp only [intOp] at h
    split at h
    · rename_i k e' he
      simp at h; subst h
      obtain ⟨m, h1, h2⟩ := evalOp_rel ht he fun t e => hx t (by rw [e])
      exact ⟨some m, ⟨k, by simp [h2]⟩, rfl, fun _ _ _ => h1⟩
    · cases h

theorem sliceSym_run {t el : TypeId} {b : Nat} {l len : E} {s : Nat} {nl : Bool} (hu : P.underlying t = some (.slice el)) (hs : tySize P el = some s) {v : AV} {y : Value} {lo hi : Option Value} {ea eh : Option E} {ca ch : Option Int} {ps : List PE}
    (hr : Rel I g (.slice b l len s nl) y) (ha : OptLit lo ca) (hh : OptLit hi ch)
    (hea : ∀ (d : E) (m : Int), d.den I g.env = some (.i m) → (ea.getD d).den I g.env = some (.i (ca.getD m))) (heh : ∀ (d : E) (m : Int), d.den I g.env = some (.i m) → (eh.getD d).den I g.env = some (.i (ch.getD m)))
    (h : sliceSym (.slice b l len s nl) ea eh = some (v, ps)) (hp : ∀ q ∈ ps, q.den I g.env) :
    ∃ z, (Instr.sliceAt t y lo hi none).run P w = .ok z w ∧ Rel I g v z := by
  simp only [sliceSym, Option.some.injEq, Prod.mk.injEq] at h
  obtain ⟨rfl, rfl⟩ := h
  obtain ⟨l', n, hl, hn, hl0, hn0, hcase⟩ := hr
  have hA := hea (.lit 0) 0 rfl
  have hH := heh len n hn
  have h1 := le_den (show (E.lit 0).den I g.env = some (.i 0) from rfl) hA (hp _ (by simp))
  have h2 := le_den hA hH (hp _ (by simp))
  have h3 := le_den hH hn (hp _ (by simp))
  have hnn : ch.getD ((n.toNat : Nat) : Int) = ch.getD n := by rw [Int.toNat_of_nonneg hn0]
  rcases hcase with ⟨p, cap, h5, rfl, h6, h7⟩ | ⟨h5, h6, ad, rfl⟩
  · refine ⟨_, run_slice hu hs ha hh (show OptLit none none from rfl) (by simp) h1 (by rw [hnn]; exact h2) (by rw [hnn]; simp; omega) (by simp), ?_⟩
    rw [hnn]
    simp only [Option.getD_none, Int.toNat_natCast]
    by_cases hc : cap = (ca.getD 0).toNat
    · rw [if_pos hc]
      refine ⟨l' + ca.getD 0, ch.getD n - ca.getD 0, den_mkAdd hl hA, den_mkSub hH hA, by omega, by omega, .inr ⟨rfl, by omega, some ⟨p.blk, p.base + l'.toNat * s, none⟩, ?_⟩⟩
      rw [show (ch.getD n).toNat - (ca.getD 0).toNat = 0 by omega, show cap - (ca.getD 0).toNat = 0 by omega]
    · rw [if_neg hc]
      refine ⟨l' + ca.getD 0, ch.getD n - ca.getD 0, den_mkAdd hl hA, den_mkSub hH hA, by omega, by omega, .inl ⟨p, cap - (ca.getD 0).toNat, h5, ?_, by omega, Nat.le_trans (Nat.mul_le_mul_right _ (by omega)) h7⟩⟩
      simp only [Option.map_some, addr_add]
      congr 1
      · rw [show (l' + ca.getD 0).toNat = l'.toNat + (ca.getD 0).toNat by omega, Nat.add_mul, Nat.add_assoc]
      · omega
  · refine ⟨_, run_slice hu hs ha hh (show OptLit none none from rfl) (by simp) h1 (by simp; rw [h6] at h2; exact h2) (by simp; rw [h6] at h3; exact h3) (by simp), ?_⟩
    have e1 : ca.getD 0 = 0 := by omega
    have e2 : ch.getD 0 = 0 := by rw [h6] at h2 h3; omega
    refine ⟨l' + ca.getD 0, ch.getD n - ca.getD 0, den_mkAdd hl hA, den_mkSub hH hA, by omega, by rw [h6]; omega, .inr ⟨rfl, by rw [h6]; omega, ad, ?_⟩⟩
    simp [e1, e2]

/-! ### All of them -/

/-! ### Maps -/

theorem checkKey_flat {t : TypeId} {d : TypeDesc} (hu : P.underlying t = some d) (hd : d = .string ∨ ∃ k, d = .int k) (em : Bool) (n : Nat) (x : Value) : (Instr.checkKey em (n + 1) t x).run P w = .ok () w := by
  unfold Instr.checkKey
  simp only [Sem.run_bind, run_underlying hu, Result.andThen]
  rcases hd with rfl | ⟨k, rfl⟩ <;> cases x <;> rfl
theorem forIn_unit {α : Type} {body : α → PUnit → Sem (ForInStep PUnit)} : ∀ {l : List α}, (∀ f ∈ l, (body f ⟨⟩).run P w = .ok (.yield ⟨⟩) w) → (forIn l ⟨⟩ body : Sem PUnit).run P w = .ok ⟨⟩ w
  | [], _ => rfl
  | f :: l, h => by
    rw [List.forIn_cons, Sem.run_bind, h f (by simp)]
    exact forIn_unit fun f hf => h f (by simp [hf])
theorem checkKey_run {t : TypeId} {v : AV} {x : Value} (h : keyOk P t v = true) (hx : Rel I g v x) (em : Bool) (n : Nat) : (Instr.checkKey em (n + 2) t x).run P w = .ok () w := by
  unfold keyOk at h
  split at h
  · rename_i hu
    exact checkKey_flat hu (.inl rfl) em (n + 1) x
  · rename_i k hu
    exact checkKey_flat hu (.inr ⟨_, rfl⟩) em (n + 1) x
  · rename_i fs l hu
    obtain ⟨cs, rfl, hl⟩ := hx
    simp only [Bool.and_eq_true] at h
    have hf : ∀ f ∈ fs.toList, (do
        let y ← part f.type cs f.offset
        Instr.checkKey em (n + 1) f.type y : Sem Unit).run P w = .ok () w ∧ f.name ≠ "_" := by
      intro f hf
      have := List.all_eq_true.1 h.2 f hf
      simp only [fieldFlat, Bool.and_eq_true, beq_iff_eq, bne_iff_ne, ne_eq, decide_eq_true_eq] at this
      obtain ⟨⟨⟨⟨h1, h2⟩, h3⟩, h4⟩, h5⟩ := this
      refine ⟨?_, h1⟩
      obtain ⟨y, hy, _⟩ := part_rel (P := P) (w := w) (i := f.offset) (show cellsAt l f.offset 1 false = some l[f.offset] by simp [cellsAt, h5]) hl h3 h4
      rw [Sem.run_bind, hy]
      simp only [Result.andThen]
      split at h2
      · rename_i hq
        exact checkKey_flat hq (.inl rfl) em n y
      · rename_i hq
        exact checkKey_flat hq (.inr ⟨_, rfl⟩) em n y
      · cases h2
    unfold Instr.checkKey
    simp only [Sem.run_bind, run_underlying hu, Result.andThen, ← Array.forIn_toList]
    have hb : ∀ (b : Field → PUnit → Sem (ForInStep PUnit)), (∀ f ∈ fs.toList, (b f ⟨⟩).run P w = .ok (.yield ⟨⟩) w) → ((forIn fs.toList ⟨⟩ b : Sem PUnit).run P w).andThen (fun _ w => (pure () : Sem Unit).run P w) = .ok () w := fun b hb => by rw [forIn_unit hb]; rfl
    refine hb _ fun f hm => ?_
    obtain ⟨h1, h2⟩ := hf f hm
    rw [Sem.run_bind] at h1
    simp only [if_pos h2, Sem.run_bind]
    revert h1
    cases (part f.type cs f.offset).run P w with
    | ok y w' => intro h1; simp only [Result.andThen] at h1 ⊢; rw [h1]; rfl
    | _ => intro h1; cases h1
  · cases h

theorem equal_run {t : TypeId} {v u : AV} {e : E} {x y : Value} (h : eqAV P 20 t v u = some e) (hx : Rel I g v x) (hy : Rel I g u y) :
    ∃ n : Int, e.den I g.env = some (.i n) ∧ (Op.equal t x y).run P w = .ok (decide (n ≠ 0)) w := by
  obtain ⟨n, h1, _, h2⟩ := eqAV_run 20 t v u e x y h hx hy (w := w)
  exact ⟨n, h1, h2 9980⟩

theorem find_run {t : TypeId} {k : AV} {x : Value} (hx : Rel I g k x) : ∀ {l : List AV} {es : List MapEntry} {i : Nat} {r : Option Nat}, mapFind P t k l i = some r → Rels I g l (es.map (·.key)) →
    match r with
    | none => (Instr.findAsking t x es i).run P w = .ok none w
    | some j => ∃ e, es[j - i]? = some e ∧ i ≤ j ∧ (Instr.findAsking t x es i).run P w = .ok (some (j, e.val)) w
  | [], [], i, r, h, _ => by simp [mapFind] at h; subst h; rfl
  | u :: l, e :: es, i, r, h, hr => by
    simp only [mapFind] at h
    split at h
    · rename_i n hn
      obtain ⟨m, h1, h2⟩ := equal_run (w := w) hn hx hr.1
      simp only [E.den, Option.some.injEq, D.i.injEq] at h1
      subst h1
      split at h
      · rename_i h0
        have ih := find_run hx h hr.2
        have step : (Instr.findAsking t x (e :: es) i).run P w = (Instr.findAsking t x es (i + 1)).run P w := by
          rw [Instr.findAsking, Sem.run_bind, h2]
          simp [Result.andThen, h0]
        cases r with
        | none => simp only at ih ⊢; rw [step]; exact ih
        | some j =>
          simp only at ih ⊢
          obtain ⟨e', k1, k2, k3⟩ := ih
          refine ⟨e', ?_, by omega, by rw [step]; exact k3⟩
          rw [show j - i = (j - (i + 1)) + 1 by omega]
          exact k1
      · rename_i h0
        simp at h; subst h
        refine ⟨e, by simp, Nat.le_refl _, ?_⟩
        unfold Instr.findAsking
        rw [Sem.run_bind, h2]
        simp [Result.andThen, h0]
    · cases h
  | [], _ :: _, _, _, _, h => by simp [Rels] at h
  | _ :: _, [], _, _, _, h => by simp [Rels] at h

theorem findNow_asking {t : TypeId} {d : TypeDesc} (hu : P.underlying t = some d) {x : Value} : ∀ {es : List MapEntry} {i : Nat} {r : Option (Nat × Value)}, Instr.findNow d x es i = some r → (Instr.findAsking t x es i).run P w = .ok r w
  | [], i, r, h => by simp [Instr.findNow] at h; subst h; rfl
  | e :: es, i, r, h => by
    have heq : ∀ b, Instr.sameNow d x e.key = some b → (Op.equal t x e.key).run P w = .ok b w := by
      intro b hb
      unfold Instr.sameNow at hb
      unfold Op.equal Op.maxDepth
      rw [Op.equalIn.eq_def]
      split at hb
      · rename_i q k a k' a' hx he
        split at hb
        · rename_i hk
          subst hk
          cases hb
          rw [he]
          simp only [Sem.run_bind, run_underlying hu, Result.andThen]
          simp
        · cases hb
      · rename_i hx he
        cases hb
        rw [he]
        simp only [Sem.run_bind, run_underlying hu, Result.andThen, Sem.run_pure]
      · rename_i hx he
        cases hb
        rw [he]
        simp only [Sem.run_bind, run_underlying hu, Result.andThen, Sem.run_pure]
      · cases hb
    unfold Instr.findNow at h
    unfold Instr.findAsking
    rw [Sem.run_bind]
    split at h
    · rename_i hb
      cases h
      rw [heq _ hb]; rfl
    · rename_i hb
      rw [heq _ hb]
      exact findNow_asking hu h
    · cases h

theorem findKey_run {t : TypeId} {k : AV} {x : Value} (hk : keyOk P t k = true) (hx : Rel I g k x) {l : List AV} {es : List MapEntry} {r : Option Nat} (h : mapFind P t k l 0 = some r) (hr : Rels I g l (es.map (·.key))) :
    match r with
    | none => (Instr.findKey t x es).run P w = .ok none w
    | some j => ∃ e, es[j]? = some e ∧ (Instr.findKey t x es).run P w = .ok (some (j, e.val)) w := by
  have hu : ∃ d, P.underlying t = some d := by
    unfold keyOk at hk
    split at hk <;> first | exact ⟨_, by assumption⟩ | cases hk
  obtain ⟨d, hu⟩ := hu
  have h1 := find_run (w := w) hx h hr
  have same : ∀ q, (Instr.findAsking t x es 0).run P w = .ok q w → (Instr.findKey t x es).run P w = .ok q w := by
    intro q hq
    unfold Instr.findKey
    simp only [Sem.run_bind, run_underlying hu, Result.andThen]
    cases hn : Instr.findNow d x es 0 with
    | none => simp only; exact hq
    | some q' =>
      have := findNow_asking (w := w) hu hn
      rw [hq] at this
      cases this
      rfl
  cases r with
  | none => exact same _ h1
  | some j =>
    obtain ⟨e, k1, _, k2⟩ := h1
    exact ⟨e, k1, same _ k2⟩

theorem run_getObj_mp {r : Nat} {es : Array MapEntry} {c : Nat} (h : w.heap[r]? = some (.map es c)) : (getObj r).run P w = .ok (.map es c) w := by
  simp [getObj, Sem.run, h]

/-- What a map holds. -/
theorem mapOf_rel (hm : MRel A I P g M w) {v : AV} {x : Value} {l m : List AV} (h : mapOf M v = some (l, m)) (hx : Rel I g v x) :
    ∃ es : Array MapEntry, Rels I g l (es.toList.map (·.key)) ∧ Rels I g m (es.toList.map (·.val)) ∧ ((x = .map none ∧ es = #[]) ∨ ∃ r c, x = .map (some r) ∧ w.heap[r]? = some (.map es c)) := by
  unfold mapOf at h
  split at h
  · cases h
    simp only [Rel] at hx
    exact ⟨#[], trivial, trivial, .inl ⟨hx, rfl⟩⟩
  · rename_i b
    split at h
    · rename_i l' m' hb
      cases h
      obtain ⟨p, h1, rfl⟩ := hx
      obtain ⟨p', es, c, h2, h3, h4, h5⟩ := hm.blk b _ hb
      rw [h1] at h2; cases h2
      exact ⟨es, h4, h5, .inr ⟨_, c, rfl, h3⟩⟩
    · cases h
  · cases h

theorem lookup_run (hm : MRel A I P g M w) {t kt et : TypeId} (hu : P.underlying t = some (.map kt et)) {v k z : AV} {x y : Value} {ok : Bool} {ps : List PE} (h : lookupAV P M kt et v k ok = some (z, ps)) (hx : Rel I g v x) (hy : Rel I g k y) :
    ∃ r, (Instr.lookup t x y ok).run P w = .ok r w ∧ Rel I g z r := by
  unfold lookupAV at h
  split at h
  · rename_i hk
    split at h
    · rename_i l m hl
      obtain ⟨es, h1, h2, h3⟩ := mapOf_rel hm hl hx
      have hc : (Instr.checkKey es.isEmpty 10000 kt y).run P w = .ok () w := checkKey_run hk hy _ 9998
      have main : ∀ {q : Option (Nat × Value)} {u : Value} {b : Bool}, (Instr.findKey kt y es.toList).run P w = .ok q w →
          (match q with | some (_, u') => u' = u ∧ b = true | none => (zeroValue et).run P w = .ok u w ∧ b = false) →
          (Instr.lookup t x y ok).run P w = .ok (if ok then .tuple #[u, .bool b] else u) w := by
        intro q u b hq hb
        unfold Instr.lookup
        rcases h3 with ⟨rfl, rfl⟩ | ⟨r, c, rfl, hr⟩
        · simp only [Sem.run_bind, run_underlying hu, Result.andThen, Sem.run_pure, hc, hq]
          cases q with
          | none =>
            obtain ⟨hz, rfl⟩ := hb
            simp only [Sem.run_bind, hz, Result.andThen, Sem.run_pure]
          | some q =>
            obtain ⟨rfl, rfl⟩ := hb
            simp only [Sem.run_bind, Sem.run_pure, Result.andThen]
        · simp only [Sem.run_bind, run_underlying hu, Result.andThen, Sem.run_pure, run_getObj_mp hr, hc, hq]
          cases q with
          | none =>
            obtain ⟨hz, rfl⟩ := hb
            simp only [Sem.run_bind, hz, Result.andThen, Sem.run_pure]
          | some q =>
            obtain ⟨rfl, rfl⟩ := hb
            simp only [Sem.run_bind, Sem.run_pure, Result.andThen]
      have one1 : ∀ n : Int, Rel I g (.bool (.lit n)) (.bool (decide (n ≠ 0))) := fun n => ⟨n, rfl, rfl⟩
      split at h
      · rename_i j hj
        obtain ⟨e, k1, k2⟩ := findKey_run (w := w) hk hy hj h1
        cases hmj : m[j]? with
        | none => simp [hmj] at h
        | some u =>
          simp [hmj] at h
          obtain ⟨rfl, rfl⟩ := h
          obtain ⟨xv, e1, e2⟩ := h2.get hmj
          have e3 : xv = e.val := by
            rw [List.getElem?_map, k1] at e1
            simpa using e1.symm
          subst e3
          refine ⟨_, main (b := true) (u := e.val) k2 ⟨rfl, rfl⟩, ?_⟩
          cases ok
          · exact e2
          · exact ⟨_, rfl, e2, one1 1, trivial⟩
      · rename_i hj
        have k2 := findKey_run (w := w) hk hy hj h1
        cases hz : zeroAV P et with
        | none => simp [hz] at h
        | some u =>
          simp [hz] at h
          obtain ⟨rfl, rfl⟩ := h
          obtain ⟨ti, zx, _, _, hzr, hzrel⟩ := zeroAV_rel hz
          refine ⟨_, main (b := false) (u := zx) k2 ⟨hzr w, rfl⟩, ?_⟩
          cases ok
          · exact (hzrel I g).1
          · exact ⟨_, rfl, (hzrel I g).1, one1 0, trivial⟩
      · cases h
    · cases h
  · cases h

theorem ifBin_run {o : BinOp} {t : TypeId} {oy : Operand} {v u z : AV} {x y : Value} {ps : List PE} (h : ifBin P o t oy v u = some (z, ps)) (hx : Rel I g v x) (hy : Rel I g u y) (ox : Operand) (w : World) :
    ∃ r, (do eqGuard o t ox oy x y; binOp o t x y : Sem Value).run P w = .ok r w ∧ Rel I g z r := by
  unfold ifBin at h
  split at h
  · rename_i e c ms hu
    simp only [Rel] at hy
    obtain ⟨n, hn, hx⟩ := hx
    subst hy
    have key : (Op.equal t x .nilIface).run P w = .ok (decide (n = 0)) w := by
      have key : ∀ d, (Op.equalIn (d + 1) t x .nilIface).run P w = .ok (decide (n = 0)) w := fun d => by
        rcases hx with ⟨h0, rfl⟩ | ⟨h0, ty, p, rfl⟩
        · simp only [Op.equalIn, Sem.run_bind, run_underlying hu, Result.andThen, h0]; rfl
        · simp only [Op.equalIn, Sem.run_bind, run_underlying hu, Result.andThen, h0]; rfl
      exact key 9999
    have hg : ∀ o, (eqGuard o t ox (.const c) x .nilIface).run P w = .ok () w := fun o => by
      rcases hx with ⟨h0, rfl⟩ | ⟨h0, ty, p, rfl⟩ <;> cases o <;> simp [eqGuard]
    split at h
    · simp at h; obtain ⟨rfl, rfl⟩ := h
      refine ⟨.bool (decide (n = 0)), run_bin (hg _) ?_, _, den_mkBin (o := .eq) hn (show (E.lit 0).den I g.env = some (.i 0) from rfl), ?_⟩
      · rcases hx with ⟨h0, rfl⟩ | ⟨h0, ty, p, rfl⟩
        · show (do pure (.bool (← Op.equal t .nilIface .nilIface)) : Sem Value).run P w = _
          simp [key, Result.andThen]
        · show (do pure (.bool (← Op.equal t (.iface ty p) .nilIface)) : Sem Value).run P w = _
          simp [key, Result.andThen]
      · by_cases h0 : n = 0 <;> simp [BO.ev, h0]
    · simp at h; obtain ⟨rfl, rfl⟩ := h
      refine ⟨.bool (!decide (n = 0)), run_bin (hg _) ?_, _, den_mkBin (o := .ne) hn (show (E.lit 0).den I g.env = some (.i 0) from rfl), ?_⟩
      · rcases hx with ⟨h0, rfl⟩ | ⟨h0, ty, p, rfl⟩
        · show (do pure (.bool (!(← Op.equal t .nilIface .nilIface))) : Sem Value).run P w = _
          simp [key, Result.andThen]
        · show (do pure (.bool (!(← Op.equal t (.iface ty p) .nilIface))) : Sem Value).run P w = _
          simp [key, Result.andThen]
      · by_cases h0 : n = 0 <;> simp [BO.ev, h0]
    · cases h
  · rename_i c ms hu
    simp only [Rel] at hx hy
    subst hx; subst hy
    have key : (Op.equal t .nilIface .nilIface).run P w = .ok true w := by
      have key : ∀ d, (Op.equalIn (d + 1) t .nilIface .nilIface).run P w = .ok true w := fun d => by
        simp only [Op.equalIn, Sem.run_bind, run_underlying hu, Result.andThen]; rfl
      exact key 9999
    have hg : ∀ o, (eqGuard o t ox (.const c) .nilIface .nilIface).run P w = .ok () w := fun o => by
      cases o <;> simp [eqGuard]
    split at h
    · simp at h; obtain ⟨rfl, rfl⟩ := h
      exact ⟨.bool true, run_bin (hg _) (by show (do pure (.bool (← Op.equal t .nilIface .nilIface)) : Sem Value).run P w = _; simp [key, Result.andThen]), 1, rfl, rfl⟩
    · simp at h; obtain ⟨rfl, rfl⟩ := h
      exact ⟨.bool false, run_bin (hg _) (by show (do pure (.bool (!(← Op.equal t .nilIface .nilIface))) : Sem Value).run P w = _; simp [key, Result.andThen]), 0, rfl, rfl⟩
    · cases h
  · cases h

theorem quiet2_sound {o : Oper} {v : AV} {ps : List PE} (hm : MRel A I P g M w) (ht : TRel I g X ts a.tmps) (hx : ∀ t, .tmp t ∈ o.op.operands.toList → ¬ X t)
    (h : quiet2 P ts M o.op = some (v, ps)) (hp : ∀ q ∈ ps, q.den I g.env) : ∃ x, (execOp a.eval o).run P w = .ok (.value x) w ∧ Rel I g v x := by
  have ev : ∀ {y : Operand} {u : AV}, y ∈ o.op.operands.toList → evalOp ts y = some u → Rel I g u (a.eval y) := fun hy hu => evalOp_rel ht hu fun t e => hx t (e ▸ hy)
  cases hop : o.op with
  | binOp bo t x y yt =>
    rw [hop] at h ev
    simp only [quiet2] at h
    split at h
    · rename_i u u' he he'
      split at h
      · rename_i r0 hr0
        cases h
        obtain ⟨r, h1, h2⟩ := strBin_run (P := P) (t := t) hr0 hp (ev (by simp [Op.operands]) he) (ev (by simp [Op.operands]) he') x y w
        exact ⟨r, by simp only [execOp, hop]; rw [Sem.run_bind, h1]; rfl, h2⟩
      · split at h
        · rename_i r0 hr0
          cases h
          obtain ⟨r, h1, h2⟩ := aggBin_run hr0 (ev (by simp [Op.operands]) he) (ev (by simp [Op.operands]) he') x y w
          exact ⟨r, by simp only [execOp, hop]; rw [Sem.run_bind, h1]; rfl, h2⟩
        · obtain ⟨r, h1, h2⟩ := ifBin_run h (ev (by simp [Op.operands]) he) (ev (by simp [Op.operands]) he') x w
          exact ⟨r, by simp only [execOp, hop]; rw [Sem.run_bind, h1]; rfl, h2⟩
    · cases h
  | convert src dst x =>
    rw [hop] at h ev
    simp only [quiet2] at h
    split at h
    · rename_i u el he hd hs
      split at h
      · rename_i hel
        obtain ⟨r, h1, h2⟩ := bytesStr_run hs hel hd hm h hp (ev (by simp [Op.operands]) he)
        exact ⟨r, by simp only [execOp, hop]; rw [Sem.run_bind, h1]; rfl, h2⟩
      · cases h
    · cases h
  | lookup t x i ok =>
    rw [hop] at h ev
    simp only [quiet2] at h
    split at h
    · rename_i u k kt et he hi hu
      obtain ⟨r, h1, h2⟩ := lookup_run hm hu h (ev (by simp [Op.operands]) he) (ev (by simp [Op.operands]) hi)
      exact ⟨r, by simp only [execOp, hop]; rw [Sem.run_bind, h1]; rfl, h2⟩
    · cases h
  | index t x i =>
    rw [hop] at h ev
    simp only [quiet2] at h
    split at h
    · rename_i tE n k e he hi hu
      simp at h
      obtain ⟨rfl, rfl⟩ := h
      obtain ⟨f, m, s, h1, h2, h3, h4, h5⟩ := ev (by simp [Op.operands]) he
      obtain ⟨j, h6, h7⟩ := ev (by simp [Op.operands]) hi
      obtain ⟨hj0, hjn⟩ := inRow_den h6 h2 hp
      have hlt : j.toNat < s.data.toList.length := by omega
      have hb := h5 j.toNat _ (List.getElem?_eq_getElem hlt)
      refine ⟨.int .u8 ((s.data.toList[j.toNat]).toNat : Int), ?_, _, den_mkSel h1 h6, ?_⟩
      · have hb' : s[j.toNat]? = some (s.data.toList[j.toNat]) := by
          have hlt' : j.toNat < s.size := by rw [Array.length_toList] at hlt; exact hlt
          rw [getElem?_pos s j.toNat hlt']
          congr 1
        simp only [execOp, hop, h3, h7, Instr.index, asIntOf, Sem.run_bind, Sem.run_pure, run_underlying hu, Result.andThen, if_pos hj0, hb']
      · rw [← hb]; congr 2; omega
    · cases h
  | slice t x lo hi mx =>
    rw [hop] at h ev
    cases mx with
    | some m => simp [quiet2] at h
    | none =>
    simp only [quiet2] at h
    split at h
    · rename_i u el ea eh he hu hlo hhi
      split at h
      · rename_i b l len s nl
        split at h
        · rename_i hs
          obtain ⟨ca, k1, _, k2⟩ := intOp_rel ht hlo fun t' e => hx t' (by rw [hop]; simp [Op.operands, e])
          obtain ⟨ch, k3, _, k4⟩ := intOp_rel ht hhi fun t' e => hx t' (by rw [hop]; simp [Op.operands, e])
          obtain ⟨z, h1, h2⟩ := sliceSym_run (w := w) hu hs (ev (by simp [Op.operands]) he) k1 k3 k2 k4 h hp
          exact ⟨z, by simp only [execOp, hop, Option.map_none, Sem.run_bind, h1, Result.andThen]; rfl, h2⟩
        · cases h
      · cases h
    · cases h
  | call c =>
    rw [hop] at h ev
    obtain ⟨callee, args, argTypes⟩ := c
    cases callee with
    | builtin b =>
      cases b with
      | len =>
        simp only [quiet2] at h
        split at h
        · rename_i y t ha hat
          have ha' := toList_one ha
          have hat' := toList_one hat
          subst ha'; subst hat'
          split at h
          · rename_i tE n he hu
            simp at h
            obtain ⟨rfl, rfl⟩ := h
            obtain ⟨f, m, s, h1, h2, h3, h4, h5⟩ := ev (by simp [Op.operands, Call.operands]) he
            refine ⟨.int .i64 s.size, by simp [execOp, hop, resolve, invoke, builtin, Builtin.len_, run_underlying hu, Result.andThen, h3, goInt], _, h2, ?_⟩
            rw [h4, Array.length_toList]
            rfl
          · rename_i el he hu
            simp at h
            obtain ⟨rfl, rfl⟩ := h
            obtain ⟨ad, h1⟩ := ev (by simp [Op.operands, Call.operands]) he
            cases ad <;> exact ⟨.int .i64 0, by simp [execOp, hop, resolve, invoke, builtin, Builtin.len_, run_underlying hu, Result.andThen, h1, goInt], 0, rfl, rfl⟩
          · cases h
        · cases h
      | _ => simp [quiet2] at h
    | _ => simp [quiet2] at h
  | _ => rw [hop] at h; simp [quiet2] at h

/-! ### Strings as numbers -/

theorem extract_toList (s : ByteArray) (l h : Nat) : (s.extract l h).data.toList = (s.data.toList.drop l).take (h - l) := by
  rw [ByteArray.data_extract, Array.toList_extract, List.extract_eq_take_drop]
theorem sval_list {n : Int} {s : ByteArray} (h : Value.string s = sval n) : s.data.toList = sdec n := by
  unfold sval at h; simp only [Value.string.injEq] at h; subst h; simp
theorem size_toList (s : ByteArray) : s.size = s.data.toList.length := by rw [Array.length_toList]; rfl

theorem codeOf {o : Operand} {c : E} (ht : TRel I g X ts a.tmps) (h : (evalOp ts o).bind AV.code = some c) (hx : ∀ t, o = .tmp t → ¬ X t) : ∃ (n : Int) (s : ByteArray), c.den I g.env = some (.i n) ∧ a.eval o = .string s ∧ s.data.toList = sdec n := by
  cases he : evalOp ts o with
  | none => simp [he] at h
  | some v =>
    simp only [he, Option.bind_some] at h
    obtain ⟨n, h1, h2⟩ := code_rel h (evalOp_rel ht he hx)
    exact ⟨n, _, h1, h2, by simp⟩

theorem sliceStr_run {t : TypeId} (hu : P.underlying t = some .string) {v z : AV} {y : Value} {lo hi : Option Value} {ea eh : Option E} {ca ch : Option Int} {ps : List PE}
    (hr : Rel I g v y) (ha : OptLit lo ca) (hh : OptLit hi ch)
    (hea : ∀ (d : E) (m : Int), d.den I g.env = some (.i m) → (ea.getD d).den I g.env = some (.i (ca.getD m))) (heh : ∀ (d : E) (m : Int), d.den I g.env = some (.i m) → (eh.getD d).den I g.env = some (.i (ch.getD m)))
    (h : sliceStr v ea eh = some (z, ps)) (hp : ∀ q ∈ ps, q.den I g.env) :
    ∃ r, (Instr.sliceAt t y lo hi none).run P w = .ok r w ∧ Rel I g z r := by
  unfold sliceStr at h
  split at h
  · rename_i c hc
    simp only [Option.some.injEq, Prod.mk.injEq] at h
    obtain ⟨rfl, rfl⟩ := h
    obtain ⟨n, hn, rfl⟩ := code_rel hc hr
    have hl := den_mkLen hn
    have hA := hea (.lit 0) 0 rfl
    have hH := heh (mkLen c) (slen n) hl
    have h1 := le_den (show (E.lit 0).den I g.env = some (.i 0) from rfl) hA (hp _ (by simp))
    have h2 := le_den hA hH (hp _ (by simp))
    have h3 := le_den hH hl (hp _ (by simp))
    have hsz : (⟨(sdec n).toArray⟩ : ByteArray).size = (sdec n).length := by rw [size_toList]
    have hb := run_bounds (P := P) (w := w) (b := false) (len := (sdec n).length) (cap := (sdec n).length) (m := none) ha hh (show OptLit none none from rfl) (by simp) h1 h2 (by simpa [slen] using h3) (by simp)
    refine ⟨.string ((⟨(sdec n).toArray⟩ : ByteArray).extract (ca.getD 0).toNat (ch.getD (slen n)).toNat), ?_, mkStr_rel (n := ssub n (ca.getD 0) (ch.getD (slen n))) (den_mkS hn hA hH rfl) ?_⟩
    · unfold sval
      simp only [Instr.sliceAt, Instr.slice, Sem.run_bind, run_underlying hu, Result.andThen, Option.isSome_none, Bool.false_eq_true, if_false, hsz, hb, Sem.run_pure]
      rfl
    · exact sval_senc (by rw [extract_toList])
  · cases h

theorem quiet3_sound {o : Oper} {v : AV} {ps : List PE} (ht : TRel I g X ts a.tmps) (hx : ∀ t, .tmp t ∈ o.op.operands.toList → ¬ X t)
    (h : quiet3 P ts o.op = some (v, ps)) (hp : ∀ q ∈ ps, q.den I g.env) : ∃ x, (execOp a.eval o).run P w = .ok (.value x) w ∧ Rel I g v x := by
  have ev : ∀ {y : Operand} {u : AV}, y ∈ o.op.operands.toList → evalOp ts y = some u → Rel I g u (a.eval y) := fun hy hu => evalOp_rel ht hu fun t e => hx t (e ▸ hy)
  have cd : ∀ {y : Operand} {c : E}, y ∈ o.op.operands.toList → (evalOp ts y).bind AV.code = some c → ∃ (n : Int) (s : ByteArray), c.den I g.env = some (.i n) ∧ a.eval y = .string s ∧ s.data.toList = sdec n :=
    fun hy hu => codeOf ht hu fun t e => hx t (e ▸ hy)
  cases hop : o.op with
  | binOp bo t x y yt =>
    rw [hop] at h cd
    simp only [quiet3] at h
    split at h
    · rename_i ca cb he he'
      obtain ⟨n1, s1, e1, x1, l1⟩ := cd (by simp [Op.operands]) he
      obtain ⟨n2, s2, e2, x2, l2⟩ := cd (by simp [Op.operands]) he'
      have key : ∀ {r : Value}, (do eqGuard bo t x y (a.eval x) (a.eval y); binOp bo t (a.eval x) (a.eval y) : Sem Value).run P w = .ok r w → (execOp a.eval o).run P w = .ok (.value r) w := fun hr => by
        simp only [execOp, hop]; rw [Sem.run_bind, hr]; rfl
      rw [x1, x2] at key
      split at h
      · simp only [Option.some.injEq, Prod.mk.injEq] at h; obtain ⟨rfl, rfl⟩ := h
        refine ⟨_, key (run_bin guard_str run_str_eql), _, den_mkBin (o := .eq) e1 e2, ?_⟩
        rw [l1, l2]
        by_cases hn : n1 = n2
        · simp [BO.ev, hn]
        · have : ¬ sdec n1 = sdec n2 := fun hh => hn (sdec_inj hh)
          simp [BO.ev, hn, this]
      · simp only [Option.some.injEq, Prod.mk.injEq] at h; obtain ⟨rfl, rfl⟩ := h
        refine ⟨_, key (run_bin guard_str run_str_neq), _, den_mkBin (o := .ne) e1 e2, ?_⟩
        rw [l1, l2]
        by_cases hn : n1 = n2
        · simp [BO.ev, hn]
        · have : ¬ sdec n1 = sdec n2 := fun hh => hn (sdec_inj hh)
          simp [BO.ev, hn, this]
      · simp only [Option.some.injEq, Prod.mk.injEq] at h; obtain ⟨rfl, rfl⟩ := h
        have hle := le_den (den_mkAdd (den_mkLen e1) (den_mkLen e2)) (show (E.lit 1000000).den I g.env = some (.i 1000000) from rfl) (hp _ (by simp))
        simp only [slen] at hle
        refine ⟨_, key (run_bin guard_str (run_str_add (by rw [l1, l2]; omega))), mkStr_rel (n := scat n1 n2) (den_mkS e1 e2 (show (E.lit 0).den I g.env = some (.i 0) from rfl) rfl) ?_⟩
        exact sval_senc (by rw [app_toList, l1, l2])
      · cases h
    · cases h
  | index t x i =>
    rw [hop] at h ev cd
    simp only [quiet3] at h
    split at h
    · rename_i c k e he hi hu
      simp only [Option.some.injEq, Prod.mk.injEq] at h
      obtain ⟨rfl, rfl⟩ := h
      obtain ⟨n, s, h1, h3, hl⟩ := cd (by simp [Op.operands]) he
      obtain ⟨j, h6, h7⟩ := ev (by simp [Op.operands]) hi
      obtain ⟨hj0, hjn⟩ := inRow_den h6 (den_mkLen h1) hp
      simp only [slen] at hjn
      have hlt : j.toNat < s.data.toList.length := by rw [hl]; omega
      refine ⟨.int .u8 ((s.data.toList[j.toNat]).toNat : Int), ?_, _, den_mkS (n := sbyte n j) h1 h6 (show (E.lit 0).den I g.env = some (.i 0) from rfl) rfl, ?_⟩
      · have hb' : s[j.toNat]? = some (s.data.toList[j.toNat]) := by
          have hlt' : j.toNat < s.size := by rw [Array.length_toList] at hlt; exact hlt
          rw [getElem?_pos s j.toNat hlt']
          congr 1
        simp only [execOp, hop, h3, h7, Instr.index, asIntOf, Sem.run_bind, Sem.run_pure, run_underlying hu, Result.andThen, if_pos hj0, hb']
      · unfold sbyte
        rw [← hl, List.getElem?_eq_getElem hlt]
        rfl
    · cases h
  | slice t x lo hi mx =>
    rw [hop] at h ev
    cases mx with
    | some m => simp [quiet3] at h
    | none =>
    simp only [quiet3] at h
    split at h
    · rename_i u ea eh he hu hlo hhi
      obtain ⟨ca, k1, _, k2⟩ := intOp_rel ht hlo fun t' e => hx t' (by rw [hop]; simp [Op.operands, e])
      obtain ⟨ch, k3, _, k4⟩ := intOp_rel ht hhi fun t' e => hx t' (by rw [hop]; simp [Op.operands, e])
      obtain ⟨z, h1, h2⟩ := sliceStr_run (w := w) hu (ev (by simp [Op.operands]) he) k1 k3 k2 k4 h hp
      exact ⟨z, by simp only [execOp, hop, Option.map_none, Sem.run_bind, h1, Result.andThen]; rfl, h2⟩
    · cases h
  | call c =>
    rw [hop] at h cd
    obtain ⟨callee, args, argTypes⟩ := c
    cases callee with
    | builtin b =>
      cases b with
      | len =>
        simp only [quiet3] at h
        split at h
        · rename_i y t ha hat
          have ha' := toList_one ha
          have hat' := toList_one hat
          subst ha'; subst hat'
          split at h
          · rename_i c he hu
            simp only [Option.some.injEq, Prod.mk.injEq] at h
            obtain ⟨rfl, rfl⟩ := h
            obtain ⟨n, s, h1, h3, hl⟩ := cd (by simp [Op.operands, Call.operands]) he
            refine ⟨.int .i64 s.size, by simp [execOp, hop, resolve, invoke, builtin, Builtin.len_, run_underlying hu, Result.andThen, h3, goInt], _, den_mkLen h1, ?_⟩
            unfold slen
            rw [← hl, size_toList]
          · cases h
        · cases h
      | _ => simp [quiet3] at h
    | _ => simp [quiet3] at h
  | _ => rw [hop] at h; simp [quiet3] at h

theorem asTab_rel {v : AV} {x : Value} {t n : E} (h : v.asTab = some (t, n)) (hv : Rel I g v x) : Rel I g (.strT t n) x := by
  cases v with
  | sat e =>
    simp only [AV.asTab, Option.some.injEq, Prod.mk.injEq] at h
    obtain ⟨rfl, rfl⟩ := h
    obtain ⟨m, h1, rfl⟩ := hv
    refine ⟨stab m, slen m, _, den_fn (j := 6) h1 (show (E.lit 0).den I g.env = some (.i 0) from rfl) (show (E.lit 0).den I g.env = some (.i 0) from rfl) (show (E.lit 0).den I g.env = some (.i 0) from rfl), den_mkLen h1, rfl, rfl, fun i b hb => ?_⟩
    have hb' : (sdec m)[i]? = some b := by simpa using hb
    simp [stab, hb']
  | _ => exact asStr_rel (by simpa only [AV.asTab] using h) hv

theorem quietW_sound {o : Oper} {v : AV} {ps : List PE} (ht : TRel I g X ts a.tmps) (hx : ∀ t, .tmp t ∈ o.op.operands.toList → ¬ X t)
    (h : quietW ts o.op = some (v, ps)) : ∃ x, (execOp a.eval o).run P w = .ok (.value x) w ∧ Rel I g v x := by
  have ev : ∀ {y : Operand} {u : AV}, y ∈ o.op.operands.toList → evalOp ts y = some u → Rel I g u (a.eval y) := fun hy hu => evalOp_rel ht hu fun t e => hx t (e ▸ hy)
  cases hop : o.op with
  | binOp bo t x y yt =>
    rw [hop] at h ev
    have key : ∀ {r : Value}, (do eqGuard bo t x y (a.eval x) (a.eval y); binOp bo t (a.eval x) (a.eval y) : Sem Value).run P w = .ok r w → (execOp a.eval o).run P w = .ok (.value r) w := fun hr => by
      simp only [execOp, hop]; rw [Sem.run_bind, hr]; rfl
    cases bo with
    | add =>
      simp only [quietW] at h
      split at h
      · rename_i k ea k' eb he he'
        split at h
        · rename_i hk
          subst hk
          simp only [Option.some.injEq, Prod.mk.injEq] at h
          obtain ⟨rfl, rfl⟩ := h
          obtain ⟨n1, e1, x1⟩ := ev (by simp [Op.operands]) he
          obtain ⟨n2, e2, x2⟩ := ev (by simp [Op.operands]) he'
          rw [x1, x2] at key
          exact ⟨_, key (run_bin guard_int run_add), _, den_mkWrap (den_mkAdd e1 e2), rfl⟩
        · cases h
      · cases h
    | sub =>
      simp only [quietW] at h
      split at h
      · rename_i k ea k' eb he he'
        split at h
        · rename_i hk
          subst hk
          simp only [Option.some.injEq, Prod.mk.injEq] at h
          obtain ⟨rfl, rfl⟩ := h
          obtain ⟨n1, e1, x1⟩ := ev (by simp [Op.operands]) he
          obtain ⟨n2, e2, x2⟩ := ev (by simp [Op.operands]) he'
          rw [x1, x2] at key
          exact ⟨_, key (run_bin guard_int run_sub), _, den_mkWrap (den_mkSub e1 e2), rfl⟩
        · cases h
      · cases h
    | mul =>
      simp only [quietW] at h
      split at h
      · rename_i k ea k' eb he he'
        split at h
        · rename_i hk
          subst hk
          simp only [Option.some.injEq, Prod.mk.injEq] at h
          obtain ⟨rfl, rfl⟩ := h
          obtain ⟨n1, e1, x1⟩ := ev (by simp [Op.operands]) he
          obtain ⟨n2, e2, x2⟩ := ev (by simp [Op.operands]) he'
          rw [x1, x2] at key
          exact ⟨_, key (run_bin guard_int run_mul), _, den_mkWrap (den_mkBin (o := .mul) e1 e2), rfl⟩
        · cases h
      · cases h
    | _ => simp [quietW] at h
  | _ => rw [hop] at h; simp [quietW] at h

theorem quiet_sound {kn : Kn} {o : Oper} {v : AV} {ps : List PE} (hG : GOk kn.globs A) (hm : MRel A I P g M w) (ht : TRel I g X ts a.tmps) (hx : ∀ t, .tmp t ∈ o.op.operands.toList → ¬ X t)
    (h : quiet P kn ts M o.op = some (v, ps)) (hp : ∀ q ∈ ps, q.den I g.env) : ∃ x, (execOp a.eval o).run P w = .ok (.value x) w ∧ Rel I g v x := by
  unfold quiet at h
  rw [quiet1F_eq, quiet2F_eq, quiet3F_eq] at h
  split at h
  · rename_i r hr
    cases h
    split at hr
    · exact quietW_sound ht hx hr
    · cases hr
  split at h
  · rename_i r hr
    cases h
    exact quiet1_sound hG hm ht hx hr hp
  · split at h
    · rename_i r hr
      cases h
      exact quiet2_sound hm ht hx hr hp
    · exact quiet3_sound ht hx h hp
theorem quiet_defer {kn : Kn} {c : Call} : quiet P kn ts M (.defer c) = none := by
  unfold quiet
  rw [quiet1F_eq, quiet2F_eq, quiet3F_eq]
  cases kn.wrp <;> simp [quietW, quiet1, quiet2, quiet3]
theorem quiet_noDefer {kn : Kn} {o : Oper} {v : AV} {ps : List PE} {c : Call} (hc : o.op = .defer c) (h1 : quiet P kn ts M o.op = some (v, ps)) : False := by
  rw [hc, quiet_defer] at h1
  cases h1
end Go.Sx
