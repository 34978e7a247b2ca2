/-
  Operations that make or write memory, all of them. Conditions: none.
-/
import Derived.Test.YtafipmoglaepcaaSxAppend
namespace Go.Sx
open Go

variable {A : Amb} {I : Itp} {P : Program} {g : G} {X : Nat → Prop} {ts : Tmps} {a : Act} {M : Mem} {w : World}

theorem loud_sound {s : St} {o : Oper} {v : AV} {s1 : St} {ps : List PE} (hs : SRel A I P X g s a w) (hx : ∀ t, .tmp t ∈ o.op.operands.toList → ¬ X t)
    (h : loud P s o.op = some (v, s1, ps)) (hp : ∀ q ∈ ps, q.den I g.env) : LoudRun A I P X g a w o v s1 := by
  have ev : ∀ {y : Operand} {u : AV}, y ∈ o.op.operands.toList → evalOp s.tmps y = some u → Rel I g u (a.eval y) := fun hy hu => evalOp_rel hs.t hu fun t e => hx t (e ▸ hy)
  cases hop : o.op with
  | alloc t =>
    rw [hop] at h
    simp only [loud] at h
    split at h
    · rename_i z hz
      simp at h
      obtain ⟨rfl, rfl, rfl⟩ := h
      exact alloc_loud hs hop hz
    · cases h
  | box t x =>
    rw [hop] at h ev
    simp only [loud] at h
    split at h
    · rename_i u hu
      split at h
      · simp at h
        obtain ⟨rfl, rfl, rfl⟩ := h
        exact box_loud hs hop (ev (by simp [Op.operands]) hu) (evalOp_ne hu)
      · cases h
    · cases h
  | store t y x =>
    rw [hop] at h ev
    simp only [loud] at h
    split at h
    · rename_i b r z k u n hy hu hn
      split at h
      · rename_i hl
        cases hst : storeAt s.mem b r z k u.cells with
        | none => simp [hst] at h
        | some q =>
          obtain ⟨M', ps'⟩ := q
          simp [hst] at h
          obtain ⟨rfl, rfl, rfl⟩ := h
          exact store_loud hs hop (ev (by simp [Op.operands]) hy) (ev (by simp [Op.operands]) hu) (evalOp_ne hu) hn hl hst hp
      · cases h
    · cases h
  | buildSlice t n parts =>
    rw [hop] at h
    simp only [loud] at h
    split at h
    · rename_i el hu
      split at h
      · rename_i z sz l hz hsz hl
        split at h
        · rename_i hc
          split at h
          · rename_i vs hf
            split at h
            · simp at h
              obtain ⟨rfl, rfl, rfl⟩ := h
              exact buildSlice_loud hs hop hx hu hz hsz hl hc.1 hc.2 hf
            · cases h
          · cases h
        · cases h
      · cases h
    · cases h
  | makeSlice t l c =>
    rw [hop] at h ev
    simp only [loud] at h
    split at h
    · rename_i el k1 x k2 y hu hl hc
      split at h
      · rename_i z sz bytes hz hsz hb
        split at h
        · rename_i hcond
          obtain ⟨h0, rfl, h1, h2, h3⟩ := hcond
          split at h
          · rename_i ks hks
            split at h
            · rename_i haz
              simp at h
              obtain ⟨rfl, rfl, rfl⟩ := h
              exact makeSlice_loud hs hop hu (ev (by simp [Op.operands]) hl) (ev (by simp [Op.operands]) hc) hz hsz hb h0 h1 h2 h3 hks haz
            · cases h
          · cases h
        · cases h
      · cases h
    · cases h
  | call c =>
    obtain ⟨callee, args, argTypes⟩ := c
    rw [hop] at h ev
    cases callee with
    | builtin b =>
      cases b with
      | append =>
        simp only [loud] at h
        split at h
        · rename_i x y t u ha hat
          have ha' := toList_two ha
          have hat' := toList_two hat
          subst ha'; subst hat'
          split at h
          · rename_i v1 v2 el d hv1 hv2 ht hu
            exact append_loud hs hop ht hu (ev (by simp [Op.operands, Call.operands]) hv1) (ev (by simp [Op.operands, Call.operands]) hv2) h hp
          · cases h
        · cases h
      | _ => simp [loud] at h
    | _ => simp [loud] at h
  | _ => rw [hop] at h; simp [loud] at h

/-! ### Formulas -/

section vc
variable {env : List D}
theorem asserts_vc : ∀ {ps : List PE} {t : Tree}, (asserts ps t).vc I env → (∀ p ∈ ps, p.den I env) ∧ t.vc I env
  | [], t, h => ⟨by simp, h⟩
  | p :: ps, t, h => by
    obtain ⟨h1, h2⟩ := h
    obtain ⟨h3, h4⟩ := asserts_vc h2
    exact ⟨List.forall_mem_cons.2 ⟨h1, h3⟩, h4⟩
theorem mkAssert_vc {p : PE} {t : Tree} (h : (mkAssert p t).vc I env) : p.den I env ∧ t.vc I env := by
  unfold mkAssert at h
  split at h
  · split at h
    · exact h.elim
    · rename_i n hn; exact ⟨⟨n, rfl, hn⟩, h⟩
  · split at h
    · rename_i n hn; subst hn; exact ⟨rfl, h⟩
    · exact h.elim
  · split at h
    · rename_i k n hn; exact ⟨⟨n, rfl, hn⟩, h⟩
    · exact h.elim
  · exact ⟨⟨_, rfl⟩, h⟩
  · exact ⟨⟨_, rfl⟩, h⟩
  · exact h
theorem mkAsserts_vc : ∀ {ps : List PE} {t : Tree}, (mkAsserts ps t).vc I env → (∀ p ∈ ps, p.den I env) ∧ t.vc I env
  | [], t, h => ⟨by simp, h⟩
  | p :: ps, t, h => by
    obtain ⟨h1, h2⟩ := mkAssert_vc h
    obtain ⟨h3, h4⟩ := mkAsserts_vc h2
    exact ⟨List.forall_mem_cons.2 ⟨h1, h3⟩, h4⟩
theorem assumes_vc : ∀ {ps : List PE} {t : Tree}, (assumes ps t).vc I env → (∀ p ∈ ps, p.den I env) → t.vc I env
  | [], t, h, _ => h
  | p :: ps, t, h, hp => assumes_vc (h (hp p (by simp))) fun q hq => hp q (by simp [hq])

/-- Values of the sorts asked. -/
def Sorts : List Bool → List D → Prop
  | [], [] => True
  | true :: l, .t _ :: m => Sorts l m
  | false :: l, .i _ :: m => Sorts l m
  | _, _ => False
theorem Sorts.length : ∀ {l : List Bool} {m : List D}, Sorts l m → m.length = l.length
  | [], [], _ => rfl
  | true :: l, .t _ :: m, h => by simp [Sorts.length (l := l) (m := m) h]
  | false :: l, .i _ :: m, h => by simp [Sorts.length (l := l) (m := m) h]
  | [], _ :: _, h => by simp [Sorts] at h
  | true :: _, [], h => by simp [Sorts] at h
  | false :: _, [], h => by simp [Sorts] at h
  | true :: _, .i _ :: _, h => by simp [Sorts] at h
  | false :: _, .t _ :: _, h => by simp [Sorts] at h
theorem havocs_vc : ∀ {l : List Bool} {ds : List D} {env : List D} {t : Tree}, (havocs l t).vc I env → Sorts l ds → t.vc I (env ++ ds)
  | [], [], env, t, h, _ => by simpa [havocs] using h
  | true :: l, .t f :: m, env, t, h, hs => by
    have := havocs_vc (l := l) (ds := m) (env := env ++ [.t f]) (h f) hs
    simpa using this
  | false :: l, .i n :: m, env, t, h, hs => by
    have := havocs_vc (l := l) (ds := m) (env := env ++ [.i n]) (h n) hs
    simpa using this
  | [], _ :: _, _, _, _, h => by simp [Sorts] at h
  | true :: _, [], _, _, _, h => by simp [Sorts] at h
  | false :: _, [], _, _, _, h => by simp [Sorts] at h
  | true :: _, .i _ :: _, _, _, _, h => by simp [Sorts] at h
  | false :: _, .t _ :: _, _, _, _, h => by simp [Sorts] at h
end vc
end Go.Sx
