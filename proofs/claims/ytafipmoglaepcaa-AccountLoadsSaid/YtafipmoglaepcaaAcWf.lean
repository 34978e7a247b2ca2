/-
  Every call keeps budgets right; sums over what lies below a node. Plain Lean. Conditions: none.
-/
import Derived.Test.YtafipmoglaepcaaAcSpec
namespace Go.Proofs.Ytafipmoglaepcaa.Ac
open Go.Sx (tupd)

theorem tupd_same (T : Tb) (i v : Int) (c : Nat) : tupd T i c v i c = v := by simp [tupd]
theorem tupd_ne {T : Tb} {i v r : Int} {c d : Nat} (h : ¬ (r = i ∧ d = c)) : tupd T i c v r d = T r d := by simp [tupd, h]
theorem tupd_shape {T : Tb} {i v : Int} {c : Nat} (h0 : c ≠ 0) (h4 : c ≠ 4) : Shape (tupd T i c v) T := fun _ => ⟨tupd_ne (fun e => h0 e.2.symm), tupd_ne (fun e => h4 e.2.symm)⟩

/-- Where sums are right, a node has no less than each child. -/
theorem Wf.kid_le {T : Tb} {n : Int} (w : Wf T n) {k : Int} (hk : Opn T n k) (h0 : k ≠ 0) : T k 5 ≤ T (T k 0) 5 := by
  have hp := w.par k hk h0
  have hs := w.sums _ hp
  have h2 := (w.rng _ hp).2.2.1
  have : T k 5 ≤ kids T n (T k 0) := by
    unfold kids
    have hk0 := hk.1
    have hkn := hk.2.1
    have e : ((k.toNat : Nat) : Int) = k := by omega
    have := sumN_ge (f := fun j => if Opn T n j ∧ T j 0 = T k 0 then T j 5 else 0) (j := k.toNat) (m := n.toNat) (by omega) fun j _ => by
      by_cases hc : Opn T n j ∧ T j 0 = T k 0
      · simp only [if_pos hc]; exact (w.rng _ hc.1).2.2.2.1
      · simp only [if_neg hc]; omega
    simp only [e] at this
    rw [if_pos ⟨hk, by trivial⟩] at this
    exact this
  unfold df at hs
  omega
theorem Wf.own_le {T : Tb} {n : Int} (w : Wf T n) {i : Int} (hi : Opn T n i) : T i 2 ≤ T i 5 := by
  have hs := w.sums _ hi
  have : 0 ≤ kids T n i := by
    unfold kids
    refine sumN_nonneg fun j _ => ?_
    by_cases hc : Opn T n j ∧ T j 0 = i
    · rw [if_pos hc]; exact (w.rng _ hc.1).2.2.2.1
    · rw [if_neg hc]; omega
  unfold df at hs
  omega
/-- .. and than each node below it. -/
theorem Wf.path_le {T : Tb} {n : Int} (w : Wf T n) {r : Int} : ∀ i, r ∈ path T n i → T i 5 ≤ T r 5 := by
  refine up w.toWt (fun i hi hr => by rw [path_not hi] at hr; cases hr) (fun i hi ih hr => ?_)
  rw [path_open w.toWt hi] at hr
  rcases List.mem_cons.1 hr with rfl | hr
  · exact Int.le_refl _
  · by_cases h0 : i = 0
    · subst h0; rw [w.rootp, path_not not_opn_neg] at hr; cases hr
    · have := w.kid_le hi h0; have := ih hr; omega

theorem tgt_min {T : Tb} {n : Int} (w : Wt T n) : ∀ q b, room T (tgt T n q b) ≤ room T b ∧ ∀ r ∈ path T n q, room T (tgt T n q b) ≤ room T r := by
  have t1 : ∀ {q b}, Opn T n q → tgt T n q b = tgt T n (T q 0) (if room T q < room T b then q else b) := fun h => by unfold tgt; rw [path_open w h]; rfl
  have t0 : ∀ {q b}, ¬ Opn T n q → tgt T n q b = b := fun h => by unfold tgt; rw [path_not h]; rfl
  refine up w (fun q hq b => by rw [t0 hq, path_not hq]; exact ⟨Int.le_refl _, fun r hr => by cases hr⟩) (fun q hq ih b => ?_)
  rw [t1 hq, path_open w hq]
  have h := ih (if room T q < room T b then q else b)
  have hb : room T (if room T q < room T b then q else b) ≤ room T b ∧ room T (if room T q < room T b then q else b) ≤ room T q := by
    by_cases hlt : room T q < room T b
    · rw [if_pos hlt]; omega
    · rw [if_neg hlt]; omega
  refine ⟨by omega, fun r hr => ?_⟩
  rcases List.mem_cons.1 hr with rfl | hr
  · omega
  · exact h.2 r hr
theorem tgt_opn {T : Tb} {n : Int} (w : Wt T n) : ∀ q b, Opn T n b → Opn T n (tgt T n q b) := by
  refine up w (fun q hq b hb => by unfold tgt; rw [path_not hq]; exact hb) (fun q hq ih b hb => ?_)
  have : tgt T n q b = tgt T n (T q 0) (if room T q < room T b then q else b) := by unfold tgt; rw [path_open w hq]; rfl
  rw [this]
  exact ih _ (by split; exact hq; exact hb)

/-! ### Own and sums turned along a path -/

theorem addP_2 (T : Tb) (n i d r : Int) : addP T n i d r 2 = T r 2 := by unfold addP; split <;> simp
theorem addP_1 (T : Tb) (n i d r : Int) : addP T n i d r 1 = T r 1 := by unfold addP; split <;> simp
theorem addP_5 (T : Tb) (n i d r : Int) : addP T n i d r 5 = T r 5 + (if r ∈ path T n i then d else 0) := by unfold addP; by_cases h : r ∈ path T n i <;> simp [h]
theorem addP_3 (T : Tb) (n i d r : Int) : addP T n i d r 3 = if r ∈ path T n i then max (T r 3) (T r 5 + d) else T r 3 := by unfold addP; by_cases h : r ∈ path T n i <;> simp [h]
theorem addP_off {T : Tb} {n i d r : Int} (h : r ∉ path T n i) (c : Nat) : addP T n i d r c = T r c := by unfold addP; rw [if_neg h]

/-- What a node has itself, and all on its path, turned by d. -/
theorem own_wf {T : Tb} {n i d : Int} (w : Wf T n) (hi : Opn T n i) (h2 : 0 ≤ T i 2 + d) (h5 : ∀ r ∈ path T n i, T r 5 + d ≤ 4096) : Wf (addP (tupd T i 2 (T i 2 + d)) n i d) n := by
  have hs1 : Shape (tupd T i 2 (T i 2 + d)) T := tupd_shape (by omega) (by omega)
  have hs : Shape (addP (tupd T i 2 (T i 2 + d)) n i d) T := (addP_shape _ _ _ _).trans hs1
  have w1 := hs1.wt w.toWt
  have hp : path (tupd T i 2 (T i 2 + d)) n i = path T n i := hs1.path w.toWt i
  have e5 : ∀ r, addP (tupd T i 2 (T i 2 + d)) n i d r 5 = T r 5 + (if r ∈ path T n i then d else 0) := fun r => by
    rw [addP_5, hp, tupd_ne (by omega)]
  have e3 : ∀ r, addP (tupd T i 2 (T i 2 + d)) n i d r 3 = if r ∈ path T n i then max (T r 3) (T r 5 + d) else T r 3 := fun r => by
    rw [addP_3, hp, tupd_ne (by omega), tupd_ne (by omega)]
  have e2 : ∀ r, addP (tupd T i 2 (T i 2 + d)) n i d r 2 = T r 2 + (if r = i then d else 0) := fun r => by
    rw [addP_2]
    by_cases e : r = i
    · subst e; rw [tupd_same, if_pos rfl]
    · rw [tupd_ne (fun x => e x.1), if_neg e]; omega
  have hlow : ∀ r ∈ path T n i, 0 ≤ T r 5 + d := fun r hr => by
    have := w.path_le i hr; have := w.own_le hi; omega
  refine { hs.wt w.toWt with last := by rw [(hs _).2]; exact w.last, cl := fun r h0 h1 h4 => ?_, rng := fun r hr => ?_, sums := fun r hr => ?_ }
  · rw [(hs r).2] at h4
    have hno : ¬ Opn T n r := fun x => h4 x.2.2
    have hm : r ∉ path T n i := fun x => hno (mem_path w.toWt i x).1
    have hne : r ≠ i := fun e => hno (e ▸ hi)
    have := w.cl r h0 h1 h4
    have hx : ∀ c, addP (tupd T i 2 (T i 2 + d)) n i d r c = T r c := fun c => by rw [addP_off (by rw [hp]; exact hm), tupd_ne (fun x => hne x.1)]
    simp only [hx]; exact this
  · have hr' := hs.opn.1 hr
    have hw := w.rng r hr'
    rw [e5, e3, e2, addP_1, tupd_ne (by omega)]
    by_cases hm : r ∈ path T n i
    · rw [if_pos hm, if_pos hm]
      have := hlow r hm
      have := h5 r hm
      by_cases e : r = i
      · subst e; rw [if_pos rfl]; omega
      · rw [if_neg e]; omega
    · rw [if_neg hm, if_neg hm]
      have e : r ≠ i := fun e => hm (by rw [e, path_open w.toWt hi]; exact List.mem_cons_self)
      rw [if_neg e]; omega
  · have hr' := hs.opn.1 hr
    have hA : Along (addP (tupd T i 2 (T i 2 + d)) n i d) (tupd T i 2 (T i 2 + d)) n i d := ⟨addP_shape _ _ _ _, fun r => addP_2 _ _ _ _ _, fun r => addP_5 _ _ _ _ _⟩
    have h := along_df w1 i _ hA r (hs1.opn.2 hr')
    have hk : kids (tupd T i 2 (T i 2 + d)) n r = kids T n r := kids_congr hs1 (fun j => tupd_ne (by omega)) r
    have hd : df (tupd T i 2 (T i 2 + d)) n r = df T n r - (if r = i then d else 0) := by
      unfold df
      rw [hk, tupd_ne (by omega)]
      by_cases e : r = i
      · subst e; rw [tupd_same, if_pos rfl]; omega
      · rw [tupd_ne (fun x => e x.1), if_neg e]; omega
    rw [h, hd, w.sums r hr']
    by_cases e : r = i
    · subst e; rw [if_pos rfl, if_pos ⟨hs1.opn.2 hi, rfl⟩]; omega
    · rw [if_neg e, if_neg (fun x => e x.2)]; omega

theorem chE_ok {T : Tb} {n i d : Int} (h : chE T n i d = 0) : Opn T n i ∧ 0 ≤ d ∧ d ≤ 4096 ∧ d ≤ head T n i := by
  unfold chE at h
  split at h
  · omega
  rename_i h1
  split at h
  · omega
  rename_i h2
  split at h
  · omega
  rename_i h3
  have h1 := Decidable.not_not.1 h1
  simp only [outs] at h2
  exact ⟨h1, by omega, by omega, by omega⟩
/-- A charge that is not greater than the head leaves room everywhere. -/
theorem head_fits {T : Tb} {n i d : Int} (w : Wt T n) (hi : Opn T n i) (hd : d ≤ head T n i) (h0 : 0 < d) : ∀ r ∈ path T n i, T r 5 + d ≤ T r 1 := by
  intro r hr
  rw [head, if_pos hi] at hd
  have := (tgt_min w i i).2 r hr
  unfold room at this hd
  split at hd <;> omega
theorem chT_wf {T : Tb} {n i d : Int} (w : Wf T n) : Wf (chT T n i d) n := by
  unfold chT
  split
  · rename_i h
    obtain ⟨h1, h2, h3, h4⟩ := chE_ok h
    refine own_wf w h1 (by have := (w.rng i h1).2.2.1; omega) fun r hr => ?_
    have hr' := w.rng r (mem_path w.toWt i hr).1
    by_cases e : d = 0
    · omega
    · have := head_fits w.toWt h1 h4 (by omega) r hr; omega
  · exact w
theorem giE_ok {T : Tb} {n i d : Int} (h : giE T n i d = 0) : Opn T n i ∧ 0 ≤ d ∧ d ≤ 4096 ∧ d ≤ T i 2 := by
  unfold giE at h
  split at h
  · omega
  rename_i h1
  split at h
  · omega
  rename_i h2
  split at h
  · omega
  rename_i h3
  have h1 := Decidable.not_not.1 h1
  simp only [outs] at h2
  exact ⟨h1, by omega, by omega, by omega⟩
theorem giT_eq {T : Tb} {n i d : Int} : addP (tupd T i 2 (T i 2 - d)) n i (0 - d) = addP (tupd T i 2 (T i 2 + (0 - d))) n i (0 - d) := by
  rw [show T i 2 - d = T i 2 + (0 - d) by omega]
theorem giT_wf {T : Tb} {n i d : Int} (w : Wf T n) : Wf (giT T n i d) n := by
  unfold giT
  split
  · rename_i h
    obtain ⟨h1, h2, h3, h4⟩ := giE_ok h
    rw [giT_eq]
    refine own_wf w h1 (by omega) fun r hr => ?_
    have hr' := w.rng r (mem_path w.toWt i hr).1
    omega
  · exact w
theorem slT_wf {T : Tb} {n i d : Int} (w : Wf T n) : Wf (slT T n i d) n := by
  unfold slT
  split
  · rename_i h
    have h' : Opn T n i ∧ 0 ≤ d ∧ d ≤ 4096 := by
      unfold slE at h
      split at h
      · omega
      rename_i h1
      split at h
      · omega
      rename_i h2
      simp only [outs] at h2
      exact ⟨Decidable.not_not.1 h1, by omega, by omega⟩
    obtain ⟨hi, h0, h1⟩ := h'
    have hs : Shape (tupd T i 1 d) T := tupd_shape (by omega) (by omega)
    refine { hs.wt w.toWt with last := by rw [(hs _).2]; exact w.last, cl := fun r a b h4 => ?_, rng := fun r hr => ?_, sums := fun r hr => ?_ }
    · rw [(hs r).2] at h4
      have hne : r ≠ i := fun e => h4 (e ▸ hi.2.2)
      have hx : ∀ c, tupd T i 1 d r c = T r c := fun c => tupd_ne (fun x => hne x.1)
      simp only [hx]; exact w.cl r a b h4
    · have hw := w.rng r (hs.opn.1 hr)
      have hx : ∀ c, c ≠ 1 → tupd T i 1 d r c = T r c := fun c hc => tupd_ne (fun x => hc x.2)
      rw [hx 2 (by omega), hx 3 (by omega), hx 5 (by omega)]
      by_cases e : r = i
      · subst e; rw [tupd_same]; omega
      · rw [tupd_ne (fun x => e x.1)]; omega
    · have := w.sums r (hs.opn.1 hr)
      unfold df at this ⊢
      rw [kids_congr hs (fun j => tupd_ne (by omega)), tupd_ne (by omega), tupd_ne (by omega)]
      exact this
  · exact w
end Go.Proofs.Ytafipmoglaepcaa.Ac
