/-
  A law's row: where a call returns true and keeps all memory that was there, the row's words behind the call hold. Conditions: none.
-/
import Derived.Test.YtbcclmpmljpbcaaGreatDoorSxTidy
import Derived.ProofKit
import Derived.WideKeyArgs
import Derived.OpenShut
noncomputable section
namespace Go.Sx
open Go Go.ChangeShapes Go.WideShapes Go.ChangeAt Go.RowKit

/-- What was there is as it was. -/
structure Kept (W W' : World) : Prop where
  os : W'.os = W.os
  output : W'.output = W.output
  size : W.heap.size ≤ W'.heap.size
  old : ∀ i, i < W.heap.size → W'.heap[i]? = W.heap[i]?

theorem Kept.refl (W : World) : Kept W W := ⟨rfl, rfl, Nat.le_refl _, fun _ _ => rfl⟩

theorem Kept.keptBut {W W' : World} (h : Kept W W') (may : MemPlace → Prop) : W.keptBut W' may := by
  refine ⟨h.os, h.output, fun i hi => ?_⟩
  rw [h.old i hi]
  split
  · rename_i a b; cases b.symm.trans a; exact ⟨rfl, rfl, rfl, fun _ _ => rfl⟩
  · rename_i a b; cases b.symm.trans a; exact .inr ⟨rfl, rfl⟩
  · rfl

theorem Kept.frozen {W W' : World} (h : Kept W W') {a : Addr} (ha : a.block < W.heap.size) : W'.frozen? a = W.frozen? a := by
  simp only [World.frozen?, h.old _ ha]

theorem Kept.sameAt {W W' : World} (h : Kept W W') {p : MemPlace} (hp : p.block < W.heap.size) : W.sameAt W' p := by
  cases p with
  | cell b off => simp only [World.sameAt, World.cell?]; rw [h.old b hp]
  | map b => exact h.old b hp

variable {H : Type} {enc : TypeId × Value → H} {P : Program}

theorem Kept.trodAll {W W' : World} (h : Kept W W') (hl : laidOutB P = true) : ∀ {ts : List TypeId} {vs : List Value} {ds : List (DataW H)} {ps : List MemPlace}, (∀ t ∈ ts, P.readableRec t = true ∧ t < P.types.size) →
    DataW.TrodAll enc P W 0 (fun _ => true) true ts vs ds ps → (∀ p ∈ ps, p.block < W.heap.size) → ∀ sp : Nat → Bool, (∀ p ∈ ps, sp p.block = true) → DataW.TrodAll enc P W' 0 sp true ts vs ds ps
  | [], _, _, _, _, ht, _, _, _ => by
    obtain ⟨rfl, rfl, rfl⟩ := trodAll_nil ht
    exact trodAll_mk0
  | t :: ts, _, _, _, hr, ht, hlt, sp, hs => by
    obtain ⟨v, vs', d, ds', p, q, rfl, rfl, rfl, h0, r0⟩ := trodAll_cons ht
    have hr0 := hr t (by simp)
    exact trodAll_cons_mk (WideElems.Trod_stays hl hr0.1 hr0.2 h0 (fun x hx => h.sameAt (hlt x (by simp [hx]))) (fun x hx => hs x (by simp [hx])))
      (Kept.trodAll h hl (fun t ht => hr t (by simp [ht])) r0 (fun p hp => hlt p (by simp [hp])) sp (fun p hp => hs p (by simp [hp])))

/-- **A law that returns true and keeps what was there.** -/
theorem law_post {f : Func} {s : ChangeSpec} {tb : TypeId} {apart fresh : Bool} {W W' : World} {args : Array Value} {ds gs : List (DataW H)} {before : List MemPlace}
    (hl : laidOutB P = true) (hrt : f.resultTypes = #[tb]) (hb : P.underlying tb = some .bool) (hv : s.vars = []) (hrd : ∀ t ∈ f.params.toList, P.readableRec t = true ∧ t < P.types.size)
    (hres : (s.fn H (ds ++ gs)).results = [.lit (.bool true)]) (hargs : (s.fn H (ds ++ gs)).args = ds) (hvs : (s.fn H (ds ++ gs)).vars = [])
    (hW : DataW.Whole enc P f.params.toList s.vars apart W args.toList ds gs before) (hk : Kept W W') : s.post enc P f apart fresh false false W args (.bool true) W' := by
  have hlt := hW.lt
  have hW0 := hW
  obtain ⟨p, q, hA, hV, rfl, hz, hn⟩ := hW
  rw [hv] at hV
  obtain ⟨rfl, rfl⟩ := trodVars_none hV
  simp only [List.append_nil] at hW0 hlt hres hargs hvs hz hn
  have hA' : ∀ sp : Nat → Bool, (∀ x ∈ p, sp x.block = true) → DataW.TrodAll enc P W' 0 sp true f.params.toList args.toList ds p := hk.trodAll hl hrd hA hlt
  have hR : ∀ (b : Nat) (sp : Nat → Bool) (hd : Bool), DataW.TrodAll enc P W' b sp hd f.resultTypes.toList ((Value.bool true).resultList f.resultTypes.size) [.lit (.bool true)] [] := fun b sp hd => by
    rw [hrt]; exact trodAll_mk1 (shut_bool hb true)
  refine ⟨ds, [], p, [], p, [], hW0, ?_, ?_, ?_, World.keptBut_mono (fun x hx => ⟨hx, .inr (.inl hx)⟩) (hk.keptBut _), fun h => by cases h⟩
  · simp only [List.append_nil, hres]; exact hR _ _ _
  · simp only [List.append_nil, hargs]
    exact hA' _ fun x hx => by simpa using hlt x hx
  · simp only [List.append_nil, hvs, hv]; rfl
end Go.Sx
