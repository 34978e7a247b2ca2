/-
  AccountPlays returns true for each number and each list of calls, and its arguments read as they did. Conditions: none.
-/
import Derived.Test.YtafipmoglaepcaaAcFrame
import Derived.Test.YtafipmoglaepcaaAcOk4
import Derived.WalkKit
import Derived.ProofKit
import Derived.OpenShut
namespace Go.Proofs.Ytafipmoglaepcaa.accountPlays
open Go.ChangeShapes Go.WideShapes Go.ChangeAt Go.RowKit Go.Joins Go.Sx Ac

variable {H : Type} {enc : TypeId × Value → H} {W : World} {base : Nat}
theorem reads3 : Try.prog.readableRec 3 = true ∧ 3 < Try.prog.types.size := ⟨by kernel_rfl, of_decide_eq_true (by kernel_rfl)⟩
theorem plays_call (h : COk (J 65) Try.prog cPlays) {l m : Int} {L : Tb} {v : Value} (hl : -9223372036854775808 ≤ l ∧ l ≤ 9223372036854775807) (hv : ActsV W v m L) (ha : ActsIn L m) :
    Calls Try.prog 8 #[.int .i64 l, v] W fun e w' => e = .returned (.bool true) ∧ Kept W w' := by
  have hX : ∀ g i, ¬ (cPlays.amb g W).X i := by
    rintro g i ⟨b, x, p, h1, h2, _⟩
    simp only [cPlays, Sx.get] at h1
    split at h1
    · cases h1; cases h2
    · cases h1
  obtain ⟨g, e1, e2, hm, hr⟩ := acts_rel hv (J 65) Try.prog { w0 := W, X := fun _ => False } rfl [.i l, .t L, .i m] 1 2 rfl rfl
  have hm' : MRel (cPlays.amb g W) (J 65) Try.prog g cPlays.mem W :=
    ⟨hm.wf, hm.blk, hm.lt, hm.inj, hm.bnd, fun b x p hb hw hp => by
      rcases hm.own b x p hb hw hp with q | q
      · exact q.elim
      · exact .inr q, hm.size, fun i hi _ => hm.keep i hi (fun q => q), hm.same⟩
  have := h g W [.int .i64 l, v] (by rw [e1]; exact trivial) e2 hm' ⟨⟨l, by rw [e1]; rfl, rfl⟩, hr, trivial⟩ (fun p hp => by
    rw [e1]
    simp only [cPlays, List.mem_cons, List.not_mem_nil, or_false] at hp
    rcases hp with rfl | rfl
    · exact ⟨l, rfl, hl⟩
    · exact ⟨[.t L, .i m], rfl, ha⟩)
  refine this.mono fun e w' he => ?_
  obtain ⟨x, outs, g', rfl, _, _, _, _, ⟨n, hn, rfl⟩, h6, _⟩ := he
  simp only [E.den, Option.some.injEq, D.i.injEq] at hn
  subst hn
  exact ⟨rfl, h6.same.1, h6.same.2, h6.size, fun i hi => h6.keep i hi (hX g i)⟩
theorem reads : ∀ t ∈ ([3, 23] : List TypeId), Try.prog.readableRec t = true ∧ t < Try.prog.types.size := by
  intro t ht
  simp only [List.mem_cons, List.not_mem_nil, or_false] at ht
  rcases ht with rfl | rfl
  · exact reads3
  · exact reads23

set_option maxRecDepth 100000 in
theorem lifted (os : Os) (started : os.Started) (H : Type) (enc : TypeId × Value → H) :
    ReturnsInHanded {} Try.checked os 8 .any (Rows.accountPlaysSpec.pre6 enc Try.prog Try.f8 Rows.accountPlaysRow.domain false) (Rows.accountPlaysSpec.post enc Try.prog Try.f8 false true false false) := by
  refine returnsInHanded_of_change (C := Try.checked) own started (by kernel_rfl) Try.func8
    (ChangeSpec.witness6 (enc := enc) (C := Try.checked) false ⟨#[], #[.int .i64 0, .slice none 0 0], []⟩ 8 (by kernel_rfl) (by kernel_rfl) (by kernel_rfl) (by kernel_rfl)) ?_
  intro W base args ds gs before hval0 hW hcnd _
  have hval : ∀ (j : Nat) t v, Try.f8.params[j]? = some t → args[j]? = some v → Value.okWide Try.prog W .any base t v := hval0
  have hW' := hW
  obtain ⟨p, q, hA0, hV, rfl, hfz, hnd⟩ := hW
  have hA : DataW.TrodAll enc Try.prog W 0 (fun _ => true) true Try.f8.params.toList args.toList ds p := hA0
  rw [Try.params8] at hA hval
  obtain ⟨v0, v1, d0, d1, p0, p1, rfl, rfl, rfl, h0, h1⟩ := trodAll_two hA
  obtain ⟨rfl, rfl⟩ := trodVars_none hV
  obtain ⟨l, rfl, rfl, rfl, wl⟩ := open_int Try.underlying3 (hval 0 3 v0 rfl rfl) h0
  obtain ⟨m, L, hv, ha⟩ := acts_open (hval 1 23 v1 rfl rfl) h1
  refine (plays_call okLPlays (wf_i64 wl) hv ha).mono fun e W' ⟨he, hk⟩ => ?_
  subst he
  exact ⟨_, rfl, law_post laidOut (by kernel_rfl) Try.underlying4 rfl (by rw [Try.params8]; exact reads) rfl rfl rfl hW' hk⟩

/-- **The statement.** -/
theorem proved : Rows.AccountPlaysSaid :=
  OpenClaim.holds_of_wide 8 Try.f8 rfl rfl rfl rfl rfl rfl rfl ⟨rfl, rfl, rfl, rfl, rfl⟩ rfl rfl rfl rfl rfl (by kernel_rfl) Try.func8 (by kernel_rfl)
    (of_decide_eq_true (by kernel_rfl)) (by unfold Func.isWrapper; first | (rw [if_pos (by decide +kernel)]; kernel_rfl) | (rw [if_neg (by decide +kernel)]; exact ⟨rfl, rfl⟩))
    (fun os started H enc _ => lifted os started H enc)
#print axioms proved
end Go.Proofs.Ytafipmoglaepcaa.accountPlays
