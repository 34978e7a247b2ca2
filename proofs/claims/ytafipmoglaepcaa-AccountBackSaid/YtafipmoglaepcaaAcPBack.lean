/-
  AccountBack returns true for each limit, each list of calls and each call, and its arguments read as they did. Conditions: none.
-/
import Derived.Test.YtafipmoglaepcaaAcFrame
import Derived.Test.YtafipmoglaepcaaAcOk3
import Derived.WalkKit
import Derived.ProofKit
import Derived.OpenShut
namespace Go.Proofs.Ytafipmoglaepcaa.accountBack
open Go.ChangeShapes Go.WideShapes Go.ChangeAt Go.RowKit Go.Joins Go.Sx Ac

theorem reads : ∀ t ∈ ([22, 23, 32] : List TypeId), Try.prog.readableRec t = true ∧ t < Try.prog.types.size := by
  intro t ht
  simp only [List.mem_cons, List.not_mem_nil, or_false] at ht
  rcases ht with rfl | rfl | rfl
  · exact reads22
  · exact reads23
  · exact reads32

set_option maxRecDepth 100000 in
theorem lifted (os : Os) (started : os.Started) (H : Type) (enc : TypeId × Value → H) :
    ReturnsInHanded {} Try.checked os 5 .any (Rows.accountBackSpec.pre6 enc Try.prog Try.f5 Rows.accountBackRow.domain false) (Rows.accountBackSpec.post enc Try.prog Try.f5 false true false false) := by
  refine returnsInHanded_of_change (C := Try.checked) own started (by kernel_rfl) Try.func5
    (ChangeSpec.witness6 (enc := enc) (C := Try.checked) false ⟨#[], #[.int .u16 0, .slice none 0 0, .agg #[.int .u8 0, .int .i64 0, .int .i64 0]], []⟩ 8 (by kernel_rfl) (by kernel_rfl) (by kernel_rfl) (by kernel_rfl)) ?_
  intro W base args ds gs before hval0 hW hcnd _
  have hval : ∀ (j : Nat) t v, Try.f5.params[j]? = some t → args[j]? = some v → Value.okWide Try.prog W .any base t v := hval0
  have hW' := hW
  obtain ⟨p, q, hA0, hV, rfl, hfz, hnd⟩ := hW
  have hA : DataW.TrodAll enc Try.prog W 0 (fun _ => true) true Try.f5.params.toList args.toList ds p := hA0
  rw [Try.params5] at hA hval
  obtain ⟨v0, v1, v2, d0, d1, d2, p0, p1, p2, rfl, rfl, rfl, h0, h1, h2⟩ := trodAll_three hA
  obtain ⟨rfl, rfl⟩ := trodVars_none hV
  obtain ⟨l, rfl, rfl, rfl, wl⟩ := open_int Try.underlying22 (hval 0 22 v0 rfl rfl) h0
  obtain ⟨m, L, hv, ha⟩ := acts_open (hval 1 23 v1 rfl rfl) h1
  obtain ⟨c0, c1, c2, y0, y1, y2, m', rfl, rfl, rfl, hy0, hy1, hy2⟩ := open_agg3 Try.underlying32 (by kernel_rfl) cells32 (hval 2 32 v2 rfl rfl) h2
  obtain ⟨k, e0, rfl, wk⟩ := DataW.trod_int Try.underlying5 hy0
  obtain ⟨a, e1, rfl, wa⟩ := DataW.trod_int Try.underlying3 hy1
  obtain ⟨b, e2, rfl, wb⟩ := DataW.trod_int Try.underlying3 hy2
  simp at e0 e1 e2
  subst e0 e1 e2
  refine (lawX_call okLBack (wf_u16 wl) hv ha (wf_u8 wk) (wf_i64 wa) (wf_i64 wb)).mono fun e W' ⟨he, hk⟩ => ?_
  subst he
  exact ⟨_, rfl, law_post laidOut (by kernel_rfl) Try.underlying4 rfl (by rw [Try.params5]; exact reads) rfl rfl rfl hW' hk⟩

/-- **The statement.** -/
theorem proved : Rows.AccountBackSaid :=
  OpenClaim.holds_of_wide 5 Try.f5 rfl rfl rfl rfl rfl rfl rfl ⟨rfl, rfl, rfl, rfl, rfl⟩ rfl rfl rfl rfl rfl (by kernel_rfl) Try.func5 (by kernel_rfl)
    (of_decide_eq_true (by kernel_rfl)) (by unfold Func.isWrapper; first | (rw [if_pos (by decide +kernel)]; kernel_rfl) | (rw [if_neg (by decide +kernel)]; exact ⟨rfl, rfl⟩))
    (fun os started H enc _ => lifted os started H enc)
#print axioms proved
end Go.Proofs.Ytafipmoglaepcaa.accountBack
