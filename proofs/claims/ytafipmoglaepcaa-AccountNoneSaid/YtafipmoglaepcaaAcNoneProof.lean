/-
  AccountNone returns true for each call x, and its argument reads as it did. Conditions: none.
-/
import Derived.Test.YtafipmoglaepcaaRows
import Derived.Test.YtafipmoglaepcaaAcNone
import Derived.Test.YtafipmoglaepcaaSxRow
import Derived.Lib.SmallJoins
import Derived.WalkKit
import Derived.ProofKit
import Derived.OpenShut
namespace Go.Proofs.Ytafipmoglaepcaa.accountNone
open Go.ChangeShapes Go.WideShapes Go.ChangeAt Go.RowKit Go.Joins Go.Sx

def I0 : Itp := { fn := fun _ _ _ _ _ => .none, pr := fun _ _ => False }
theorem own : ownKnob Try.prog.godebug = none := by kernel_rfl
theorem laidOut : laidOutB Try.prog = true := by kernel_rfl
theorem cells32 : Try.prog.cellsOf 32 = 3 := by kernel_rfl
theorem reads : ∀ t ∈ ([32] : List TypeId), Try.prog.readableRec t = true ∧ t < Try.prog.types.size := by
  intro t ht
  simp only [List.mem_cons, List.not_mem_nil, or_false] at ht
  subst ht
  exact ⟨by kernel_rfl, of_decide_eq_true (by kernel_rfl)⟩

theorem walk (k a b : Int) (w : World) : Calls Try.prog 9 #[.agg #[.int .u8 k, .int .i64 a, .int .i64 b]] w fun e w' => e = .returned (.bool true) ∧ Kept w w' := by
  have h := COk.bare (none_ok I0) rfl rfl (ds := [.i k, .i a, .i b]) (by exact trivial) (xs := [.agg #[.int .u8 k, .int .i64 a, .int .i64 b]]) w
    ⟨⟨_, rfl, ⟨k, rfl, rfl⟩, ⟨a, rfl, rfl⟩, ⟨b, rfl, rfl⟩, trivial⟩, trivial⟩ (by intro p hp; cases hp)
  refine h.mono fun e w' he => ?_
  obtain ⟨v, outs, g', rfl, _, _, ⟨n, hn, rfl⟩, _, h1, h2, h3, h4⟩ := he
  simp only [E.den, Option.some.injEq, D.i.injEq] at hn
  subst hn
  exact ⟨rfl, h1, h2, h3, h4⟩

set_option maxRecDepth 100000 in
theorem lifted (os : Os) (started : os.Started) (H : Type) (enc : TypeId × Value → H) :
    ReturnsInHanded {} Try.checked os 9 .any (Rows.accountNoneSpec.pre6 enc Try.prog Try.f9 Rows.accountNoneRow.domain false) (Rows.accountNoneSpec.post enc Try.prog Try.f9 false true false false) := by
  refine returnsInHanded_of_change (C := Try.checked) own started (by kernel_rfl) Try.func9
    (ChangeSpec.witness6 (enc := enc) (C := Try.checked) false ⟨#[], #[.agg #[.int .u8 0, .int .i64 0, .int .i64 0]], []⟩ 8 (by kernel_rfl) (by kernel_rfl) (by kernel_rfl) (by kernel_rfl)) ?_
  intro W base args ds gs before hval0 hW hcnd _
  have hval : ∀ (j : Nat) t v, Try.f9.params[j]? = some t → args[j]? = some v → Value.okWide Try.prog W .any base t v := hval0
  have hW' := hW
  obtain ⟨p, q, hA0, hV, rfl, hfz, hnd⟩ := hW
  have hA : DataW.TrodAll enc Try.prog W 0 (fun _ => true) true Try.f9.params.toList args.toList ds p := hA0
  rw [Try.params9] at hA hval
  obtain ⟨v0, d0, rfl, rfl, h0⟩ := trodAll_one hA
  obtain ⟨rfl, rfl⟩ := trodVars_none hV
  obtain ⟨c0, c1, c2, y0, y1, y2, m, rfl, rfl, rfl, hy0, hy1, hy2⟩ := open_agg3 Try.underlying32 (by kernel_rfl) cells32 (hval 0 32 v0 rfl rfl) h0
  obtain ⟨k, e0, rfl, wk⟩ := DataW.trod_int Try.underlying5 hy0
  obtain ⟨a, e1, rfl, wa⟩ := DataW.trod_int Try.underlying3 hy1
  obtain ⟨b, e2, rfl, wb⟩ := DataW.trod_int Try.underlying3 hy2
  simp at e0 e1 e2
  subst e0 e1 e2
  refine (walk k a b W).mono fun e W' ⟨he, hk⟩ => ?_
  subst he
  exact ⟨_, rfl, law_post laidOut (by kernel_rfl) Try.underlying4 rfl (by rw [Try.params9]; exact reads) rfl rfl rfl hW' hk⟩

/-- **The statement.** -/
theorem proved : Rows.AccountNoneSaid :=
  OpenClaim.holds_of_wide 9 Try.f9 rfl rfl rfl rfl rfl rfl rfl ⟨rfl, rfl, rfl, rfl, rfl⟩ rfl rfl rfl rfl rfl (by kernel_rfl) Try.func9 (by kernel_rfl)
    (of_decide_eq_true (by kernel_rfl)) (by unfold Func.isWrapper; first | (rw [if_pos (by decide +kernel)]; kernel_rfl) | (rw [if_neg (by decide +kernel)]; exact ⟨rfl, rfl⟩))
    (fun os started H enc _ => lifted os started H enc)
#print axioms proved
end Go.Proofs.Ytafipmoglaepcaa.accountNone
