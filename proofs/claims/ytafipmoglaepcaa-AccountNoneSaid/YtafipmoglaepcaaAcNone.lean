/-
  awake returns true, and AccountNone returns true for each act. Conditions: none.
-/
import Derived.Test.YtafipmoglaepcaaProg
import Derived.Test.YtafipmoglaepcaaSxTidy
import Derived.KernelRfl
namespace Go.Proofs.Ytafipmoglaepcaa
open Go Go.Sx

def cxBare (P : Program) : Cx := { P, cs := [], anns := [] }
def cAwake : Contract where
  fn := 11
  sorts := []
  args := []
  mem := []
  nb := 0
  pre := []
  outs := []
  res := .bool (.lit 1)
  mods := []
  fresh := []
  post := []
def actA : AV := .agg [.int .u8 (.var 0), .int .i64 (.var 1), .int .i64 (.var 2)]
def cDoesNil : Contract where
  fn := 13
  sorts := [false, false, false]
  args := [.nilptr, actA]
  mem := []
  nb := 0
  pre := []
  outs := []
  res := .tup [.int .i64 (.lit 0), .int .i64 (.lit 1)]
  mods := []
  fresh := []
  post := []
def cDoesEm : Contract where
  fn := 13
  sorts := [false, false, false]
  args := [.ptr 0 (.lit 0) 0 0, actA]
  mem := [(0, .cells [.bool (.lit 0), .nilslice] false)]
  nb := 1
  pre := []
  outs := []
  res := .tup [.int .i64 (.lit 0), .int .i64 (.lit 1)]
  mods := []
  fresh := []
  post := []
theorem cxBare_ok (I : Itp) : ∀ c ∈ (cxBare Try.prog).cs, COk I (cxBare Try.prog).P c := fun c h => by simp [cxBare] at h
theorem awake_ok (I : Itp) : COk I Try.prog cAwake := verify_clean (cx := cxBare Try.prog) (fuel := 3000) (cxBare_ok I) (by kernel_rfl)
theorem doesNil_ok (I : Itp) : COk I Try.prog cDoesNil := verify_clean (cx := cxBare Try.prog) (fuel := 300) (cxBare_ok I) (by kernel_rfl)
theorem doesEm_ok (I : Itp) : COk I Try.prog cDoesEm := verify_clean (cx := cxBare Try.prog) (fuel := 300) (cxBare_ok I) (by kernel_rfl)

def cxNone (P : Program) : Cx := { P, cs := [cAwake, cDoesNil, cDoesEm], anns := [] }
theorem cxNone_ok (I : Itp) : ∀ c ∈ (cxNone Try.prog).cs, COk I (cxNone Try.prog).P c := fun c h => by
  simp only [cxNone, List.mem_cons, List.not_mem_nil, or_false] at h
  rcases h with rfl | rfl | rfl
  · exact awake_ok I
  · exact doesNil_ok I
  · exact doesEm_ok I

def cNone : Contract where
  fn := 9
  sorts := [false, false, false]
  args := [actA]
  mem := []
  nb := 0
  pre := []
  outs := []
  res := .bool (.lit 1)
  mods := []
  fresh := []
  post := []
theorem none_ok (I : Itp) : COk I Try.prog cNone := tidied_ok (fs := noFs) (tot_none I) (cx := cxNone Try.prog) (fuel := 1000) (cxNone_ok I) (by kernel_rfl)
end Go.Proofs.Ytafipmoglaepcaa
