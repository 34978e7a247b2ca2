/-
  What a row's listed variables give the executor: the two tables' cells. Conditions: none.
-/
import Derived.Test.YtmjjjhinedogjaaGreatDoorRows
import Derived.Test.YtmjjjhinedogjaaGreatDoorB1
import Derived.ProofKit
import Derived.LaidMore
import Derived.OpenShut
import Derived.MakeChecks
import Derived.Stop.Joined
namespace Go.Mg
open Go Go.Sx Go.Proofs Go.ChangeShapes Go.WideShapes Go.ChangeAt
section
variable {H:Type} {enc:TypeId × Value->H} {P:Program} {w:World} {base:Nat} {sp:Nat->Bool} {held:Bool}
theorem Wt {t e:TypeId} {n fuel:Nat} {k:IntKind} {cs:List Value} {l:List Int} {p:List MemPlace} (ht:P.underlying t=some (.array n e)) (he:P.underlying e=some (.int k)) (hce:P.cellsOf e=1)
   (h:DataW.trod enc P w base sp held fuel t cs=some (.agg (l.map fun n=>.lit (.int k n)),p)):∀(i:Nat) (x:Int),l[i]?=some x->cs[i]?=some (.int k x):=by
 intro i x hi;obtain ⟨xs,m,_,hx,_,hlen,hel⟩:=DataW.trod_array ht h;simp only [Prod.mk.injEq,DataW.agg.injEq] at hx;obtain ⟨hx,_⟩:=hx
 have hlt:i<n:=by
   have h1:=(List.getElem?_eq_some_iff.1 hi).1;have h2:=congrArg List.length hx;simp at h2;omega
 have h1:=hel i hlt;rw [hce,Nat.mul_one] at h1;have h2:(l.map fun n=>(DataW.lit (.int k n):DataW H))[i]?=some (.lit (.int k x)):=by rw [List.getElem?_map,hi];rfl
 rw [hx,List.getElem?_map] at h2;cases hy:xs[i]? with
 | none=>rw [hy] at h2;cases h2
 | some y=>
   rw [hy] at h1 h2;obtain ⟨r,e1,e2,_⟩:=DataW.trod_int he h1;rw [e2] at h2;simp only [Option.map_some,Option.some.injEq,DataW.lit.injEq,Lit.int.injEq,true_and] at h2;subst h2;have e3:((cs.drop i).take 1)[0]?=some (.int k r):=by rw [e1];rfl
   rw [List.getElem?_take_of_lt (by omega),List.getElem?_drop] at e3;simpa using e3
end
theorem g32:Tryz.prog.globalNamed "math/bits.deBruijn32tab" = some 0:=by kernel_rfl
theorem g64:Tryz.prog.globalNamed "math/bits.deBruijn64tab" = some 1:=by kernel_rfl
abbrev Gf:List (String × DataW Unit):=[("math/bits.deBruijn32tab",YtmjjjhinedogjaaGreatDoor.Rows.laid_math_bits_deBruijn32tab),("math/bits.deBruijn64tab",YtmjjjhinedogjaaGreatDoor.Rows.laid_math_bits_deBruijn64tab)]
theorem Wv {P:Program} {W:World} {s:String} {g:Nat} {cs:Array Value} (hg:P.globalNamed s=some g) (h:W.var? P s=some cs):∃T fr,W.heap[g]?=some (.cells cs T fr):=by
 simp only [World.var?,hg,Option.bind_some] at h;split at h
 . rename_i c T fr hh;simp at h;subst h;exact ⟨T,fr,hh⟩
 . cases h
theorem Ct {W:World} (h:laidMetH Tryz.prog Gf W):GOk gls { w0:=W,X:=fun _=>False }:=by
 rw [MakeChecks.laidMetH_plain _ _ _ (by kernel_rfl)] at h;obtain ⟨ps,⟨g0,t0,cs0,f0,p0,q0,hg0,ht0,hv0,hd0,⟨g1,t1,cs1,f1,p1,q1,hg1,ht1,hv1,hd1,_,_⟩,_⟩,_,_⟩:=h;obtain rfl:=Option.some.inj (g32.symm.trans hg0);obtain rfl:=Option.some.inj (g64.symm.trans hg1);have e0:((Tryz.prog.globals[0]?).map (·.type)).bind (fun t=>Tryz.prog.underlying t)=some (.array 32 5):=by kernel_rfl
 have e1:((Tryz.prog.globals[1]?).map (·.type)).bind (fun t=>Tryz.prog.underlying t)=some (.array 64 5):=by kernel_rfl
 rw [ht0] at e0;rw [ht1] at e1;have u5:Tryz.prog.underlying 5=some (.int .u8):=by kernel_rfl
 have c5:Tryz.prog.cellsOf 5=1:=by kernel_rfl
 obtain ⟨T0,r0,k0⟩:=Wv hg0 hv0;obtain ⟨T1,r1,k1⟩:=Wv hg1 hv1;have d0:=Wt (l:=U0) (by simpa using e0) u5 c5 hd0;have d1:=Wt (l:=UE) (by simpa using e1) u5 c5 hd1;have lt:∀{i:Nat} {b:Obj},W.heap[i]?=some b->i<W.heap.size:=fun h=>(Array.getElem?_eq_some_iff.1 h).1;intro x hx;simp only [gls,List.mem_cons,List.not_mem_nil,or_false] at hx;rcases hx with rfl | rfl
 . exact ⟨rfl,lt k1,fun h=>h,cs1,T1,r1,k1,fun k n hn=>by rw [<-Array.getElem?_toList];exact d1 k n hn,fun h=>(by cases h),fun h=>(by cases h),fun h=>(by cases h)⟩
 . exact ⟨rfl,lt k0,fun h=>h,cs0,T0,r0,k0,fun k n hn=>by rw [<-Array.getElem?_toList];exact d0 k n hn,fun h=>(by cases h),fun h=>(by cases h),fun h=>(by cases h)⟩
theorem Ti (os:Os) (args:Array Value):laidMetH Tryz.prog Gf ((World.doorLaid Tryz.prog 19 os).forCall (fun _ _=>0) ⟨#[],args,[]⟩).memory:=
 laidMetH_of_parts3 (fuel:=8) (laidMet_of_run' 8 (by kernel_rfl) (by kernel_rfl)) (by kernel_rfl) (by kernel_rfl)
end Go.Mg
