/-
  Put is as its contract says: its parts, joined. Conditions: none.
-/
import Derived.Test.YtmjjjhinedogjaaGreatDoorK3
import Derived.Test.YtmjjjhinedogjaaGreatDoorG0
import Derived.Test.YtmjjjhinedogjaaGreatDoorG1
import Derived.Test.YtmjjjhinedogjaaGreatDoorG2
import Derived.Test.YtmjjjhinedogjaaGreatDoorG3
noncomputable section
namespace Go.Sp
open Go Go.Sx Go.Proofs
set_option maxRecDepth 1000000
set_option maxHeartbeats 4000000
structure QA (m:Mask):Prop where
 h:∀ds,Sorts jk.sorts ds->(qK spS (jJ Tryz.prog) 3000 jk m).vc JI ds
def mk (i:Nat):Mask:=zU.getD i .none
def QZ (m:Mask):Prop:=∀ds,Sorts oO.sorts ds->(qK spS (Vk Tryz.prog) 3000 oO m).vc JI ds
theorem COk.split {I:Itp} {P:Program} {gl:List Glob} {c:Contract} (L:List (List PE)) (h:∀ps∈L,COk I P gl { c with pre:=ps }) (hc:∀env,Sorts c.sorts env->(∀p∈c.pre,p.den I env)->∃ps∈L,∀p∈ps,p.den I env):COk I P gl c:=fun g w xs hso hnb hG hm ha hp=>by
 obtain ⟨ps,h1,h2⟩:=hc g.env hso hp;exact h ps h1 g w xs hso hnb hG hm ha h2
theorem qzZ:COk JI Tryz.prog gl0 Pt:=qN zy (cx:=Om Tryz.prog) VU qyu qkI
theorem TW {I:Itp} {P:Program} {gl:List Glob}:∀{l m:List Contract},(∀c∈l,COk I P gl c)->(∀c∈m,COk I P gl c)->∀c∈l++m,COk I P gl c:=fun h1 h2 c hc=>by
 rcases List.mem_append.1 hc with h | h
 . exact h1 c h
 . exact h2 c h
theorem qA (i:Nat) (h:qK spS (jJ Tryz.prog) 3000 jk (zU.getD i .none)=jR.qY (zU.getD i .none)):QA (mk i):=⟨lu h qqW⟩
theorem zq0:QA (mk 0):=@qA (@OfNat.ofNat.{0} Nat (nat_lit 0) (instOfNatNat (nat_lit 0))) pA0
theorem zq1:QA (mk 1):=@qA (@OfNat.ofNat.{0} Nat (nat_lit 1) (instOfNatNat (nat_lit 1))) pA1
theorem zq2:QA (mk 2):=@qA (@OfNat.ofNat.{0} Nat (nat_lit 2) (instOfNatNat (nat_lit 2))) pA2
theorem zq3:QA (mk 3):=@qA (@OfNat.ofNat.{0} Nat (nat_lit 3) (instOfNatNat (nat_lit 3))) pA3
theorem zq4:QA (mk 4):=@qA (@OfNat.ofNat.{0} Nat (nat_lit 4) (instOfNatNat (nat_lit 4))) pA4
theorem zq5:QA (mk 5):=@qA (@OfNat.ofNat.{0} Nat (nat_lit 5) (instOfNatNat (nat_lit 5))) pA5
theorem zq6:QA (mk 6):=@qA (@OfNat.ofNat.{0} Nat (nat_lit 6) (instOfNatNat (nat_lit 6))) pA6
theorem zq7:QA (mk 7):=@qA (@OfNat.ofNat.{0} Nat (nat_lit 7) (instOfNatNat (nat_lit 7))) pA7
theorem zq8:QA (mk 8):=@qA (@OfNat.ofNat.{0} Nat (nat_lit 8) (instOfNatNat (nat_lit 8))) pA8
theorem zq9:QA (mk 9):=@qA (@OfNat.ofNat.{0} Nat (nat_lit 9) (instOfNatNat (nat_lit 9))) pA9
theorem qkg:QA (mk 10):=@qA (@OfNat.ofNat.{0} Nat (nat_lit 10) (instOfNatNat (nat_lit 10))) qwR
theorem qkv:QA (mk 11):=@qA (@OfNat.ofNat.{0} Nat (nat_lit 11) (instOfNatNat (nat_lit 11))) qwP
theorem qkx:QA (mk 12):=@qA (@OfNat.ofNat.{0} Nat (nat_lit 12) (instOfNatNat (nat_lit 12))) qwN
theorem qky:QA (mk 13):=@qA (@OfNat.ofNat.{0} Nat (nat_lit 13) (instOfNatNat (nat_lit 13))) qwM
theorem qkw:QA (mk 14):=@qA (@OfNat.ofNat.{0} Nat (nat_lit 14) (instOfNatNat (nat_lit 14))) qwH
theorem qkk:QA (mk 15):=@qA (@OfNat.ofNat.{0} Nat (nat_lit 15) (instOfNatNat (nat_lit 15))) qwF
theorem qkj:QA (mk 16):=@qA (@OfNat.ofNat.{0} Nat (nat_lit 16) (instOfNatNat (nat_lit 16))) qwD
theorem qkz:QA (mk 17):=@qA (@OfNat.ofNat.{0} Nat (nat_lit 17) (instOfNatNat (nat_lit 17))) qwB
theorem qkq:QA (mk 18):=@qA (@OfNat.ofNat.{0} Nat (nat_lit 18) (instOfNatNat (nat_lit 18))) qwG
theorem qj9:QA (mk 19):=@qA (@OfNat.ofNat.{0} Nat (nat_lit 19) (instOfNatNat (nat_lit 19))) qwV
theorem qj8:QA (mk 20):=@qA (@OfNat.ofNat.{0} Nat (nat_lit 20) (instOfNatNat (nat_lit 20))) qwX
theorem qj7:QA (mk 21):=@qA (@OfNat.ofNat.{0} Nat (nat_lit 21) (instOfNatNat (nat_lit 21))) qwY
theorem qj6:QA (mk 22):=@qA (@OfNat.ofNat.{0} Nat (nat_lit 22) (instOfNatNat (nat_lit 22))) qwW
theorem qj5:QA (mk 23):=@qA (@OfNat.ofNat.{0} Nat (nat_lit 23) (instOfNatNat (nat_lit 23))) qwK
theorem qj4:QA (mk 24):=@qA (@OfNat.ofNat.{0} Nat (nat_lit 24) (instOfNatNat (nat_lit 24))) qwJ
theorem qj3:QA (mk 25):=@qA (@OfNat.ofNat.{0} Nat (nat_lit 25) (instOfNatNat (nat_lit 25))) qwZ
theorem qj2:QA (mk 26):=@qA (@OfNat.ofNat.{0} Nat (nat_lit 26) (instOfNatNat (nat_lit 26))) qwQ
theorem qj1:QA (mk 27):=@qA (@OfNat.ofNat.{0} Nat (nat_lit 27) (instOfNatNat (nat_lit 27))) qwe
theorem qj0:QA (mk 28):=@qA (@OfNat.ofNat.{0} Nat (nat_lit 28) (instOfNatNat (nat_lit 28))) qwa
theorem qjE:QA (mk 29):=@qA (@OfNat.ofNat.{0} Nat (nat_lit 29) (instOfNatNat (nat_lit 29))) qwo
theorem qjA:QA (mk 30):=@qA (@OfNat.ofNat.{0} Nat (nat_lit 30) (instOfNatNat (nat_lit 30))) qwi
def lA:List Mask:=[mk 0,mk 1,mk 2,mk 3,mk 4,mk 5,mk 6,mk 7,mk 8,mk 9,mk 10,mk 11,mk 12,mk 13,mk 14,mk 15,mk 16,mk 17,mk 18,mk 19,mk 20,mk 21,mk 22,mk 23,mk 24,mk 25,mk 26,mk 27,mk 28,mk 29,mk 30]
theorem allA:∀m∈lA,QA m:=(qc (Q:=QA) zq0 (qc (Q:=QA) zq1 (qc (Q:=QA) zq2 (qc (Q:=QA) zq3 (qc (Q:=QA) zq4 (qc (Q:=QA) zq5 (qc (Q:=QA) zq6 (qc (Q:=QA) zq7 (qc (Q:=QA) zq8 (qc (Q:=QA) zq9 (qc (Q:=QA) qkg (qc (Q:=QA) qkv (qc (Q:=QA) qkx (qc (Q:=QA) qky (qc (Q:=QA) qkw (qc (Q:=QA) qkk (qc (Q:=QA) qkj (qc (Q:=QA) qkz (qc (Q:=QA) qkq (qc (Q:=QA) qj9 (qc (Q:=QA) qj8 (qc (Q:=QA) qj7 (qc (Q:=QA) qj6 (qc (Q:=QA) qj5 (qc (Q:=QA) qj4 (qc (Q:=QA) qj3 (qc (Q:=QA) qj2 (qc (Q:=QA) qj1 (qc (Q:=QA) qj0 (qc (Q:=QA) qjE (qc (Q:=QA) qjA Ju)))))))))))))))))))))))))))))))
theorem qjR:∀m∈lA,∀ds,Sorts jk.sorts ds->(qK spS (jJ Tryz.prog) 3000 jk m).vc JI ds:=fun m hm=>(allA m hm).h
theorem isA:(QT lA).isAll=true:=by kernel_rfl
theorem Aj:COk JI Tryz.prog gl0 jk:=gq (fuel:=3000) zy (cx:=jJ Tryz.prog) (TW H6 (qx qzZ qG)) isA qjR
theorem Az:COk JI Tryz.prog gl0 oO:=
 gq (fuel:=3000) zy (cx:=Vk Tryz.prog) (TW H6 VU) (l:=[WR.getD 0 .none,WR.getD 1 .none]) (by kernel_rfl) (show ∀m∈_,QZ m from qc (lu pZ0 UC) (qc (lu pZ1 UC) Ju))
theorem qzu:COk JI Tryz.prog gl0 Pp:=
 COk.split [jk.pre,oO.pre] (fun ps h=>by
   simp only [List.mem_cons,List.not_mem_nil,or_false] at h;rcases h with rfl | rfl
   . exact Aj
   . exact Az) fun env hs hp=>by
   obtain ⟨S,k,i,f,to,hS,rfl⟩:=nX hs;have hE:=uN hS (hp (.pr 31 (vs 0)) (List.Mem.head _)) (hp (.rng .i64 (v (NV+3))) (List.Mem.tail _ (List.Mem.head _)));by_cases e:k=9
   . refine ⟨oO.pre,List.Mem.tail _ (List.Mem.head _),fun p h=>?_⟩;have h:p∈[PE.pr 31 (vs 0),.rng .i64 (v (NV+3)),.same (v 281) (.lit 9)]:=h;rcases List.mem_cons.1 h with rfl | h
     . exact hp _ (List.Mem.head _)
     rcases List.mem_cons.1 h with rfl | h
     . exact hp _ (List.Mem.tail _ (List.Mem.head _))
     obtain rfl:=List.mem_singleton.1 h;subst e;exact ⟨_,hE.dk,rfl⟩
   . refine ⟨jk.pre,List.Mem.head _,fun p h=>?_⟩;have h:p∈[PE.pr 31 (vs 0),.rng .i64 (v (NV+3)),.tt (.bin .ne (v 281) (.lit 9))]:=h;rcases List.mem_cons.1 h with rfl | h
     . exact hp _ (List.Mem.head _)
     rcases List.mem_cons.1 h with rfl | h
     . exact hp _ (List.Mem.tail _ (List.Mem.head _))
     obtain rfl:=List.mem_singleton.1 h;exact PU hE.dk dl e
end Go.Sp
end
