/-
  SpoilOrder, called with a state and two faults as they lie in memory, returns true. Conditions: none.
-/
import Derived.Test.YtmjjjhinedogjaaGreatDoorQ3
import Derived.Test.YtmjjjhinedogjaaGreatDoorQ2
import Derived.Test.YtmjjjhinedogjaaGreatDoorB4
noncomputable section
namespace Go.Sp
open Go Go.Sx Go.Proofs
theorem qkz:COk JI Tryz.prog gl0 cAw:=Go.Mg.TH
set_option maxRecDepth 1000000 in
theorem SL {W:World} {cs:Array Value} {ds:List D} {a b c e a2 b2 c2 e2:Int} (hl:lZ W uz cs.toList ds) (he:R64 e) (he2:R64 e2) (hG:GOk gl0 { w0:=W,X:=fun _=>False }) :
   Calls Tryz.prog 5 #[.agg cs,.agg #[.int .i64 a,.int .i64 b,.int .i64 c,.int .i64 e],.agg #[.int .i64 a2,.int .i64 b2,.int .i64 c2,.int .i64 e2]] W fun r w'=>r=.returned (.bool true)∧w'.os=W.os∧w'.output=W.output∧W.heap.size≤w'.heap.size∧∀i,i<W.heap.size→w'.heap[i]?=W.heap[i]?:=by
 have hs:=uY hl
 have hn:ds.length=281:=by rw [hs.length];decide +kernel
 have h:=COk.lies (Ux qkz) hl rfl (by decide +kernel) (es:=[.i a,.i b,.i c,.i e,.i a2,.i b2,.i c2,.i e2]) (oL hs (by exact trivial)) hG (xs:=[.agg cs,.agg #[.int .i64 a,.int .i64 b,.int .i64 c,.int .i64 e],.agg #[.int .i64 a2,.int .i64 b2,.int .i64 c2,.int .i64 e2]])
   (fun g hg hr=>⟨⟨_,rfl,hr⟩,⟨_,rfl,⟨a,by rw [hg];exact at_end hn 0 rfl,rfl⟩,⟨b,by rw [hg];exact at_end hn 1 rfl,rfl⟩,⟨c,by rw [hg];exact at_end hn 2 rfl,rfl⟩,⟨e,by rw [hg];exact at_end hn 3 rfl,rfl⟩,trivial⟩,⟨_,rfl,⟨a2,by rw [hg];exact at_end hn 4 rfl,rfl⟩,⟨b2,by rw [hg];exact at_end hn 5 rfl,rfl⟩,⟨c2,by rw [hg];exact at_end hn 6 rfl,rfl⟩,⟨e2,by rw [hg];exact at_end hn 7 rfl,rfl⟩,trivial⟩,trivial⟩)
   (fun p hp=>by
     have hp:p∈[PE.pr 58 (vs 0),.rng .i64 (v (NV+3)),.rng .i64 (v (NV+7))]:=hp
     rcases List.mem_cons.1 hp with rfl | hp
     · refine (show (PE.pr 58 (rgs 0 281 [])).den JI (ds++[.i a,.i b,.i c,.i e,.i a2,.i b2,.i c2,.i e2]) from (q0 (⟨hs⟩:Go.Sp.St ds)).2 ⟨[],rfl,?_⟩)
       show Typed ((ds++[]).take 281)
       rw [List.append_nil,List.take_of_length_le (by omega)]
       exact NY (Je hl)
     rcases List.mem_cons.1 hp with rfl | hp
     · exact ⟨e,at_end hn 3 rfl,LM he⟩
     · obtain rfl:=List.mem_singleton.1 hp
       exact ⟨e2,at_end hn 7 rfl,LM he2⟩)
 refine h.mono fun r w' hr=>?_
 obtain ⟨v,outs,g',rfl,_,_,⟨n,hn,rfl⟩,_,h1,h2,h3,h4⟩:=hr
 simp only [E.den,Option.some.injEq,D.i.injEq] at hn
 subst hn
 exact ⟨rfl,h1,h2,h3,h4⟩
end Go.Sp
end
