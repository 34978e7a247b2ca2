/-
  SpoilPuts returns true for each two states and each fault, and its arguments read as they did; the tied card. Conditions: none.
-/
import Derived.Test.YtmjjjhinedogjaaGreatDoorCards
import Derived.Test.YtmjjjhinedogjaaGreatDoorTie
import Derived.Test.YtmjjjhinedogjaaGreatDoorQ4
import Derived.Test.YtmjjjhinedogjaaGreatDoorD7
import Derived.Test.YtmjjjhinedogjaaGreatDoorD9
import Derived.Test.YtmjjjhinedogjaaGreatDoorA5
import Derived.Lib.SmallJoins
import Derived.WalkKit
import Derived.ProofKit
import Derived.OpenShut
import Derived.SevenTiedAt
namespace Go.Proofs.YtmjjjhinedogjaaGreatDoor.spoilPuts
open Go.ChangeShapes Go.WideShapes Go.ChangeAt Go.RowKit Go.Joins Go.Deep Go.Sx
theorem own:ownKnob Tryz.prog.godebug=none:=by kernel_rfl
theorem reads:∀t∈([63,63,65]:List TypeId),Tryz.prog.readableRec t=true/\t<Tryz.prog.types.size:=by
 intro t ht;simp only [List.mem_cons,List.not_mem_nil,or_false] at ht;rcases ht with rfl | rfl | rfl
 . exact ⟨by kernel_rfl,of_decide_eq_true (by kernel_rfl)⟩
 . exact ⟨by kernel_rfl,of_decide_eq_true (by kernel_rfl)⟩
 . exact ⟨by kernel_rfl,of_decide_eq_true (by kernel_rfl)⟩
def zst:Array Value:=(Go.Sp.ni.map fun y=>match y with
 | .c .bool=>.bool false
 | .c _=>.int .i64 0
 | .s _=>.slice none 0 0).toArray
set_option maxRecDepth 100000 in
theorem lifted (os:Os) (started:os.Started) (H:Type) (enc:TypeId × Value->H) :
   ReturnsInHanded {} Tryz.checked os 4 .any (fun w args=>(Rows.spoilPutsSpec.pre enc Tryz.prog Tryz.f4 [] false w args/\laidMetH Tryz.prog Go.Mg.Gf w)/\sizedMet enc Tryz.prog Tryz.f4 (OpenSpec.ofChange Rows.spoilPutsSpec) false w args)
     (Rows.spoilPutsSpec.post enc Tryz.prog Tryz.f4 false true false false):=by
 refine returnsInHanded_of_change_and (C:=Tryz.checked) (X:=fun w _=>laidMetH Tryz.prog Go.Mg.Gf w) (fun _ _ _ hh h=>h.of_heap hh) own started (by kernel_rfl) Tryz.func4
   (ChangeSpec.witness_shaped (enc:=enc) (C:=Tryz.checked) (os:=os) (X:=fun w _=>laidMetH Tryz.prog Go.Mg.Gf w) false (World.doorLaid Tryz.prog 19 os) #[.agg zst,.agg zst,.agg #[.int .i64 0,.int .i64 0,.int .i64 0,.int .i64 0]] 8 rfl (World.shaped_of_RefB (by kernel_rfl) (by kernel_rfl)) (by kernel_rfl) (by kernel_rfl) (by kernel_rfl) (Go.Mg.Ti os _)) ?_
 intro W base args ds gs before hval0 hW _ _ hL _;have hval:∀(j:Nat) t v,Tryz.f4.params[j]?=some t->args[j]?=some v->Value.okWide Tryz.prog W .any base t v:=hval0;have hW':=hW;obtain ⟨p,q,hA0,hV,rfl,hfz,hnd⟩:=hW;have hA:DataW.TrodAll enc Tryz.prog W 0 (fun _=>true) true Tryz.f4.params.toList args.toList ds p:=hA0;rw [Tryz.params4] at hA hval;obtain ⟨v0,v1,v2,d0,d1,d2,p0,p1,p2,rfl,rfl,rfl,h0,h1,h2⟩:=trodAll_three hA;obtain ⟨rfl,rfl⟩:=trodVars_none hV;obtain ⟨cs,l0,rfl,hl⟩:=Go.Sp.Xd Go.Sp.UU Go.Sp.qqP (hval 0 63 v0 rfl rfl) h0;obtain ⟨cs2,l1,rfl,hl2⟩:=Go.Sp.Xd Go.Sp.UU Go.Sp.qqP (hval 1 63 v1 rfl rfl) h1;obtain ⟨fs,l2,rfl,hf⟩:=Go.Sp.Xd Go.Sp.qqN Go.Sp.qqD (hval 2 65 v2 rfl rfl) h2;obtain ⟨a,b,c,x,rfl,ra,rb,rc,rx⟩:=Go.Sp.Fg hf;refine (Go.Sp.PG hl hl2 rx (Go.Mg.Ct hL)).mono fun e W' ⟨he,hk⟩=>?_;subst he;exact ⟨_,rfl,SB Go.Mg.IJ (by kernel_rfl) Tryz.underlying4 rfl (by rw [Tryz.params4];exact reads) rfl rfl rfl hW' ⟨hk.1,hk.2.1,hk.2.2.1,hk.2.2.2⟩⟩
theorem holds:Rows.SpoilPutsSaid:=
 OpenClaim.holds_of_wide 4 Tryz.f4 rfl rfl rfl rfl rfl rfl rfl ⟨rfl,rfl,rfl,rfl,rfl⟩ rfl rfl rfl rfl rfl (by as_aux_lemma=>kernel_rfl) Tryz.func4 Go.Mg.LM
   (of_decide_eq_true (by as_aux_lemma=>kernel_rfl)) (by unfold Func.isWrapper;first | (rw [if_pos (by decide +kernel)];kernel_rfl) | (rw [if_neg (by decide +kernel)];exact ⟨rfl,rfl⟩))
   (fun os started H enc _=>lifted os started H enc)
theorem proved:Rows.SpoilPutsCardSaid:=
 Claim7.holds_tied_plain_at .later [] [.data,.data] true (true,"916a9808cc49c4933b7199ea823071cb83962162edbd0ff782520c20fe42bbd3") false
   holds (fun _ h=>by cases h) (by as_aux_lemma=>kernel_rfl) (fun _ h=>by cases h) spoilPuts_row_tie rfl ⟨rfl,rfl⟩ (by as_aux_lemma=>kernel_rfl) rfl
   (fun f fn hf hfn=>by
     obtain rfl:f=4:=Option.some.inj ((show Tryz.prog.funcNamed "polder/polderlaw29.SpoilPuts" = some 4 by as_aux_lemma=>kernel_rfl).symm.trans hf) |>.symm
     obtain rfl:fn=Tryz.f4:=(Option.some.inj (Tryz.func4.symm.trans hfn)).symm
     exact ⟨by as_aux_lemma=>kernel_rfl,fun j t ht=>by
       rw [Tryz.params4] at ht;have hm:t∈[63,63,65]:=by simpa using Array.mem_of_getElem? ht
       have hall:([63,63,65].all fun u=>!Tryz.prog.wantsStandIn u)=true:=by kernel_rfl
       exact (show Tryz.prog.wantsStandIn t=false by simpa using List.all_eq_true.1 hall t hm)⟩)
   Go.Mg.Uz
#print axioms proved
end Go.Proofs.YtmjjjhinedogjaaGreatDoor.spoilPuts
