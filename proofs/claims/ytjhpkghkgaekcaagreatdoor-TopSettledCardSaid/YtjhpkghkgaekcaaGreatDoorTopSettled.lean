/- The statement TopSettled holds of the program: what the clerk answers behind the glasses that settle a duty. -/
import Derived.Test.YtjhpkghkgaekcaaGreatDoorMzRe
import Derived.Test.YtjhpkghkgaekcaaGreatDoorMzSaa
import Derived.Test.YtjhpkghkgaekcaaGreatDoorMzSba
import Derived.SevenTiedAt
set_option maxRecDepth 100000
namespace Go.Proofs.YtjhpkghkgaekcaaGreatDoor
open Go.Mz Go.Conc Go.ConcN Go.Proofs Go.ChangeShapes Go.WideShapes Go.RowKit
theorem uj(os:Os)(started:os.Started)(H:Type)(enc:TypeId×Value→H)(F:Stop.Interp):
  ReturnsInLeavingWide {calm:=true} Tryz.checked os 6 .any (fun w args=>(Rows.topSettledSpec.pre enc Tryz.prog Tryz.f6 [] false w args∧laidMetH Tryz.prog zU w)∧sizedMet enc Tryz.prog Tryz.f6 (OpenSpec.ofChange Rows.topSettledSpec) false w args)
   ((OpenSpec.ofChange Rows.topSettledSpec).postWith enc Tryz.prog Tryz.f6 F (outsideKept [.timePasses]) false true false):=by
 refine w7 (C:=Tryz.checked) (X:=fun w _=>laidMetH Tryz.prog zU w) (fun _ _ _ hh h=>h.of_heap hh) acL started Tryz.func6
  (BO (enc:=enc) (C:=Tryz.checked) (os:=os) (X:=fun w _=>laidMetH Tryz.prog zU w) (RA os) #[.slice none 0 0] 8 rfl (by kernel_rfl) (by kernel_rfl) (by kernel_rfl) (by kernel_rfl) (by kernel_rfl) (I8 os _)) ?_
 intro W base args ds gs before ZZ hW Rh hL;have K0:∀(j:Nat) t v,Tryz.f6.params[j]?=some t→args[j]?=some v→Value.okWide Tryz.prog W .any base t v:=ZZ;have YV:=hW;have aU:∀x∈before,x.block<W.heap.size:=fun x hx=>by simpa using YV.lt x hx
 obtain⟨p,q,hA0,hV0,rfl,hfz,fZ⟩:=hW;have hA:DataW.TrodAll enc Tryz.prog W 0 (fun _=>true) true Tryz.f6.params.toList args.toList ds p:=hA0;have hV:DataW.TrodVars enc Tryz.prog W (fun _=>true) [] gs q:=hV0;obtain⟨rfl,rfl⟩:gs=[]∧q=[]:=by
  cases gs with
  | nil=>exact⟨rfl,hV⟩
  | cons g r=>exact absurd hV (by intro h;cases h)
 have ed:(DataW.weightsEach Tryz.prog ([22]++[]) (ds++[])).all (·≤reachBytes)=true:=by
  have:=Rh;exact this
 rw[Tryz.params6] at hA K0;have hA6:=hA;rw[List.append_nil,List.append_nil] at ed;obtain⟨v0,vs,d0,ds0,p0,q0,D9,rfl,rfl,t0,hA⟩:=trodAll_cons hA;obtain⟨rfl,rfl,rfl⟩:=trodAll_nil hA;obtain rfl:args=#[v0]:=Array.toList_inj.1 D9;have gI:∀(j:Nat) t d,([22]:List TypeId)[j]?=some t→[d0][j]?=some d→∀m∈d.weights Tryz.prog t,m≤reachBytes:=fun j t d ht hd m hm=>by
  have:=List.all_eq_true.1 ed m (E6 ht hd m hm)
  simpa using this
 obtain⟨Y0,zL,Rc,rfl,hh0,IQ⟩:=Jq (K0 0 22 v0 rfl rfl) t0 (gI 0 22 d0 rfl rfl);refine Jx (Dr Y0 zL Rc (iS W) (F0 hL) hh0 IQ fun v L' w hq gB pK=>?_);obtain⟨rfl,hd⟩:=hq;have hb:=Mq hd gB pK;simp only[List.append_nil] at YV aU hA6;refine⟨⟨_,_,_,[],p0,[],YV,?_,?_,rfl,hb.frame _,fun h=>by cases h⟩,pK.os⟩
 ·exact trodAll_mk1 (shut_bool Tryz.underlying4 true)
 ·have tR:∀t∈([22]:List TypeId),Tryz.prog.readableRec t=true∧t<Tryz.prog.types.size:=fun t ht=>by
   simp only[List.mem_cons,List.not_mem_nil,or_false] at ht;rcases ht with rfl;exact⟨by kernel_rfl,by rw[nTy];decide⟩
  have dh:=zh (ts:=[22]) Nz tR hA6 hb aU;exact dh
theorem VZ:(Rows.topSettledRow.inPlace==Tryz.prog.inPlace 6)=true:=by kernel_rfl
theorem V0:(Rows.topSettledRow.unfollowed==Tryz.prog.unfollowed 6)=true:=by kernel_rfl
theorem V1:(Rows.topSettledRow.recurses==Tryz.prog.recurses 6)=true:=by kernel_rfl
theorem V2:(Rows.topSettledRow.named==Tryz.prog.varsNamed 6)=true:=by kernel_rfl
theorem NW:Tryz.prog.liftsFinal=Rows.topSettledRow.lifted:=SM
theorem Hp:joinedFacts Tryz.prog 6 Tryz.f6 Rows.topSettledSpec Rows.topSettledRow=true:=by
 unfold joinedFacts;rw[VZ,V0,V1,V2,SQ,SL,V8,SO,SN,SK,SJ,NW]
 kernel_rfl
theorem yE:Rows.TopSettledSaid:=
 OpenClaim.holds_of_wide_leaving_time 6 Tryz.f6 rfl rfl rfl rfl rfl rfl rfl ⟨rfl,rfl,rfl,rfl,rfl⟩ rfl rfl rfl rfl rfl (by kernel_rfl) Tryz.func6 Hp
  (of_decide_eq_true (by kernel_rfl)) (by unfold Func.isWrapper;first | (rw[if_pos (by decide+kernel)];kernel_rfl) | (rw[if_neg (by decide+kernel)];exact⟨rfl,rfl⟩))
  (fun os started H enc _ F=>uj os started H enc F)
end Go.Proofs.YtjhpkghkgaekcaaGreatDoor
set_option maxRecDepth 100000
namespace Go.Proofs.YtjhpkghkgaekcaaGreatDoor
open Go.Mz Go.Conc Go.ConcN Go.Proofs
theorem topSettled_card:Rows.TopSettledCardSaid:=
 Iz yE (by kernel_rfl) topSettled_row_tie rfl ⟨rfl,rfl⟩
  (fun f fn hf tH=>by
   obtain rfl:f=6:=Option.some.inj ((show Tryz.prog.funcNamed "muscovado/muscovadotop.TopSettled"=some 6 by kernel_rfl).symm.trans hf) |>.symm;obtain rfl:fn=Tryz.f6:=(Option.some.inj (Tryz.func6.symm.trans tH)).symm;refine⟨by kernel_rfl,fun j t ht=>?_⟩;rw[Tryz.params6] at ht;have h3:=List.mem_of_getElem? (l:=[22]) (i:=j) (a:=t) (by simpa using ht);simp only[List.mem_cons,List.not_mem_nil,or_false] at h3;obtain rfl:t=22:=h3;exact(show Tryz.prog.wantsStandIn 22=false by kernel_rfl))
  (by kernel_rfl)
#print axioms topSettled_card
end Go.Proofs.YtjhpkghkgaekcaaGreatDoor
