/- The statement TopWanted holds of the program: the clerk accepts every want just if all of them together can be served. -/
import Derived.Test.YtjhpkghkgaekcaaGreatDoorMzRe
import Derived.Test.YtjhpkghkgaekcaaGreatDoorMzSaa
import Derived.Test.YtjhpkghkgaekcaaGreatDoorMzSba
import Derived.SevenTiedAt
set_option linter.defProp false
set_option maxRecDepth 100000
namespace Go.Proofs.YtjhpkghkgaekcaaGreatDoor
open Go.Mz Go.Conc Go.ConcN Go.Proofs Go.ChangeShapes Go.WideShapes Go.RowKit
theorem EL(n:Os)(i:n.Started)(H:Type)(f:TypeId×Value->H)(F:Stop.Interp):
  ReturnsInLeavingWide {calm:=true} Tryz.checked n 4 .any (λw e=>(Rows.topWantedSpec.pre f Tryz.prog Tryz.f4 [] false w e/\laidMetH Tryz.prog zN w)/\sizedMet f Tryz.prog Tryz.f4 (OpenSpec.ofChange Rows.topWantedSpec) false w e)
   ((OpenSpec.ofChange Rows.topWantedSpec).postWith f Tryz.prog Tryz.f4 F (outsideKept [.timePasses]) false true false):=by
 refine wX (C:=Tryz.checked) (X:=λw _=>laidMetH Tryz.prog zN w) (λ_ _ _ hh h=>h.of_heap hh) agH i Tryz.func4
  (B4 (enc:=f) (C:=Tryz.checked) (os:=n) (X:=λw _=>laidMetH Tryz.prog zN w) (VW n) #[.slice none 0 0] 8 O aN aN aN aN aN (JF n _)) ?_
 intro W base e ds R l I hW u o;have b:∀(j:Nat) t v,Tryz.f4.params[j]?=some t->e[j]?=some v->Value.okWide Tryz.prog W .any base t v:=I;have J:=hW;have K:∀x∈l,x.block<W.heap.size:=λx hx=>by simpa using J.lt x hx
 obtain⟨p,q,S,z,rfl,u5,u6⟩:=hW;have D:DataW.TrodAll f Tryz.prog W 0 (λ_=>true) true Tryz.f4.params.toList e.toList ds p:=S;have hV:DataW.TrodVars f Tryz.prog W (λ_=>true) [] R q:=z;obtain⟨rfl,rfl⟩:R=[]/\q=[]:=by
  cases R with
  | nil=>exact⟨rfl,hV⟩
  | cons g r=>exact ar hV (by intro h;cases h)
 have G:(DataW.weightsEach Tryz.prog ([22]++[]) (ds++[])).all (·<=reachBytes)=true:=by
  have:=u;exact this
 rw[Tryz.params4] at D b;have k:=D;rw[pf,pf] at G;obtain⟨v0,vs,d0,u7,p0,q0,c,rfl,rfl,t0,D⟩:=trodAll_cons D;obtain⟨rfl,rfl,rfl⟩:=trodAll_nil D;obtain rfl:e=#[v0]:=Array.toList_inj.1 c;have T:∀(j:Nat) t d,([22]:List TypeId)[j]?=some t->[d0][j]?=some d->∀m∈d.weights Tryz.prog t,m<=reachBytes:=λj t d s hd m hm=>by
  have:=mK.1 G m (EP s hd m hm)
  simpa using this
 obtain⟨B,E,u1,rfl,u2,u3⟩:=Kb (b 0 22 v0 rfl rfl) t0 (T 0 22 d0 rfl rfl);refine Ky (RQ B E u1 (mP W) (GY o) u2 u3 λv L' w hq Q y=>?_);obtain⟨rfl,hd⟩:=hq;have hb:=MY hd Q y;simp only[pf] at J K k;refine⟨⟨_,_,_,[],p0,[],J,?_,?_,rfl,hb.frame _,λh=>by cases h⟩,y.os⟩
 ·exact trodAll_mk1 (shut_bool Tryz.underlying4 true)
 ·have u4:∀t∈([22]:List TypeId),Tryz.prog.readableRec t=true/\t<Tryz.prog.types.size:=λt s=>by
   simp only[eP,kB,or_false] at s;rcases s with rfl;exact⟨aN,by rw[nTy];decide⟩
  have a:=Cs (z:=[22]) NL u4 k hb K;exact a
theorem afR:(Rows.topWantedRow.inPlace==Tryz.prog.inPlace 4)=true:=aN
theorem afS:(Rows.topWantedRow.unfollowed==Tryz.prog.unfollowed 4)=true:=aN
theorem afT:(Rows.topWantedRow.recurses==Tryz.prog.recurses 4)=true:=aN
theorem afU:(Rows.topWantedRow.named==Tryz.prog.varsNamed 4)=true:=aN
theorem aaH:Tryz.prog.liftsFinal=Rows.topWantedRow.lifted:=Ul
theorem Ub:joinedFacts Tryz.prog 4 Tryz.f4 Rows.topWantedSpec Rows.topWantedRow=true:=by
 unfold joinedFacts;rw[afR,afS,afT,afU,Uo,Uk,Yw,Un,Um,Uj,Ui,aaH]
 kernel_rfl
theorem LM:Rows.TopWantedSaid:=
 OpenClaim.holds_of_wide_leaving_time 4 Tryz.f4 O O O O O O O ⟨rfl,rfl,rfl,rfl,rfl⟩ O O O O O aN Tryz.func4 Ub
  (gN aN) (by unfold Func.isWrapper;first | (rw[ax iu];kernel_rfl) | (rw[A iu];exact⟨rfl,rfl⟩))
  (λn h H enc _ F=>EL n h H enc F)
end Go.Proofs.YtjhpkghkgaekcaaGreatDoor
set_option maxRecDepth 100000
namespace Go.Proofs.YtjhpkghkgaekcaaGreatDoor
open Go.Mz Go.Conc Go.ConcN Go.Proofs
theorem topWanted_card:Rows.TopWantedCardSaid:=
 Jt LM aN topWanted_row_tie O ⟨rfl,rfl⟩
  (λf fn hf hfn=>by
   obtain rfl:f=4:=bR ((show Tryz.prog.funcNamed "muscovado/muscovadotop.TopWanted"=some 4 by kernel_rfl).symm.trans hf) |>.symm;obtain rfl:fn=Tryz.f4:=(bR (Tryz.func4.symm.trans hfn)).symm;refine⟨aN,λj t ht=>?_⟩;rw[Tryz.params4] at ht;have h3:=fZ (l:=[22]) (i:=j) (a:=t) (by simpa using ht);simp only[eP,kB,or_false] at h3;obtain rfl:t=22:=h3;exact(show Tryz.prog.wantsStandIn 22=false by kernel_rfl))
  aN
#print axioms topWanted_card
end Go.Proofs.YtjhpkghkgaekcaaGreatDoor
set_option maxRecDepth 100000
namespace Go.Proofs.YtjhpkghkgaekcaaGreatDoor
open Go.Mz Go.Conc Go.ConcN Go.Proofs Go.ChangeShapes Go.WideShapes Go.RowKit
end Go.Proofs.YtjhpkghkgaekcaaGreatDoor
set_option maxRecDepth 100000
namespace Go.Proofs.YtjhpkghkgaekcaaGreatDoor
open Go.Mz Go.Conc Go.ConcN Go.Proofs
end Go.Proofs.YtjhpkghkgaekcaaGreatDoor
