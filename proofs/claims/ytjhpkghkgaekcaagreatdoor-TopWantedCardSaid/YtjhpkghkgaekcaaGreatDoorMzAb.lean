/- Lemmas for the claim. -/
import Derived.Test.YtjhpkghkgaekcaaGreatDoorMzAa
import Derived.Conc.CrowdSel
set_option linter.defProp false
set_option maxRecDepth 100000
namespace Go.Mz
open Go.Conc
variable {P:aV}{α:Type}{n k m:Nat}{t e:bh}{w u:World}{h:α->List Value}{c:Int}{x:aW}{Y:Trace}{l:aH}{r:List α}{q:aU}{j:aR}{D:bt}{d:bA}{g:aT}{o:bD}{K:bI}{I:cj}{H:ck}
section
set_option linter.unusedSimpArgs false
def Ak{P:Program}{gs:Array Goroutine}{w agN:World}{sl:Option (Nat×Nat)}{i k:Nat}{g kF:Goroutine}{es:Array Event}{cases:Array CommCase}{shape:CommShape}{blocking:Bool}{c cap s r:Nat}{closed tm:Bool}{z:Value}
  (hi:gs[i]?=g)(h:stepG P (i==0) g w=.comm kF cases blocking shape agN es)(hk:cases[k]?=rcase c z)
  (ho:∀(m:Nat) (c':CommCase),m≠k->cases[m]?=c'->NoWays agN (gs.setIfInBounds i ph) c')
  (hc:agN.heap[c]?=some (.chan cap #[] closed s r tm))
  (CC:partners (gs.setIfInBounds i ph) c true≠[])
  (oe:∀j k,(j,k)∈partners (gs.setIfInBounds i ph) c true->k=0/\j≠i/\∃gj vj zj shj,gs[j]?=parked gj #[scase c vj zj] shj):
  ∃(j:Nat) (gj:Goroutine) (vj zj:Value) (shj:CommShape) (d:Nat),j≠i/\gs[j]?=parked gj #[scase c vj zj] shj/\
   runT P (crowd gs w sl) i=(.next (crowd ((gs.setIfInBounds j (gj.finishComm P #[scase c vj zj] shj 0 undef false)).setIfInBounds i (kF.finishComm P cases shape k vj true)) ((agN.at d).setChan c cap #[] closed (s+1) (r+1) tm) sl),
    MemOp.ofEvents i g.frame.fn g.frame.place es++#[{g:=j,fn:=gj.frame.fn,pos:=gj.frame.place,act:=.send c s},{g:=i,fn:=kF.frame.fn,pos:=kF.frame.place,act:=.recv c r cap},
     {g:=j,fn:=gj.frame.fn,pos:=gj.frame.place,act:=.sendDone c s},{g:=i,fn:=kF.frame.fn,pos:=kF.frame.place,act:=.recvDone c r}]):=by
 generalize hps:partners (gs.setIfInBounds i ph) c true=ps at CC oe;let hlen:=List.length_pos_iff.2 CC;obtain⟨b,d,hb,hpick⟩:∃b d,b<ps.length/\(if(Question.extern "which waiting goroutine is the partner" ps.length).forced=true then(b=0/\d=agN.drawn) else(b=(Question.extern "which waiting goroutine is the partner" ps.length).cut (agN.tape agN.drawn (.extern "which waiting goroutine is the partner" ps.length))/\d=agN.drawn+1)):=by
  by_cases hf:(Question.extern "which waiting goroutine is the partner" ps.length).forced=true
  .exact⟨0,agN.drawn,hlen,by rw[if_pos hf];exact⟨rfl,rfl⟩⟩
  .refine⟨_,agN.drawn+1,?_,by rw[if_neg hf];exact⟨rfl,rfl⟩⟩;simp[Question.cut];rw[if_neg (by omega)];exact Nat.mod_lt _ hlen
 obtain⟨⟨j,k'⟩,hjk⟩:∃p,ps[b]?=some p:=⟨ps[b],List.getElem?_eq_getElem hb⟩;obtain⟨rfl,hij,gj,vj,zj,shj,hj⟩:=oe j k' (List.mem_of_getElem? hjk);refine⟨j,gj,vj,zj,shj,d,hij,hj,?_⟩;let hj':=stand_get (i:=i) hij hj;let hfp:=finishPartner_at P (gs.setIfInBounds i ph) hj' (cs:=#[scase c vj zj]) (sh:=shj) rfl 0 undef;let hgd:(gs.setIfInBounds i ph).getD j default=parked gj #[scase c vj zj] shj:=by rw[Array.getD_eq_getD_getElem?,hj'];rfl
 let hov:offeredValue (gs.setIfInBounds i ph) j 0=vj:=by simp[offeredValue,hj',parked,scase]
 let hw:ways agN (gs.setIfInBounds i ph) (rcase c z)=ps.map λ(h,k)=>Way.partner h k:=by
  simp only[ways,rcase,hc,hps];cases ps with
  | nil=>exact absurd rfl CC
  | cons p ps=>simp
 let hgm:=getD_map_partner ps b (j,0) hjk;rw[runT_crowd_comm hi h];unfold communicate;simp only[ready_one hk (by rw[hw];cases ps with
  | nil=>exact absurd rfl CC
  | cons p ps=>simp) ho,hw]
 rw[if_neg]
 .by_cases hf:(Question.extern "which waiting goroutine is the partner" ps.length).forced=true
  .rw[if_pos hf] at hpick;obtain⟨rfl,rfl⟩:=hpick;let hf':ps.length=1:=by simpa [Question.forced] using hf
   let e0:ps[0]'hlen=(j,0):=(List.getElem?_eq_some_iff.1 hjk).2;simp[choose,Sem.run,Question.forced,bind,Sem.bind,pure,hf',hgm,hjk,e0,hj',hov,rcase,hc,World.setChan,crowd,hfp,hgd,set_stand2,finishComm_parked,scase,parked,World.at]
   rfl
  .rw[if_neg hf] at hpick;obtain⟨rfl,rfl⟩:=hpick;let hf':¬ps.length=1:=by simpa [Question.forced] using hf
   simp[choose,Sem.run,Question.forced,bind,Sem.bind,pure,hf',hgm,hjk,hj',hov,rcase,hc,World.setChan,crowd,hfp,hgd,set_stand2,finishComm_parked,scase,parked,World.at]
   rfl
 .rw[Bool.not_eq_true];exact any_ill (made_of_one hk (made_recv z hc) ho)
end
end Go.Mz
