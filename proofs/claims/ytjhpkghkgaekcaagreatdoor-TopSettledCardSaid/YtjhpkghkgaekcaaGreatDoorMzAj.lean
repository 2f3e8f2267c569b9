/- Lemmas on which the claim leans. -/
import Derived.Test.YtjhpkghkgaekcaaGreatDoorMzAi
import Derived.Conc.Beside
namespace Go.Mz
open Go.Conc
open Go.ConcN (sumTo upd sumTo_upd upd_ne upd_same)
def yd(o o':Os):Prop:=∃d:Nat,o'={o with wall:=o.wall+d,mono:=o.mono+d}
theorem yd.refl(o:Os):yd o o:=⟨0,rfl⟩
theorem yd.eq{a b c:Os}(h:yd a b)(e:c=b):yd a c:=by rw[e];exact h
theorem yd.trans{a b c:Os}(h:yd a b)(k:yd b c):yd a c:=by
 obtain⟨d,rfl⟩:=h;obtain⟨e,rfl⟩:=k;exact⟨d+e,by simp[Nat.add_assoc]⟩
structure j5(W w:World):Prop where
 tape:w.tape=W.tape
 os:yd W.os w.os
 out:w.output=W.output
theorem j5.tr{W w w':World}{L L':LH}{es:Array Event}(h:j5 W w)(ht:Tr L L' w w' es):j5 W w':=⟨ht.tape.trans h.tape,h.os.eq ht.os,ht.out.trans h.out⟩
theorem j5.at{W w:World}(h:j5 W w)(d:Nat):j5 W (w.at d):=⟨h.tape,h.os,h.out⟩
def ew(P:Program)(Post:Value→World→Prop)(m:Machine)(t:Trace):Prop:=
 ∃n last o w' t',runNT P (n+1) m t=(.ended o w',t')∧runN P n m=.next last∧step P last=.ended o w'∧Good P Post last o w' t'
theorem ew.next{P:Program}{Post:Value→World→Prop}{m m':Machine}{t:Trace}{ops:Array MemOp}(h:stepT P m=(.next m',ops))(hr:ew P Post m' (t++ops)):ew P Post m t:=by
 obtain⟨n,last,o,w,t',h1,h2,h3,h4⟩:=hr;exact⟨n+1,last,o,w,t',by rw[runNT_succ_next h];exact h1,by rw[runN_succ_next h];exact h2,h3,h4⟩
def cU:Loc→Option Nat
 | .cell a=>some a.block
 | .obj r=>some r
 | _=>none
theorem eh{e:Event}{L:LH}(h:nz L e){x:Touch}(hx:(MemAct.ofEvent e).touch?=some x):∃b o wr,cU x.loc=some b∧L b=some (o,wr)∧(x.write=true→wr=true):=by
 obtain⟨loc,w,sy⟩:=e;cases loc with
 | cell a=>
  obtain⟨h1,o,wr,h2,h3⟩:=h;simp only[MemAct.ofEvent,MemAct.touch?,Option.some.injEq] at hx;subst hx;exact⟨_,o,wr,rfl,h2,h3⟩
 | obj r=>
  obtain⟨h1,o,wr,h2,h3⟩:=h;simp only at h1;subst h1;simp only[MemAct.ofEvent,MemAct.touch?,Option.some.injEq] at hx;subst hx;exact⟨_,o,wr,rfl,h2,h3⟩
 | mark m=>rcases h with rfl | ⟨f,rfl⟩ <;> simp[MemAct.ofEvent,MemAct.touch?] at hx
 | output=>exact h.elim
 | goroutines=>exact h.elim
structure sV(S:Nat→Prop)(n:Nat)(t:Trace):Prop where
 clean:∀said,¬Race said t
 known:∀i a b,touchAt t i=some a→cU a.loc=some b→Knows t 0 i∨(S b∧a.kind=.atomic)
 over:t.HandedOver
 hears:Deaf t 0=0
 seen:∀i a b,touchAt t i=some a→cU a.loc=some b→b<n
theorem sV.own{S:Nat→Prop}{n n':Nat}{t:Trace}(h:sV S n t)(hn:n≤n'){L:LH}{fn:FuncId}{pos:String}{es:Array Event}(wG:∀e∈es,nz L e)(hL:∀b,L b≠none→b<n'∧¬S b):
  sV S n' (t++MemOp.ofEvents 0 fn pos es):=by
 have aZ:∀op∈MemOp.ofEvents 0 fn pos es,op.g=0∧∃e∈es,op.act=.ofEvent e:=fun op aZ=>by
  obtain⟨e,he,hx⟩:=Go.Conc.mem_ofEvents aZ;rw[hx];exact⟨rfl,e,he,rfl⟩
 refine⟨fun said=>noRace_append (h.clean said) (fun op ho=>(aZ op ho).1) fun i a ha op ho b hb hc=>?_,fun i a b ha hb=>?_,handedOver_app h.over fun op ho=>.inl (aZ op ho).1,?_,fun i a b ha hb=>?_⟩
 ·obtain⟨_,ev,cN,cQ⟩:=aZ op ho;rw[cQ] at hb;obtain⟨bl,o,wr,h1,h2,_⟩:=eh (wG ev cN) hb;rw[←hc.1] at h1;rcases h.known i a bl ha h1 with hk | ⟨hs,_⟩
  ·exact hk
  ·exact absurd hs (hL bl (by rw[h2];simp)).2
 ·obtain⟨x,hx,dU⟩:=touch_of ha;rcases getElem?_append_cases hx with⟨_,jZ⟩ | ⟨_,qV⟩
  ·exact(h.known i a b (by rw[touchAt_of jZ];exact dU) hb).imp (·.app _) id
  ·have:=knows_own hx;rw[(aZ x qV).1] at this;exact .inl this
 ·rw[Deaf_own,deafBehind_still (fun e he=>?_)]
  ·exact h.hears
  ·have:=wG e he;obtain⟨loc,wr,sy⟩:=e;cases loc with
   | mark m=>rcases this with rfl | ⟨f,rfl⟩ <;> simp
   | _=>simp
 ·obtain⟨x,hx,dU⟩:=touch_of ha;rcases getElem?_append_cases hx with⟨_,jZ⟩ | ⟨_,qV⟩
  ·exact Nat.lt_of_lt_of_le (h.seen i a b (by rw[touchAt_of jZ];exact dU) hb) hn
  ·obtain⟨_,ev,cN,cQ⟩:=aZ x qV;rw[cQ] at dU;obtain⟨bl,o,wr,h1,h2,_⟩:=eh (wG ev cN) dU;rw[hb] at h1;cases h1;exact(hL b (by rw[h2];simp)).1
theorem sV.mute{S:Nat→Prop}{n:Nat}{t:Trace}(h:sV S n t){g:Nat}(hg:g≠0){fn:FuncId}{pos:String}{es:Array Event}(hm:∀e∈es,e.mute=true):sV S n (t++MemOp.ofEvents g fn pos es):=by
 have aZ:∀op∈MemOp.ofEvents g fn pos es,op.g=g∧op.act.touch?=none:=fun op aZ=>by
  obtain⟨e,he,hx⟩:=Go.Conc.mem_ofEvents aZ;rw[hx];exact⟨rfl,touch_mute (hm e he)⟩
 have old:∀{idx:Nat} {a:Touch},touchAt (t++MemOp.ofEvents g fn pos es) idx=some a→touchAt t idx=some a:=by
  intro idx a ha;obtain⟨x,hx,dU⟩:=touch_of ha;rcases getElem?_append_cases hx with⟨hi,jZ⟩ | ⟨_,qV⟩
  ·rw[touchAt_of jZ];exact dU
  ·rw[(aZ x qV).2] at dU;cases dU
 refine⟨fun said=>noRace_append (h.clean said) (fun op ho=>(aZ op ho).1) fun i a _ op ho b hb _=>(by rw[(aZ op ho).2] at hb;cases hb),fun i a b ha hb=>(h.known i a b (old ha) hb).imp (·.app _) id,
  handedOver_app h.over fun op ho=>.inr (aZ op ho).2,(Deaf_other t hg _ fun op ho=>(aZ op ho).1).trans h.hears,fun i a b ha hb=>h.seen i a b (old ha) hb⟩
def nV(P:Program)(Post:Value→World→Prop)(W:World)(g:Goroutine)(L:LH):Prop:=
 ∀gs w sl t q S,gs[0]?=some g→Sub L w→j5 W w→Leavers P t gs q→sV S w.heap.size t→(∀b,S b→b<w.heap.size∧L b=none)→ew P Post (crowd gs w sl) t
theorem Tr.abj{L L':LH}{w w':World}{es:Array Event}{S:Nat→Prop}(h:Tr L L' w w' es)(hS:∀b,S b→b<w.heap.size∧L b=none):∀b,L' b≠none→b<w'.heap.size∧¬S b:=by
 intro b hb;refine⟨h.sub.lt hb,fun hs=>?_⟩;obtain⟨h1,h2⟩:=hS b hs;rcases h.gP b hb with e | e
 ·exact e h2
 ·omega
theorem nV.step{P:Program}{Post:Value→World→Prop}{W:World}(g:Goroutine)(L:LH)(cx:g.status=.running)(dO:HU P true g L (nV P Post W)):nV P Post W g L:=by
 intro gs w sl t q S h0 hs hW hL hP hS;generalize hM:sumTo gs.size q=M
 induction M using Nat.strongRecOn generalizing gs w sl t q with
 | ind M ih=>
 have F5:∀g∈gs,awake g:=by
  intro g' hg;obtain⟨i,hi,rfl⟩:=Array.mem_iff_getElem.1 hg;rcases Nat.eq_zero_or_pos i with rfl | oV
  ·have:gs[0]=g:=by simpa [Array.getElem?_eq_getElem hi] using h0
   rw[this];exact awake_of (.inl cx)
  ·exact awake_of ((hL.old i _ oV (Array.getElem?_eq_getElem hi)).status.elim .inl fun x=>.inr (.inr x))
 obtain⟨i,lG,d,sC,hi,hg,cu⟩:=crowd_pick (P:=P) (w:=w) (sl:=sl) F5 ⟨0,g,h0,cx⟩;rcases Nat.eq_zero_or_pos i with rfl | oV
 ·obtain rfl:lG=g:=by rw[h0] at hi;exact(Option.some.inj hi).symm
  obtain⟨g',w',es,L',hgo,ot,hK⟩:=dO (w.at d) hs;have tQ:=runT_crowd_go (P:=P) (sl:=sC) (i:=0) hi (show stepG P (0==0) lG (w.at d)=_ from hgo);have ed:((gs.map (woken P lG g' w')).setIfInBounds 0 g').size=gs.size:=by simp
  have aU:0<gs.size:=(Array.getElem?_eq_some_iff.1 h0).1;refine ew.next (cu.trans tQ) (hK _ w' sC _ q S (by simp[aU]) ot.sub ((hW.at d).tr ot) ⟨fun j x hj hx=>?_,fun j hj=>?_⟩ (hP.own ot.size ot.ev (ot.abj hS)) fun b hb=>?_)
  ·have aY:0≠j:=by omega
   rw[Array.getElem?_setIfInBounds_ne aY,Array.getElem?_map] at hx;obtain⟨y,hy,rfl⟩:=Option.map_eq_some_iff.1 hx;have hq:=hL.old j y hj hy;rw[woken_quitsD hq,Deaf_other t (by omega) _ (fun op aZ=>by obtain⟨e,_,hx⟩:=Go.Conc.mem_ofEvents aZ;rw[hx])];exact hq
  ·rw[Deaf_other t (g':=0) (by simp at hj;omega) _ (fun op aZ=>by obtain⟨e,_,hx⟩:=Go.Conc.mem_ofEvents aZ;rw[hx])];exact hL.above j (by simpa using hj)
  ·obtain⟨h1,h2⟩:=hS b hb;refine⟨Nat.lt_of_lt_of_le h1 ot.size,?_⟩;cases hx:L' b with
   | none=>rfl
   | some x=>
    rcases ot.gP b (by rw[hx];simp) with e | e
    ·exact absurd h2 e
    ·have:b<(w.at d).heap.size:=h1;omega
 ·have hq:=hL.old i lG oV hi;have qq:(i==0)=false:=by simp;omega
  have aU:i<gs.size:=(Array.getElem?_eq_some_iff.1 hi).1;cases En:q i with
  | zero=>rw[En] at hq;rw[hq.1] at hg;cases hg
  | succ k=>
   rw[En] at hq;rcases hq with⟨hf,_⟩ | ⟨_,g',es,hm,Gv,kS⟩
   ·rw[hf] at hg;cases hg
   have tQ:=runT_crowd_go (P:=P) (sl:=sC) (i:=i) hi (by rw[qq];exact Gv (w.at d));have ed:((gs.map (woken P lG g' (w.at d))).setIfInBounds i g').size=gs.size:=by simp
   have Rg:sumTo gs.size (upd q i k)+(k+1)=sumTo gs.size q+k:=by
    have:=sumTo_upd q k id aU
    simpa [En] using this
   refine ew.next (cu.trans tQ) (ih _ ?_ _ (w.at d) sC _ (upd q i k) ?_ hs (hW.at d) ⟨fun j x hj hx=>?_,fun j hj=>?_⟩ (hP.mute (by omega) hm) hS (by rw[ed]))
   ·rw[←hM];omega
   ·have aY:i≠0:=by omega
    rw[Array.getElem?_setIfInBounds_ne aY,Array.getElem?_map,h0];simp[woken_run cx]
   ·by_cases pH:i=j
    ·subst pH;rw[Array.getElem?_setIfInBounds_self_of_lt (by simpa using aU)] at hx;obtain rfl:=Option.some.inj hx;rw[upd_same,Deaf_own];exact kS
    ·rw[Array.getElem?_setIfInBounds_ne pH,Array.getElem?_map] at hx;obtain⟨y,hy,rfl⟩:=Option.map_eq_some_iff.1 hx;have IX:=hL.old j y hj hy;rw[woken_quitsD IX,upd_ne q k (Ne.symm pH),Deaf_other t pH _ (fun op aZ=>by obtain⟨e,_,hx⟩:=Go.Conc.mem_ofEvents aZ;rw[hx])];exact IX
   ·rw[Deaf_other t (g':=i) (by simp at hj;omega) _ (fun op aZ=>by obtain⟨e,_,hx⟩:=Go.Conc.mem_ofEvents aZ;rw[hx])];exact hL.above j (by simpa using hj)
theorem nV.done{P:Program}{Post:Value→World→Prop}{W:World}{g:Goroutine}{L:LH}(cx:g.status=.running)
  (h:∀w,Sub L w→j5 W w→∃v es,stepG P true g w=.ended (.done v) w es∧(∀e∈es,nz L e)∧Post v w):nV P Post W g L:=by
 intro gs w sl t q S h0 hs hW hL hP hS;generalize hM:sumTo gs.size q=M
 induction M using Nat.strongRecOn generalizing gs w sl t q with
 | ind M ih=>
 have F5:∀g∈gs,awake g:=by
  intro g' hg;obtain⟨i,hi,rfl⟩:=Array.mem_iff_getElem.1 hg;rcases Nat.eq_zero_or_pos i with rfl | oV
  ·have:gs[0]=g:=by simpa [Array.getElem?_eq_getElem hi] using h0
   rw[this];exact awake_of (.inl cx)
  ·exact awake_of ((hL.old i _ oV (Array.getElem?_eq_getElem hi)).status.elim .inl fun x=>.inr (.inr x))
 obtain⟨i,lG,d,sC,hi,hg,cu⟩:=crowd_pick (P:=P) (w:=w) (sl:=sl) F5 ⟨0,g,h0,cx⟩;rcases Nat.eq_zero_or_pos i with rfl | oV
 ·obtain rfl:lG=g:=by rw[h0] at hi;exact(Option.some.inj hi).symm
  obtain⟨v,es,abP,wG,ZM⟩:=h (w.at d) hs (hW.at d);have tQ:=runT_many_ended (P:=P) (sl:=sC) (i:=0) hi (show stepG P (0==0) lG (w.at d)=_ from abP);have hP':=hP.own (fn:=lG.frame.fn) (pos:=lG.frame.place) (Nat.le_refl _) wG fun b hb=>⟨Sub.lt hs hb,fun x=>hb (hS b x).2⟩;have dh:=cu.trans tQ;refine⟨0,crowd gs w sl,.done v,w.at d,_,by simp[runNT,dh],rfl,by simp[Go.step,dh],v,rfl,ZM,hP'.clean,hP'.over,⟨fun x hx=>?_,rfl⟩,fun j x hx hj=>?_⟩
  ·obtain⟨j,hj⟩:=List.mem_iff_getElem?.1 hx;rw[List.getElem?_drop] at hj;exact⟨_,(hL.old (1+j) x (by omega) (by simpa [crowd] using hj)).leaves⟩
  ·have hq:=hL.old j x (by omega) hx;refine⟨q j,?_⟩;have e:(t++MemOp.ofEvents 0 lG.frame.fn lG.frame.place es).deaf j (t++MemOp.ofEvents 0 lG.frame.fn lG.frame.place es).size=Deaf t j:=
    Deaf_other t (g:=j) (g':=0) (by omega) _ (fun op aZ=>by obtain⟨e,_,hx⟩:=Go.Conc.mem_ofEvents aZ;rw[hx])
   rw[e];exact hq.hears _
 ·have hq:=hL.old i lG oV hi;have qq:(i==0)=false:=by simp;omega
  have aU:i<gs.size:=(Array.getElem?_eq_some_iff.1 hi).1;cases En:q i with
  | zero=>rw[En] at hq;rw[hq.1] at hg;cases hg
  | succ k=>
   rw[En] at hq;rcases hq with⟨hf,_⟩ | ⟨_,g',es,hm,Gv,kS⟩
   ·rw[hf] at hg;cases hg
   have tQ:=runT_crowd_go (P:=P) (sl:=sC) (i:=i) hi (by rw[qq];exact Gv (w.at d));have ed:((gs.map (woken P lG g' (w.at d))).setIfInBounds i g').size=gs.size:=by simp
   have Rg:sumTo gs.size (upd q i k)+(k+1)=sumTo gs.size q+k:=by
    have:=sumTo_upd q k id aU
    simpa [En] using this
   refine ew.next (cu.trans tQ) (ih _ ?_ _ (w.at d) sC _ (upd q i k) ?_ hs (hW.at d) ⟨fun j x hj hx=>?_,fun j hj=>?_⟩ (hP.mute (by omega) hm) hS (by rw[ed]))
   ·rw[←hM];omega
   ·have aY:i≠0:=by omega
    rw[Array.getElem?_setIfInBounds_ne aY,Array.getElem?_map,h0];simp[woken_run cx]
   ·by_cases pH:i=j
    ·subst pH;rw[Array.getElem?_setIfInBounds_self_of_lt (by simpa using aU)] at hx;obtain rfl:=Option.some.inj hx;rw[upd_same,Deaf_own];exact kS
    ·rw[Array.getElem?_setIfInBounds_ne pH,Array.getElem?_map] at hx;obtain⟨y,hy,rfl⟩:=Option.map_eq_some_iff.1 hx;have IX:=hL.old j y hj hy;rw[woken_quitsD IX,upd_ne q k (Ne.symm pH),Deaf_other t pH _ (fun op aZ=>by obtain⟨e,_,hx⟩:=Go.Conc.mem_ofEvents aZ;rw[hx])];exact IX
   ·rw[Deaf_other t (g':=i) (by simp at hj;omega) _ (fun op aZ=>by obtain⟨e,_,hx⟩:=Go.Conc.mem_ofEvents aZ;rw[hx])];exact hL.above j (by simpa using hj)
def kG(P:Program)(Post:Value→World→Prop)(W:World):ax P:=⟨true,nV P Post W,fun g L hr hs=>nV.step g L hr hs,fun _ _=>False,fun _ _ _ _ _ _ h=>h.elim⟩
end Go.Mz
