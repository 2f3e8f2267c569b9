/- Lemmas for the claim. -/
import Derived.Test.YtjhpkghkgaekcaaGreatDoorMzAj
import Derived.Conc.Beside
set_option linter.defProp false
set_option maxRecDepth 100000
namespace Go.Mz
open Go.Conc
variable {P:aV}{α:Type}{X:aM P}{n k m:Nat}{L R J:LH}{t e:bh}{w u:World}{h:α->List Value}{c:Int}{B:aX}{x:aW}{Y:Trace}{l:aH}{r:List α}{q:aU}{Q:bC}{E:cK}{j:aR}{D:bt}{d:bA}{F:Env}{g:aT}{o:bD}{N:Nm}{K:bI}{z:SV}{I:cj}{H:ck}
section
open Go.ConcN (sumTo upd sumTo_upd upd_ne upd_same)
def HD(o o':Os):Prop:=∃d:Nat,o'={o with wall:=o.wall+d,mono:=o.mono+d}
def HD.refl(o:Os):HD o o:=⟨0,rfl⟩
def HD.eq{a b c:Os}(h:HD a b)(e:c=b):HD a c:=by rwa[e]
def HD.trans{a b c:Os}(h:HD a b)(k:HD b c):HD a c:=by
 obtain⟨d,rfl⟩:=h;obtain⟨e,rfl⟩:=k;exact⟨d+e,by simp[Nat.add_assoc]⟩
structure mI(W w:World):Prop where
 tape:w.tape=W.tape
 os:HD W.os w.os
 out:w.output=W.output
def mI.tr{c:World}{q:gW}(h:mI u w)(s:Tr L R w c q):mI u c:=⟨s.tape.trans h.tape,h.os.eq s.os,s.out.trans h.out⟩
def mI.at(h:mI u w)(d:Nat):mI u (w.at d):=⟨h.tape,h.os,h.out⟩
def fM(P:aV)(Post:dp)(m:Machine)(t:Trace):Prop:=
 ∃n last o w' t',runNT P (n+1) m t=(.ended o w',t')/\runN P n m=.next last/\step P last=.ended o w'/\Good P Post last o w' t'
def fM.next{k:dp}{m t:Machine}{x:Array MemOp}(h:stepT P m=(.next t,x))(b:fM P k t (Y++x)):fM P k m Y:=by
 let⟨n,q,o,w,e,u,z,r,v⟩:=b;exact⟨n+1,q,o,w,e,by rwa[runNT_succ_next h],by rwa[runN_succ_next h],r,v⟩
def dQ:Loc->Option Nat
 | .cell a=>some a.block
 | .obj r=>some r
 | _=>none
def iV{e:Event}(h:vk L e){x:Touch}(u:(MemAct.ofEvent e).touch?=x):∃b o wr,dQ x.loc=some b/\L b=some (o,wr)/\(x.write=true->wr=true):=by
 let⟨loc,w,c⟩:=e;cases loc with
 | cell a=>
  let⟨q,o,wr,z,v⟩:=h;simp[MemAct.ofEvent,MemAct.touch?,kR] at u;subst u;exact⟨_,o,wr,rfl,z,v⟩
 | obj r=>
  let⟨q,o,wr,z,v⟩:=h;subst q;simp[MemAct.ofEvent,MemAct.touch?,kR] at u;subst u;exact⟨_,o,wr,rfl,z,v⟩
 | mark m=>rcases h with rfl | ⟨f,rfl⟩ <;> simp[MemAct.ofEvent,MemAct.touch?] at u
 | output=>exact h.elim
 | goroutines=>exact h.elim
structure Cb(S:Nat->Prop)(n:Nat)(t:Trace):Prop where
 clean:∀said,¬Race said t
 known:∀i a b,touchAt t i=some a->dQ a.loc=some b->Knows t 0 i\/(S b/\a.kind=.atomic)
 over:t.HandedOver
 hears:Deaf t 0=0
 seen:∀i a b,touchAt t i=some a->dQ a.loc=some b->b<n
def Cb.own{D:bt}{n k:Nat}{Y:Trace}(h:Cb D n Y)(y:n<=k){L:LH}{fn:bO}{pos:ck}{l:gW}(w:∀e∈l,vk L e)(K:∀b,L b≠none->b<k/\¬D b):
  Cb D k (Y++MemOp.ofEvents 0 fn pos l):=by
 have t:∀p∈MemOp.ofEvents 0 fn pos l,p.g=0/\∃e∈l,p.act=.ofEvent e:=λp t=>by
  let⟨e,z,u⟩:=Go.Conc.mem_ofEvents t;rw[u];exact⟨rfl,e,z,rfl⟩
 refine⟨λsaid=>noRace_append (h.clean said) (λp j=>(t p j).1) λi a s p j b d F=>?_,λi a b s d=>?_,handedOver_app h.over λp j=>.inl (t p j).1,?_,λi a b s d=>?_⟩
 .let⟨_,ev,c,v⟩:=t p j;rw[v] at d;let⟨I,o,wr,q,J,_⟩:=iV (w ev c) d;rw[<-F.1] at q;rcases h.known i a I s q with G | ⟨H,_⟩
  .exact G
  .exact ar H (K I (by rw[J];simp)).2
 .let⟨x,u,r⟩:=touch_of s;rcases getElem?_append_cases u with⟨_,sJ⟩ | ⟨_,sK⟩
  .exact(h.known i a b (by rwa[touchAt_of sJ]) d).imp (·.app _) id
  .have:=knows_own u;rw[(t x sK).1] at this;exact .inl this
 .rw[Deaf_own,deafBehind_still (λe z=>?_)]
  .exact h.hears
  .have:=w e z;let⟨loc,wr,Q⟩:=e;cases loc with
   | mark m=>rcases this with rfl | ⟨f,rfl⟩ <;> simp
   | _=>simp
 .let⟨x,u,r⟩:=touch_of s;rcases getElem?_append_cases u with⟨_,sJ⟩ | ⟨_,sK⟩
  .exact lg (h.seen i a b (by rwa[touchAt_of sJ]) d) y
  .let⟨_,ev,c,v⟩:=t x sK;rw[v] at r;let⟨I,o,wr,q,J,_⟩:=iV (w ev c) r;rw[d] at q;cases q;exact(K b (by rw[J];simp)).1
def Cb.mute(h:Cb D n Y)(m:k≠0){f:bO}{q:gW}(c:∀e∈q,e.mute=true):Cb D n (Y++MemOp.ofEvents k f H q):=by
 let t:∀v∈MemOp.ofEvents k f H q,v.g=k/\v.act.touch?=none:=λv t=>by
  let⟨e,z,u⟩:=Go.Conc.mem_ofEvents t;rw[u];exact⟨rfl,touch_mute (c e z)⟩
 let y:∀{w:Nat} {a:Touch},touchAt (Y++MemOp.ofEvents k f H q) w=some a->touchAt Y w=some a:=by
  intro w a s;let⟨x,u,o⟩:=touch_of s;rcases getElem?_append_cases u with⟨hi,sJ⟩ | ⟨_,sK⟩
  .rwa[touchAt_of sJ]
  .rw[(t x sK).2] at o;cases o
 refine⟨λsaid=>noRace_append (h.clean said) (λv j=>(t v j).1) λi a _ v j b d _=>(by rw[(t v j).2] at d;cases d),λi a b s d=>(h.known i a b (y s) d).imp (·.app _) id,
  handedOver_app h.over λv j=>.inr (t v j).2,(Deaf_other Y m _ λv j=>(t v j).1).trans h.hears,λi a b s d=>h.seen i a b (y s) d⟩
def pJ(P:aV)(Post:dp)(W:World)(g:aT)(L:LH):Prop:=
 ∀gs w sl t q S,gs[0]?=some g->Sub L w->mI W w->Leavers P t gs q->Cb S w.heap.size t->(∀b,S b->b<w.heap.size/\L b=none)->fM P Post (crowd gs w sl) t
def Tr.aiF{q:gW}(h:Tr L R w u q)(a:∀b,D b->b<w.heap.size/\L b=none):∀b,R b≠none->b<u.heap.size/\¬D b:=by
 intro b d;refine⟨h.sub.lt d,λv=>?_⟩;let⟨i,z⟩:=a b v;rcases h.jZ b d with e | e
 .exact e z
 .omega
def pJ.step{H:dp}(g:aT)(L:LH)(J:g.status=.running)(Q:U7 P true g L (pJ P H w)):pJ P H w g L:=by
 intro I c sl t q S X hs hW o v a;generalize r:sumTo I.size q=ae
 induction ae using Nat.strongRecOn generalizing I c sl t q with
 | ind ae ih=>
 let u1:∀g∈I,awake g:=by
  intro l W;obtain⟨i,K,rfl⟩:=Array.mem_iff_getElem.1 W;rcases pU i with rfl | Jz
  .have:I[0]=g:=by simpa [Bw K] using X
   rw[this];exact awake_of (.inl J)
  .exact awake_of ((o.old i _ Jz (Bw K)).status.elim .inl λx=>.inr (.inr x))
 let⟨i,n,d,D,K,W,C⟩:=crowd_pick (P:=P) (w:=c) (sl:=sl) u1 ⟨0,g,X,J⟩;rcases pU i with rfl | Jz
 .obtain rfl:n=g:=by rw[X] at K;exact(bR K).symm
  let⟨l,w',es,L',u2,p,hK⟩:=Q (c.at d) hs;let f:=runT_crowd_go (P:=P) (sl:=D) (i:=0) K (show stepG P (0==0) n (c.at d)=_ from u2);let B:((I.map (woken P n l w')).setIfInBounds 0 l).size=I.size:=U
  let F:0<I.size:=(iL.1 X).1;refine fM.next (C.trans f) (hK _ w' D _ q S (by simp[F]) p.sub ((hW.at d).tr p) ⟨λj x G u=>?_,λj G=>?_⟩ (v.own p.size p.ev (p.aiF a)) λb hb=>?_)
  .let R:0≠j:=by omega
   rw[jI R,yn] at u;obtain⟨y,hy,rfl⟩:=il.1 u;let T:=o.old j y G hy;rw[woken_quitsD T,Deaf_other t M _ (λop s=>by obtain⟨e,_,u⟩:=Go.Conc.mem_ofEvents s;rw[u])];exact T
  .rw[Deaf_other t (g':=0) (by simp at G;omega) _ (λop s=>by obtain⟨e,_,u⟩:=Go.Conc.mem_ofEvents s;rw[u])];exact o.above j Li
  .obtain⟨h1,z⟩:=a b hb;refine⟨lg h1 p.size,?_⟩;cases u:L' b with
   | none=>rfl
   | some x=>
    rcases p.jZ b FZ with e | e
    .exact ar z e
    .have:b<(c.at d).heap.size:=h1;omega
 .let T:=o.old i n Jz K;let u3:(i==0)=false:=by simp;omega
  let F:i<I.size:=(iL.1 K).1;cases m:q i with
  | zero=>rw[m] at T;rw[T.1] at W;cases W
  | succ k=>
   rw[m] at T;rcases T with⟨hf,_⟩ | ⟨_,l,es,hm,wT,Mt⟩
   .rw[hf] at W;cases W
   let f:=runT_crowd_go (P:=P) (sl:=D) (i:=i) K (by rw[u3];exact wT (c.at d));let B:((I.map (woken P n l (c.at d))).setIfInBounds i l).size=I.size:=U
   let u4:sumTo I.size (upd q i k)+(k+1)=sumTo I.size q+k:=by
    have:=sumTo_upd q k id F
    simpa [m] using this
   refine fM.next (C.trans f) (ih _ ?_ _ (c.at d) D _ (upd q i k) ?_ hs (hW.at d) ⟨λj x G u=>?_,λj G=>?_⟩ (v.mute M hm) a (by rw[B]))
   .rw[<-r];omega
   .let R:i≠0:=by omega
    rw[jI R,yn,X];simp[woken_run J]
   .by_cases h:i=j
    .subst h;rw[oZ (by simpa using F)] at u;obtain rfl:=bR u;rw[upd_same,Deaf_own];exact Mt
    .rw[jI h,yn] at u;obtain⟨y,hy,rfl⟩:=il.1 u;let E:=o.old j y G hy;rw[woken_quitsD E,upd_ne q k (dG h),Deaf_other t h _ (λop s=>by obtain⟨e,_,u⟩:=Go.Conc.mem_ofEvents s;rw[u])];exact E
   .rw[Deaf_other t (g':=i) (by simp at G;omega) _ (λop s=>by obtain⟨e,_,u⟩:=Go.Conc.mem_ofEvents s;rw[u])];exact o.above j Li
def pJ.done{D:dp}(z:g.status=.running)
  (h:∀c,Sub L c->mI w c->∃v Q,stepG P true g c=.ended (.done v) c Q/\(∀e∈Q,vk L e)/\D v c):pJ P D w g L:=by
 intro I c sl t q S E hs hW o hP hS;generalize r:sumTo I.size q=ae
 induction ae using Nat.strongRecOn generalizing I c sl t q with
 | ind ae ih=>
 let u1:∀g∈I,awake g:=by
  intro l R;obtain⟨i,J,rfl⟩:=Array.mem_iff_getElem.1 R;rcases pU i with rfl | Jz
  .have:I[0]=g:=by simpa [Bw J] using E
   rw[this];exact awake_of (.inl z)
  .exact awake_of ((o.old i _ Jz (Bw J)).status.elim .inl λx=>.inr (.inr x))
 let⟨i,n,d,G,J,R,W⟩:=crowd_pick (P:=P) (w:=c) (sl:=sl) u1 ⟨0,g,E,z⟩;rcases pU i with rfl | Jz
 .obtain rfl:n=g:=by rw[E] at J;exact(bR J).symm
  let⟨v,Q,p,u2,H⟩:=h (c.at d) hs (hW.at d);let f:=runT_many_ended (P:=P) (sl:=G) (i:=0) J (show stepG P (0==0) n (c.at d)=_ from p);let X:=hP.own (fn:=n.frame.fn) (pos:=n.frame.place) (dA _) u2 λb hb=>⟨Sub.lt hs hb,λx=>hb (hS b x).2⟩;let a:=W.trans f;refine⟨0,crowd I c sl,.done v,c.at d,_,by simp[runNT,a],rfl,by simp[Go.step,a],v,rfl,H,X.clean,X.over,⟨λx u=>?_,rfl⟩,λj x u F=>?_⟩
  .obtain⟨j,F⟩:=vr.1 u;rw[List.getElem?_drop] at F;exact⟨_,(o.old (1+j) x M (by simpa [crowd] using F)).leaves⟩
  .let T:=o.old j x M u;refine⟨q j,?_⟩;let e:(t++MemOp.ofEvents 0 n.frame.fn n.frame.place Q).deaf j (t++MemOp.ofEvents 0 n.frame.fn n.frame.place Q).size=Deaf t j:=
    Deaf_other t (g:=j) (g':=0) M _ (λop s=>by obtain⟨e,_,u⟩:=Go.Conc.mem_ofEvents s;rw[u])
   rw[e];exact T.hears _
 .let T:=o.old i n Jz J;let u3:(i==0)=false:=by simp;omega
  let C:i<I.size:=(iL.1 J).1;cases m:q i with
  | zero=>rw[m] at T;rw[T.1] at R;cases R
  | succ k=>
   rw[m] at T;rcases T with⟨hf,_⟩ | ⟨_,l,Q,hm,wT,Mt⟩
   .rw[hf] at R;cases R
   let f:=runT_crowd_go (P:=P) (sl:=G) (i:=i) J (by rw[u3];exact wT (c.at d));let u4:((I.map (woken P n l (c.at d))).setIfInBounds i l).size=I.size:=U
   let u6:sumTo I.size (upd q i k)+(k+1)=sumTo I.size q+k:=by
    have:=sumTo_upd q k id C
    simpa [m] using this
   refine fM.next (W.trans f) (ih _ ?_ _ (c.at d) G _ (upd q i k) ?_ hs (hW.at d) ⟨λj x F u=>?_,λj F=>?_⟩ (hP.mute M hm) hS (by rw[u4]))
   .rw[<-r];omega
   .let u5:i≠0:=by omega
    rw[jI u5,yn,E];simp[woken_run z]
   .by_cases K:i=j
    .subst K;rw[oZ (by simpa using C)] at u;obtain rfl:=bR u;rw[upd_same,Deaf_own];exact Mt
    .rw[jI K,yn] at u;obtain⟨y,hy,rfl⟩:=il.1 u;let B:=o.old j y F hy;rw[woken_quitsD B,upd_ne q k (dG K),Deaf_other t K _ (λop s=>by obtain⟨e,_,u⟩:=Go.Conc.mem_ofEvents s;rw[u])];exact B
   .rw[Deaf_other t (g':=i) xR _ (λop s=>by obtain⟨e,_,u⟩:=Go.Conc.mem_ofEvents s;rw[u])];exact o.above j (by simpa using F)
def jV(P:aV)(Post:dp)(W:World):aM P:=⟨true,pJ P Post W,λg L hr hs=>pJ.step g L hr hs,λ_ _=>False,λ_ _ _ _ _ _ h=>h.elim⟩
end
end Go.Mz
