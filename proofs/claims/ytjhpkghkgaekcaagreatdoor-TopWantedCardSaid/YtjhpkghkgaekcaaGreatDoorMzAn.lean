/- Lemmas for the claim. -/
import Derived.Test.YtjhpkghkgaekcaaGreatDoorMzAm
import Derived.Conc.CrowdSel
import Derived.Conc.CrowdStepW
import Derived.Conc.WgGenN2
set_option linter.defProp false
set_option maxRecDepth 100000
namespace Go.Mz
open Go.Conc
variable {P:aV}{α:Type}{X:aM P}{n k m:Nat}{L R J:LH}{t e:bh}{w u:World}{h:α->List Value}{c:Int}{B:aX}{x:aW}{Y:Trace}{l:aH}{r:List α}{q:aU}{Q:bC}{E:cK}{j:aR}{D:bt}{d:bA}{F:Env}{g:aT}{o:bD}{N:Nm}{K:bI}{z:SV}{I:cj}{H:ck}
section
open Go.ConcN
open Go.ConcR (KK wgBlock WgAt stA smA rd wr mk Payload Aside2 DC0 Bk bk_of_mute)
instance agI:Payload:=⟨0⟩
def Bt:Nat->Loc->Prop:=λ_ _=>False
abbrev qC(P:Program)(ty W Cc:Nat)(v:Value)(s m d:Nat)(g:Goroutine)(w:World):Prop:=WSit P ty W Cc 1 Bt Bt 0 1 v s m d g w
def Z5{r:Nat}{v:Value}{s d:Nat}(h:qC P n k r v s m d g w)(q:u.heap[r]?=w.heap[r]?)(z:WgLive n k w->WgLive n k u):qC P n k r v s m d g u:=by
 refine WSit.rely h ⟨λb q=>ar q (nW _),z,λ⟨i,f,y⟩=>⟨i,q.trans f,y⟩,cell_of_block q 0⟩
inductive EX(P:Program)(W Cc:Nat)(g g':Goroutine)(w w':World)(es:Array Event)(d m m':Nat)(st sm st' KZ:Int):Nat->Nat->Prop
 | zG:m'+1=m->AsideCell Cc 1 0 w w'->(∀e∈es,EvW W Bt Bt 1 e)->st'=st->KZ=sm->EX P W Cc g g' w w' es d m m' st sm st' KZ 7 7
 | rel:w'=w->es=#[mk (.releaseMerge (stA W))]->st'=st->KZ=sm->EX P W Cc g g' w w' es d m m' st sm st' KZ 7 6
 | book {s s':Nat}:s<=6->Aside W w w'->(∀e∈es,Bk W e)->(∀j e,es[j]?=some e->(MemAct.ofEvent e).touch?=none\/0<deafBehind d (es.extract 0 j))->
   ((s'=s/\m'+1=m/\st'=st/\KZ=sm)\/(s=6/\s'=5/\st'=st/\KZ=sm)\/(s=5/\st'+KK=st/\KZ=sm/\((st'=1/\s'=4)\/(st'≠1/\s'=1)))\/(s=4/\s'=3/\st'=st/\KZ=sm)\/(s=3/\s'=2/\st'=0/\KZ=sm)\/
    (s=2/\s'=1/\st'=st/\KZ=1/\mayWake P g=true/\g'.status=.running))->EX P W Cc g g' w w' es d m m' st sm st' KZ s s'
def NN{ty:Nat}{v:Value}{s d:Nat}{R:Int}(u5:k≠n)(h:qC P ty n k v s m d g w)(H:g.status=.running)(y:WgAt ty n w c R)
  (h5:s=5->R=0/\∃v W:Nat,W<=1/\v<2147483647/\c=((v:Int)+1) *KK+W)(h4:s=4\/s=3->c=1/\R=0)(h2:s=2->c=0/\R=0):
  ∃l F D b t S T,stepG P false g w=.go l F D/\qC P ty n k v b t (deafBehind d D) l F/\WgAt ty n F S T/\EX P n k g l w F D d m t c R S T s b:=by
 let Q:=RW.refl (ty:=ty) (Wg:=n) (C:=k) (n:=1) (Low:=0) (i:=0) w;let idle:∀{l:aT} {t s:Nat},s<=6->stepG P false g w=.go l w #[]->qC P ty n k v s t d l w->t+1=m->
   ∃l F D b t S T,stepG P false g w=.go l F D/\qC P ty n k v b t (deafBehind d D) l F/\WgAt ty n F S T/\EX P n k g l w F D d m t c R S T s b:=by
  intro l t s a r u6 hm;exact⟨l,w,#[],s,t,c,R,r,u6,y,.book a (.refl n w) U U (.inl ⟨rfl,hm,rfl,rfl⟩)⟩
 let bk2:∀e∈#[rd (stA n),wr (stA n)],Bk n e:=by intro e z;simp at z;rcases z with rfl | rfl <;> exact bk_cell _ _ rfl
 let u1:∀jx e,(#[rd (stA n),wr (stA n)]:Array Event)[jx]?=some e->(MemAct.ofEvent e).touch?=none\/0<deafBehind 1 ((#[rd (stA n),wr (stA n)]:Array Event).extract 0 jx):=by
  intro jx e z
  match jx,z with
  | 0,_=>exact .inr Lq
  | 1,_=>exact .inr (by simp[deafBehind,rd])
  | jx+2,z=>simp at z
 cases h with
 | r0 h=>
  rcases Goes.cases h with I | ⟨t,rfl,p⟩
  .obtain⟨_,u8,l,r,J,f⟩:=I w Q;exact⟨l,w,_,6,J,c,R,r,.k1 f,y,.rel rfl rfl rfl rfl⟩
  .obtain⟨l,F,D,r,⟨u2,X⟩,K⟩:=p w Q;let hd:deafBehind 0 D=0:=deafBehind_idle (λe z=>⟨(X e z).2.1,(X e z).2.2.1⟩) 0;exact⟨l,F,D,7,t,c,R,r,by rw[hd];exact .r0 K,y.of_block (u2.block n (dG u5)),.zG rfl u2 X rfl rfl⟩
 | k1 h=>
  rcases Goes.cases h with I | ⟨t,rfl,p⟩
  .obtain⟨_,l,r,J,f⟩:=I w Q;exact⟨l,w,_,5,J,c,R,r,.d1 f,y,.book M (.refl n w) (by intro e z;simp at z;subst z;exact .inl rfl) (by intro jx e z;exact .inl (by have:=Array.mem_of_getElem? z;simp at this;subst this;rfl)) (.inr (.inl ⟨rfl,rfl,rfl,rfl⟩))⟩
  .obtain⟨l,F,D,r,⟨rfl,rfl⟩,K⟩:=p w Q;exact idle M r (.k1 K) rfl
 | d1 h=>
  rcases Goes.cases h with I | ⟨t,rfl,p⟩
  .obtain⟨_,u3⟩:=I w Q;obtain⟨rfl,j,W,u7,hn,rfl⟩:=h5 rfl;obtain⟨l,r,hl,B⟩:=u3 j W u7 hn y;let u4:((j:Int) *KK+W)+KK=((j:Int)+1) *KK+W:=by rw[Int.add_mul];omega
   by_cases G:j=0/\W=1
   .obtain⟨J,f⟩:=hl G;obtain⟨rfl,rfl⟩:=G;exact⟨l,_,_,4,J,_,_,r,.d2 f,y.setSt _,.book M (aside_setCell w (stA n) _) bk2 u1 (.inr (.inr (.inl ⟨rfl,u4,rfl,.inl ⟨U,rfl⟩⟩)))⟩
   .obtain⟨q,f⟩:=B G;refine⟨l,_,_,1,q,_,_,r,.quit f,y.setSt _,.book M (aside_setCell w (stA n) _) bk2 u1 (.inr (.inr (.inl ⟨rfl,u4,rfl,.inr ⟨?_,rfl⟩⟩)))⟩;intro e;simp only[KK] at e;omega
  .obtain⟨l,F,D,r,⟨rfl,rfl⟩,K⟩:=p w Q;exact idle M r (.d1 K) rfl
 | d2 h=>
  rcases Goes.cases h with I | ⟨t,rfl,p⟩
  .obtain⟨_,u⟩:=I w Q;obtain⟨rfl,rfl⟩:=h4 (.inl rfl);obtain⟨l,r,J,f⟩:=u y;exact⟨l,_,_,3,J,_,_,r,.d3 f,y,.book M (.refl n w) YA (by intro jx e z;match jx,z with | 0,_=>exact .inr Lq | jx+1,z=>simp at z) (.inr (.inr (.inr (.inl ⟨rfl,rfl,rfl,rfl⟩))))⟩
  .obtain⟨l,F,D,r,⟨rfl,rfl⟩,K⟩:=p w Q;exact idle M r (.d2 K) rfl
 | d3 h=>
  rcases Goes.cases h with I | ⟨t,rfl,p⟩
  .obtain⟨_,u⟩:=I w Q;obtain⟨rfl,rfl⟩:=h4 (.inr rfl);obtain⟨l,r,J,f⟩:=u y;exact⟨l,_,_,2,J,_,_,r,.d4 f,y.setSt 0,.book M (aside_setCell w (stA n) _) YA (by intro jx e z;match jx,z with | 0,_=>exact .inr Lq | jx+1,z=>simp at z) (.inr (.inr (.inr (.inr (.inl ⟨rfl,rfl,rfl,rfl⟩)))))⟩
  .obtain⟨l,F,D,r,⟨rfl,rfl⟩,K⟩:=p w Q;exact idle M r (.d3 K) rfl
 | d4 h=>
  rcases Goes.cases h with I | ⟨t,rfl,p⟩
  .obtain⟨_,o,u⟩:=I w Q;obtain⟨rfl,rfl⟩:=h2 rfl;obtain⟨l,r,q,B⟩:=u y;let E:l.status=.running:=by
    cases q with
    | zero=>exact ar B.2 V
    | succ q=>exact B.elim (λx=>ar x.2 V) (λx=>x.1)
   refine⟨l,_,_,1,q,_,_,r,.quit (by simpa [deafBehind,semEvents] using B),y.setSm 1,.book M (aside_setCell w (smA n) _) ?_ ?_ (.inr (.inr (.inr (.inr (.inr ⟨rfl,rfl,rfl,rfl,o,E⟩)))))⟩
   .intro e z;simp[semEvents] at z;rcases z with rfl | rfl | rfl | rfl
    .exact .inl rfl
    .exact bk_cell _ _ rfl
    .exact bk_cell _ _ rfl
    .exact .inr (.inl rfl)
   .intro jx e z
    match jx,z with
    | 0,z=>simp[semEvents] at z;subst z;exact .inl rfl
    | 1,_=>exact .inr Qs
    | 2,_=>exact .inr Qs
    | 3,z=>simp[semEvents] at z;subst z;exact .inl rfl
    | jx+4,z=>simp[semEvents] at z
  .obtain⟨l,F,D,r,⟨rfl,rfl⟩,K⟩:=p w Q;exact idle M r (.d4 K) rfl
 | quit h=>
  cases m with
  | zero=>rw[h.1] at H;cases H
  | succ q=>
   rcases h with⟨hf,_⟩ | ⟨_,l,D,acK,p,B⟩
   .rw[hf] at H;cases H
   .exact⟨l,w,D,1,q,c,R,p w,.quit B,y,.book M (.refl n w) (λe z=>bk_of_mute (acK e z)) (λjx e z=>.inl (touch_mute (acK e (Array.mem_of_getElem? z)))) (.inl ⟨rfl,rfl,rfl,rfl⟩)⟩
end
end Go.Mz
