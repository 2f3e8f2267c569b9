/- Lemmas on which the claim leans. -/
import Derived.Test.YtjhpkghkgaekcaaGreatDoorMzAl
import Derived.Conc.CrowdSel
import Derived.Conc.CrowdStepW
import Derived.Conc.WgGenN2
namespace Go.Mz
open Go.Conc Go.ConcN
open Go.ConcR (KK wgBlock WgAt stA smA rd wr mk Payload Aside2 DC0 Bk bk_of_mute)
instance acO:Payload:=⟨0⟩
def xr:Nat→Loc→Prop:=fun _ _=>False
abbrev uz(P:Program)(ty W Cc:Nat)(v:Value)(s m d:Nat)(g:Goroutine)(w:World):Prop:=WSit P ty W Cc 1 xr xr 0 1 v s m d g w
inductive y5(P:Program)(W Cc:Nat)(g g':Goroutine)(w w':World)(es:Array Event)(d m m':Nat)(st sm pj rB:Int):Nat→Nat→Prop
 | Rr:m'+1=m→AsideCell Cc 1 0 w w'→(∀e∈es,EvW W xr xr 1 e)→pj=st→rB=sm→y5 P W Cc g g' w w' es d m m' st sm pj rB 7 7
 | rel:w'=w→es=#[mk (.releaseMerge (stA W))]→pj=st→rB=sm→y5 P W Cc g g' w w' es d m m' st sm pj rB 7 6
 | book {s s':Nat}:s≤6→Aside W w w'→(∀e∈es,Bk W e)→(∀j e,es[j]?=some e→(MemAct.ofEvent e).touch?=none∨0<deafBehind d (es.extract 0 j))→
   ((s'=s∧m'+1=m∧pj=st∧rB=sm)∨(s=6∧s'=5∧pj=st∧rB=sm)∨(s=5∧pj+KK=st∧rB=sm∧((pj=1∧s'=4)∨(pj≠1∧s'=1)))∨(s=4∧s'=3∧pj=st∧rB=sm)∨(s=3∧s'=2∧pj=0∧rB=sm)∨
    (s=2∧s'=1∧pj=st∧rB=1∧mayWake P g=true∧g'.status=.running))→y5 P W Cc g g' w w' es d m m' st sm pj rB s s'
theorem NA{P:Program}{ty W Cc:Nat}{v:Value}{s m d:Nat}{g:Goroutine}{w:World}{st sm:Int}(hCW:Cc≠W)(h:uz P ty W Cc v s m d g w)(cx:g.status=.running)(ee:WgAt ty W w st sm)
  (h5:s=5→sm=0∧∃v wt:Nat,wt≤1∧v<2147483647∧st=((v:Int)+1) *KK+wt)(h4:s=4∨s=3→st=1∧sm=0)(h2:s=2→st=0∧sm=0):
  ∃g' w' es s' m' pj rB,stepG P false g w=.go g' w' es∧uz P ty W Cc v s' m' (deafBehind d es) g' w'∧WgAt ty W w' pj rB∧y5 P W Cc g g' w w' es d m m' st sm pj rB s s':=by
 have rf:=RW.refl (ty:=ty) (Wg:=W) (C:=Cc) (n:=1) (Low:=0) (i:=0) w;have idle:∀{g':Goroutine} {m' s:Nat},s≤6→stepG P false g w=.go g' w #[]→uz P ty W Cc v s m' d g' w→m'+1=m→
   ∃g' w' es s' m' pj rB,stepG P false g w=.go g' w' es∧uz P ty W Cc v s' m' (deafBehind d es) g' w'∧WgAt ty W w' pj rB∧y5 P W Cc g g' w w' es d m m' st sm pj rB s s':=by
  intro g' m' s hs hgo iA hm;exact⟨g',w,#[],s,m',st,sm,hgo,iA,ee,.book hs (.refl W w) (by simp) (by simp) (.inl ⟨rfl,hm,rfl,rfl⟩)⟩
 have bk2:∀e∈#[rd (stA W),wr (stA W)],Bk W e:=by intro e he;simp at he;rcases he with rfl | rfl <;> exact bk_cell _ _ rfl
 have df2:∀jx e,(#[rd (stA W),wr (stA W)]:Array Event)[jx]?=some e→(MemAct.ofEvent e).touch?=none∨0<deafBehind 1 ((#[rd (stA W),wr (stA W)]:Array Event).extract 0 jx):=by
  intro jx e he
  match jx,he with
  | 0,_=>exact .inr (by simp[deafBehind])
  | 1,_=>exact .inr (by simp[deafBehind,rd])
  | jx+2,he=>simp at he
 cases h with
 | r0 h=>
  rcases Goes.cases h with kU | ⟨m',rfl,dO⟩
  ·obtain⟨_,ab3,g',hgo,m₂,hk⟩:=kU w rf;exact⟨g',w,_,6,m₂,st,sm,hgo,.k1 hk,ee,.rel rfl rfl rfl rfl⟩
  ·obtain⟨g',w',es,hgo,⟨hac,cN⟩,oR⟩:=dO w rf;have hd:deafBehind 0 es=0:=deafBehind_idle (fun e he=>⟨(cN e he).2.1,(cN e he).2.2.1⟩) 0;exact⟨g',w',es,7,m',st,sm,hgo,by rw[hd];exact .r0 oR,ee.of_block (hac.block W (Ne.symm hCW)),.Rr rfl hac cN rfl rfl⟩
 | k1 h=>
  rcases Goes.cases h with kU | ⟨m',rfl,dO⟩
  ·obtain⟨_,g',hgo,m₂,hk⟩:=kU w rf;exact⟨g',w,_,5,m₂,st,sm,hgo,.d1 hk,ee,.book (by omega) (.refl W w) (by intro e he;simp at he;subst he;exact .inl rfl) (by intro jx e he;exact .inl (by have:=Array.mem_of_getElem? he;simp at this;subst this;rfl)) (.inr (.inl ⟨rfl,rfl,rfl,rfl⟩))⟩
  ·obtain⟨g',w',es,hgo,⟨rfl,rfl⟩,oR⟩:=dO w rf;exact idle (by omega) hgo (.k1 oR) rfl
 | d1 h=>
  rcases Goes.cases h with kU | ⟨m',rfl,dO⟩
  ·obtain⟨_,cz⟩:=kU w rf;obtain⟨rfl,n,wt,gI,hn,rfl⟩:=h5 rfl;obtain⟨g',hgo,hl,hq⟩:=cz n wt gI hn ee;have cu:((n:Int) *KK+wt)+KK=((n:Int)+1) *KK+wt:=by rw[Int.add_mul];omega
   by_cases tM:n=0∧wt=1
   ·obtain⟨m₂,hk⟩:=hl tM;obtain⟨rfl,rfl⟩:=tM;exact⟨g',_,_,4,m₂,_,_,hgo,.d2 hk,ee.setSt _,.book (by omega) (aside_setCell w (stA W) _) bk2 df2 (.inr (.inr (.inl ⟨rfl,cu,rfl,.inl ⟨by simp,rfl⟩⟩)))⟩
   ·obtain⟨q,hk⟩:=hq tM;refine⟨g',_,_,1,q,_,_,hgo,.quit hk,ee.setSt _,.book (by omega) (aside_setCell w (stA W) _) bk2 df2 (.inr (.inr (.inl ⟨rfl,cu,rfl,.inr ⟨?_,rfl⟩⟩)))⟩;intro e;simp only[KK] at e;omega
  ·obtain⟨g',w',es,hgo,⟨rfl,rfl⟩,oR⟩:=dO w rf;exact idle (by omega) hgo (.d1 oR) rfl
 | d2 h=>
  rcases Goes.cases h with kU | ⟨m',rfl,dO⟩
  ·obtain⟨_,hx⟩:=kU w rf;obtain⟨rfl,rfl⟩:=h4 (.inl rfl);obtain⟨g',hgo,m₂,hk⟩:=hx ee;exact⟨g',_,_,3,m₂,_,_,hgo,.d3 hk,ee,.book (by omega) (.refl W w) (by intro e he;simp at he;subst he;exact bk_cell _ _ rfl) (by intro jx e he;match jx,he with | 0,_=>exact .inr (by simp[deafBehind]) | jx+1,he=>simp at he) (.inr (.inr (.inr (.inl ⟨rfl,rfl,rfl,rfl⟩))))⟩
  ·obtain⟨g',w',es,hgo,⟨rfl,rfl⟩,oR⟩:=dO w rf;exact idle (by omega) hgo (.d2 oR) rfl
 | d3 h=>
  rcases Goes.cases h with kU | ⟨m',rfl,dO⟩
  ·obtain⟨_,hx⟩:=kU w rf;obtain⟨rfl,rfl⟩:=h4 (.inr rfl);obtain⟨g',hgo,m₂,hk⟩:=hx ee;exact⟨g',_,_,2,m₂,_,_,hgo,.d4 hk,ee.setSt 0,.book (by omega) (aside_setCell w (stA W) _) (by intro e he;simp at he;subst he;exact bk_cell _ _ rfl) (by intro jx e he;match jx,he with | 0,_=>exact .inr (by simp[deafBehind]) | jx+1,he=>simp at he) (.inr (.inr (.inr (.inr (.inl ⟨rfl,rfl,rfl,rfl⟩)))))⟩
  ·obtain⟨g',w',es,hgo,⟨rfl,rfl⟩,oR⟩:=dO w rf;exact idle (by omega) hgo (.d3 oR) rfl
 | d4 h=>
  rcases Goes.cases h with kU | ⟨m',rfl,dO⟩
  ·obtain⟨_,hmw,hx⟩:=kU w rf;obtain⟨rfl,rfl⟩:=h2 rfl;obtain⟨g',hgo,q,hq⟩:=hx ee;have ZS:g'.status=.running:=by
    cases q with
    | zero=>exact absurd hq.2 (by decide)
    | succ q=>exact hq.elim (fun x=>absurd x.2 (by decide)) (fun x=>x.1)
   refine⟨g',_,_,1,q,_,_,hgo,.quit (by simpa [deafBehind,semEvents] using hq),ee.setSm 1,.book (by omega) (aside_setCell w (smA W) _) ?_ ?_ (.inr (.inr (.inr (.inr (.inr ⟨rfl,rfl,rfl,rfl,hmw,ZS⟩)))))⟩
   ·intro e he;simp[semEvents] at he;rcases he with rfl | rfl | rfl | rfl
    ·exact .inl rfl
    ·exact bk_cell _ _ rfl
    ·exact bk_cell _ _ rfl
    ·exact .inr (.inl rfl)
   ·intro jx e he
    match jx,he with
    | 0,he=>simp[semEvents] at he;subst he;exact .inl rfl
    | 1,_=>exact .inr (by simp[deafBehind,semEvents])
    | 2,_=>exact .inr (by simp[deafBehind,semEvents])
    | 3,he=>simp[semEvents] at he;subst he;exact .inl rfl
    | jx+4,he=>simp[semEvents] at he
  ·obtain⟨g',w',es,hgo,⟨rfl,rfl⟩,oR⟩:=dO w rf;exact idle (by omega) hgo (.d4 oR) rfl
 | quit h=>
  cases m with
  | zero=>rw[h.1] at cx;cases cx
  | succ q=>
   rcases h with⟨hf,_⟩ | ⟨_,g',es,QX,dO,hq⟩
   ·rw[hf] at cx;cases cx
   ·exact⟨g',w,es,1,q,st,sm,dO w,.quit hq,ee,.book (by omega) (.refl W w) (fun e he=>bk_of_mute (QX e he)) (fun jx e he=>.inl (touch_mute (QX e (Array.mem_of_getElem? he)))) (.inl ⟨rfl,rfl,rfl,rfl⟩)⟩
end Go.Mz
