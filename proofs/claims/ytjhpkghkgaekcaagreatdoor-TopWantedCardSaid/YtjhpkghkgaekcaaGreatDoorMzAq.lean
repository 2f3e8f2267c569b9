/- Lemmas for the claim. -/
import Derived.Test.YtjhpkghkgaekcaaGreatDoorMzAp
import Derived.Conc.AtomicLaws2
import Derived.Conc.MarkLaws
set_option linter.defProp false
set_option maxRecDepth 100000
namespace Go.Mz
open Go.Conc
variable {α:Type}{m:Nat}{R J:LH}{t e:bh}{w u:World}{h:α->List Value}{x:aW}{Y:Trace}{r:List α}{Q:bC}{D:bt}{d:bA}{F:Env}{g:aT}{N:Nm}{K:bI}{z:SV}{I:cj}{H:ck}
section
open Go.ConcN
open Go.ConcR (KK wgBlock WgAt stA smA rd wr mk)
abbrev Cx.to{P:Program}(C:Cx P)(Y:aM P):Cx P:=⟨Y,C.f,C.kd,C.ro,C.cs,C.L0,C.R0⟩
structure Cd{P:Program}(C:Cx P)(fn:Func)(Q:aM P->Value->LH->Prop):Prop where
 fn:P.funcs[C.f]?=some fn
 ro:C.ro=none
 kd:C.kd=.normal\/C.kd=.wrapped
 cs:∃c cs,C.cs=c::cs/\∀Y v R' L',Q Y v L'->Post C.L0 C.R0 L' R'->Y.Go (G (c.finish v) cs) R'
def pL{P:aV}(X:aM P)(f:bO)(args:aR)(L:LH)(Q:aM P->Value->LH->Prop):Prop:=
 qN P f/\∀R,Le L R->∀(kd:dW) (c:Frame) (cs:dX),(kd=.normal\/kd=.wrapped)->(∀Y v R' L',Q Y v L'->Post L R L' R'->Y.Go (G (c.finish v) cs) R')->X.Go (G (Frame.enter P f args.toArray kd) (c::cs)) R
def mJ(T:aK)(l:cj):(⟨T,l⟩:Act).eval=ev T:=funext λx=>by cases x <;> rfl
def bF(f:bO)(kd:dW):Frame:={(default:Frame) with fn:=f,kind:=kd}
def zn(f:bO)(T:aK)(k:bI)(l:cj)(kd:dW):Fr f T k l .run kd none=(bF f kd).at ⟨T,l⟩ k:=rfl
section
variable {P:aV}{n:Nat}{l:cj}{k:bI}{E:Env}{B:aX}{L:LH}{j:cU}{i:Nat}{q:List Nat}
def Cd.to{C:Cx P}{q:Func}{Q:aM P->Value->LH->Prop}(r:Cd C q Q)(Y:aM P):Cd (C.to Y) q Q:=⟨r.fn,r.ro,r.kd,r.cs⟩
def pL.enter{X:aM P}{f:bO}{q:Func}{z:Code}{e:aR}{Q:aM P->Value->LH->Prop}(a:P.funcs[f]?=q)(d:q.body=z)(y:(q.name== "runtime.NumGoroutine")=false)(p:q.ntmps=n)(m:Nat.ble e n=true)
  (h:∀C:Cx P,C.X=X->C.f=f->C.L0=L->Cd C q Q->W C n [] [.code z] (rA 0 e) [] L):pL X f e L Q:=by
 refine⟨⟨q,a,y,by rw[d];rfl⟩,λR l kd c cs i j=>?_⟩;rw[wR a d];let o:(e.toArray++Array.replicate (q.ntmps - e.toArray.size) undef:Array Value).size=n:=by
  have:=qE m;simp;omega
 refine h ⟨X,f,kd,none,c::cs,L,R⟩ rfl rfl rfl ⟨a,rfl,i,c,cs,rfl,λY v r w I J=>j Y v r w I J⟩ _ R fe o ?_ ⟨(λ_ _ _ h=>by cases h),(λ_ _ h=>by cases h),(λ_ _ h=>by cases h),(λk b x i=>by cases i),l,λb x _ h=>h,λb d=>.inl d,λb d=>d⟩;intro s x u;obtain⟨_,v,K,rfl⟩:=pj u;let t:e[s]?=v:=by simpa using K
 let g:s<e:=by
  rcases Cn s e with h | h
  .exact h
  .rw[mh h] at t;cases t
 rw[den]
 congr 1
 rw[Ds,IK F4,gq,t];rfl
def bJ.all(R:LH):bJ R R fe [] R R:=
 ⟨(λ_ _ _ h=>by cases h),(λ_ _ h=>by cases h),(λ_ _ h=>by cases h),(λk b x f=>by cases f),Le.refl _,(λb x q z=>ar (q.symm.trans z) U),λb d=>.inl d,λb d=>d⟩
def W.start{X:aM P}{f:bO}{q:Func}{z:Code}{args:aR}{kd:dW}{cs:dX}(o:P.funcs[f]?=q)(d:q.body=z)(p:q.ntmps=n)(m:Nat.ble args n=true)
  (w:W ⟨X,f,kd,none,cs,R,R⟩ n [] [.code z] (rA 0 args) [] R):X.Go (G (Frame.enter P f args.toArray kd) cs) R:=by
 rw[wR o d];let i:(args.toArray++Array.replicate (q.ntmps - args.toArray.size) undef:Array Value).size=n:=by
  have:=qE m;simp;omega
 refine w _ R fe i ?_ (bJ.all R);intro s x u;obtain⟨_,v,r,rfl⟩:=pj u;let a:args[s]?=v:=by simpa using r
 let e:s<args:=by
  rcases Cn s args with h | h
  .exact h
  .rw[mh h] at a;cases a
 rw[den]
 congr 1
 rw[Ds,IK xQ,gq,a];rfl
variable {C:Cx P}
def W.behind{Y:aM P}{o:Oper}{d:bD}{T:aK}{v:Value}(u:nth j.toList i=o)(a:o.dst=d)(p:(d.all λd=>Nat.blt d n)=true)(h:T.size=n)(z:bS N (get E) T)(r:bJ C.L0 C.R0 N B L R)
  (w:W (C.to Y) n l (.inRegion j q::k) ((d.toList.map λd=>(d,SV.v v))++E) B L):Y.Go (G ((Fr C.f T (.inRegion j (i::q)::k) l .run C.kd C.ro).finish v) C.cs) R:=by
 cases d with
 | none=>exact W.qR (C:=C.to Y) u a h z r w
 | some d=>exact W.iB (C:=C.to Y) u a (eH p) h z r rfl w
def W.oF{d:bD}{g:bO}{args:aR}{m:jk}{z:fX}{b:cR}{o:cZ}{Q:aM P->Value->LH->Prop}(y:nth j.toList i=some ⟨d,.call {callee:=.value (.func g),args:=m,argTypes:=z},t,H,b,o⟩)(x:bG (get E) j.toList o=true)(p:(d.all λd=>Nat.blt d n)=true)
  (s:nJ (get E) m.toList=args)(a:pL C.X g args L Q)(w:∀Y v f,Q Y v f->W (C.to Y) n l (.inRegion j q::k) ((d.toList.map λd=>(d,SV.v v))++E) B f):W C n l (.inRegion j (i::q)::k) E B L:=by
 refine W.oper y x rfl λT R β e h r=>?_;let u:m.map (ev T)=args.toArray:=Lp
 let⟨⟨G,I,J,K⟩,D⟩:=a;refine Mj.func I J K u _ _ _ _ _ _ (D R r.le .normal _ _ (.inl rfl) λY v S f c F=>(W.behind (C:=C) y rfl p e h (r.call F) (w Y v f c)))
def W.mO[S:Seat P]{q:Func}{Q:aM P->Value->LH->Prop}{g:gn}{j:aR}(r:Cd C q Q)(f:k=[]\/∃i,k=.code .ret::i)(a:uP S.τ (get E) B q.results.toList=g)(t:cW fe g=j)(u:Q C.X (lv j) L):W C n [] k E B L:=by
 let⟨m,y,o,c,cs,z,p⟩:=r;exact W.adC S.ok ⟨m,y,o,c,cs,z,λv w d u b=>p _ v w d u b,λ_ _ _ (h:False) _=>h.elim⟩ f a t u
def W.HR{g:bO}{args:aR}{v:jk}{z:fX}{a:cR}{o:cZ}(y:C.ro=none)(d:nth j.toList i=some ⟨none,.defer {callee:=.value (.func g),args:=v,argTypes:=z},t,H,a,o⟩)(m:bG (get E) j.toList o=true)(s:nJ (get E) v.toList=args)
  (w:W C n (dcall g args.toArray::l) (.inRegion j q::k) E B L):W C n l (.inRegion j (i::q)::k) E B L:=by
 intro T R β c h r;let f:=d;rw[dF,iN] at d;refine C.X.op d (cA h m) (.inl y) ?_;let u:v.map (ev T)=args.toArray:=Lp
 simp[execOp,resolve,ev,Deferred.ofValue,Z,aI,jP,u,uo];exact W.qR f rfl c h r w
def W.fA{c:Code}(w:W C n l (.code c::.inLoop c::k) E B L):W C n l (.inLoop c::k) E B L:=λT R β h u r=>C.X.inLoop (w T R β h u r)
def W.mD{c:Code}(w:W C n l (.code c::.inLoop c::k) E B L):W C n l (.code (.loop c)::k) E B L:=λT R β h u r=>C.X.loop (w T R β h u r)
def bS.adY{E:Env}{T:aK}(h:bS N (get E) T)(a:gR E F)(f:Ah 0 F=true):bS fe (get F) T:=λs x u=>by
 let q:=A8 (Ai f s x u) (h s x (a.get s x u));exact pq (λk b v=>ar (Nm.oV v).1 (nW _)) q
def bS.adZ{E:Env}{T:aK}(h:bS N (get E) T)(f:Ah 0 E=true):bS fe (get E) T:=λs x u=>by
 let q:=A8 (Ai f s x u) (h s x u);exact pq (λk b v=>ar (Nm.oV v).1 (nW _)) q
def W.Ql{mn:Bool}{Φ:iF}{S1:cg}{g:bO}{v m:aK}{b:fX}{s:cR}{o:cZ}(D:C.X=iY P mn Φ S1)(y:C.ro=none)(e:C.kd≠.early)(F:nth j.toList i=some ⟨none,.go {callee:=.value x,args:=#[],argTypes:=b},t,H,s,o⟩)(Q:bG (get E) j.toList o=true)(u:bZ (get E) x=z)(S:den fe z=some (.func (.func g) v m))(h0:Ah 0 E=true)
  (h:∀(R:LH) (I K:aT),I.status=.running->(∀w,stepG P mn I w=.spawn K (Go.Conc.born P ⟨.fn (.func g) m,v⟩) w #[])->Le L R->(∀(Y:aM P) (a:LH),W ⟨Y,C.f,C.kd,none,C.cs,a,a⟩ n l (.inRegion j q::k) E [] a->Y.Go K a)->S1 I R):W C n l (.inRegion j (i::q)::k) E B L:=by
 intro T R β hT J r;let c:=F;rw[dF,iN] at c;let ex:=(congrFun (mJ T l) x).trans (bR ((J.val u).symm.trans (fw S β)));rw[D,y];refine Way.stop (h R _ (G (Fr C.f T (.inRegion j q::k) l .run C.kd none) C.cs) rfl (λw=>?_) r.le λY a w=>?_)
 .let p:execOp (⟨T,l⟩:Act).eval ⟨none,.go {callee:=.value x,args:=#[],argTypes:=b},t,H,s,o⟩=pure (.spawn ⟨.fn (.func g) m,v⟩):=by
   simp only[execOp,resolve,ex,Deferred.ofValue,Array.map_empty,rQ];rfl
  rw[zn];refine(stepG_spawn c (cA J Q) e (by rw[p];rfl) rfl).trans ?_;have:listed P (bF C.f C.kd).fn ⟨T,l⟩ ⟨none,.go {callee:=.value x,args:=#[],argTypes:=b},t,H,s,o⟩ w=#[]:=by
   unfold listed;rw[p];rfl
  rw[this];rfl
 .exact w T a fe hT (J.adZ h0) (bJ.all a)
variable {mn:Bool}{Φ:iF}{S1 c:Goroutine->LH->Prop}
def W.stop(j:C.X=iY P mn Φ S1)(h:∀(T:aK) (R:LH) (β:Nm),T.size=n->bS β (get E) T->bJ C.L0 C.R0 β B L R->S1 (G (Fr C.f T k l .run C.kd C.ro) C.cs) R):W C n l k E B L:=by
 intro T R β u q r;rw[j];exact Way.stop (h T R β u q r)
section
variable {f:bO}{kd:dW}{cs:dX}{T:aK}{o:Oper}
def AU(f:bO)(T:aK)(j:cU)(i:Nat)(q:aU)(k:bI)(l:cj)(kd:dW)(v:Value):
  (Fr f T (.inRegion j (i::q)::k) l .run kd none).finish v=(bF f kd).at ((⟨T,l⟩:Act).put ((j[i]?).bind (·.dst)) v) (.inRegion j q::k):=by
 rw[zn,Frame.finish_at]
end
def W.zV{d:bD}{g:bO}{t:Func}{J:jk}{z:fX}{p:bh}{s:ck}{K:cR}{x:cZ}(m:Mark)(D:∀g,m≠.extern g)(a:P.funcs[g]?=t)(u:(t.name== "runtime.NumGoroutine")=false)(F:t.body.isNone=true)(G:Extern.findNext t=none)
  (H:Extern.find t=some (λ_=>do mark m;pure Extern.Race.none_))(Q:C.X=iY P mn Φ S1)(y:C.ro=none)(o:C.kd≠.early)
  (b:∀g e L,g.status=.running->(∀w,stepG P mn g w=.go e w #[mk m])->Way P mn Φ c e L->S1 g L)
  (I:nth j.toList i=some ⟨d,.call {callee:=.value (.func g),args:=J,argTypes:=z},p,s,K,x⟩)(S:bG (get E) j.toList x=true)(hz:(d.all λd=>Nat.blt d n)=true)
  (w:W (C.to (iY P mn Φ c)) n l (.inRegion j q::k) ((d.toList.map λd=>(d,SV.v (.tuple #[])))++E) B L):W C n l (.inRegion j (i::q)::k) E B L:=by
 refine W.stop Q λT R β hT h r=>?_;let f:=I;rw[dF,iN] at f;refine b _ _ _ rfl (λw'=>?_) (W.behind I rfl hz hT h r w);rw[y,AU,zn,show(j[i]?).bind (·.dst)=d by rw[f];rfl];exact stepG_mark0 m D f (cA h S) o rfl a u F G H
def W.V7{d:bD}{g:bO}{b:Func}{x:aW}{z:fX}{p:bh}{s:ck}{D:cR}{I:cZ}{ad:Addr}(m:Addr->Mark)(F:∀a g,m a≠.extern g)(G:P.funcs[g]?=b)(f:(b.name== "runtime.NumGoroutine")=false)(H:b.body.isNone=true)(Q:Extern.findNext b=none)
  (S:Extern.find b=Extern.Race.marked m)(hX:C.X=iY P mn Φ S1)(y:C.ro=none)(o:C.kd≠.early)
  (e:∀g J L,g.status=.running->(∀w,stepG P mn g w=.go J w #[mk (m ad)])->Way P mn Φ c J L->S1 g L)
  (K:nth j.toList i=some ⟨d,.call {callee:=.value (.func g),args:=#[x],argTypes:=z},p,s,D,I⟩)(hg:bG (get E) j.toList I=true)(hz:(d.all λd=>Nat.blt d n)=true)(u:bZ (get E) x=ad)
  (w:W (C.to (iY P mn Φ c)) n l (.inRegion j q::k) ((d.toList.map λd=>(d,SV.v (.tuple #[])))++E) B L):W C n l (.inRegion j (i::q)::k) E B L:=by
 refine W.stop hX λT R β hT h r=>?_;let t:=K;rw[dF,iN] at t;let ex:=(bR (h.val u)).symm;refine e _ _ _ rfl (λw'=>?_) (W.behind K rfl hz hT h r w);rw[y,AU,zn,show(j[i]?).bind (·.dst)=d by rw[t];rfl];exact stepG_markAt m F t (cA h hg) o rfl G f H Q S (by simp[mJ,ex])
def W.EF{o:Oper}{v:Value}(I:C.X=iY P mn Φ S1)(d:C.ro=none)(t:C.kd≠.early)(J:nth j.toList i=o)(a:o.dst=m)(p:Nat.blt m n=true)(F:bG (get E) j.toList o.guard=true)(e:iU o.op=false)
  (b:∀(T:aK) (w:World),(∀x y u,bZ (get E) x=some y->den fe y=some u->ev T x=u)->Φ w->(execOp (ev T) o).run P w=.ok (.value v) w/\(execOp (ev T) o).events P w #[]=#[])
  (w:W C n l (.inRegion j q::k) ((m,v)::E) B L):W C n l (.inRegion j (i::q)::k) E B L:=by
 intro T R β H h r;let g:=J;rw[dF,iN] at g;let Q:∀x y u,bZ (get E) x=some y->den fe y=some u->ev T x=u:=λx y u S hu=>bR ((h.val S).symm.trans (fw hu β));rw[I];refine Way.EF _ _ rfl λK D=>⟨(G ((Fr C.f T (.inRegion j (i::q)::k) l .run C.kd C.ro).finish v) C.cs),K,#[],R,?_,Tr.refl D.1,?_⟩
 .let⟨z,c⟩:=b T K Q D.2;rw[d,zn,stepG_oper g (cA h F),mJ];let s:((bF C.f C.kd).kind==CallKind.early)=false:=by simpa [bF] using t
  simp[stepG.apply,z,c,G,GStep.after,seen,s,Frame.at,Fr,bF]
 .have:=W.iB J a (eH p) H h r rfl w;rw[I] at this;exact this
def W.Cu{d:bh}{p:bh}{I:cR}{r:cZ}{g:Addr}(J:C.X=iY P mn Φ S1)(y:C.ro=none)(o:C.kd≠.early)(a:P.underlying e=some (.pointer t))(s:P.underlying d=some .unsafePointer)(f:(P.info? t).map (λi=>decide (i.size=0))=false)(b:∀w,Φ w->∃v,w.cell? g=some v)
  (K:nth j.toList i=some ⟨some m,.convert e d x,p,H,I,r⟩)(D:Nat.blt m n=true)(F:bG (get E) j.toList r=some true)(G:bZ (get E) x=g)
  (w:W C n l (.inRegion j q::k) ((m,g)::E) B L):W C n l (.inRegion j (i::q)::k) E B L:=by
 refine W.EF J y o K rfl D F rfl (λT c Q z=>?_) w;let⟨u,h⟩:=b c z;let R:=Q x _ _ G rfl;let S:=run_convert_to_unsafe a s f h;let e2:=events_convert_to_unsafe a s f h #[];simp[execOp,R];simp[go_sem,S,e2]
def W.atom{o:Oper}(s:C.X=iY P mn Φ S1)(y:C.ro=none)(b:nth j.toList i=o)(a:o.dst=m)(p:Nat.blt m n=true)(e:bG (get E) j.toList o.guard=true)
  (h:∀(T:aK) (R:LH) (g:aT) (d:Value->Goroutine),(∀x t u,bZ (get E) x=some t->den fe t=some u->(⟨T,l⟩:Act).eval x=u)->Region.wanted o (yielded j (⟨T,l⟩:Act).tmps)=true->j[i]?=o->
   g=G ((bF C.f C.kd).at ⟨T,l⟩ (.inRegion j (i::q)::k)) C.cs->(∀v,d v=G ((bF C.f C.kd).at ((⟨T,l⟩:Act).put o.dst v) (.inRegion j q::k)) C.cs)->g.status=.running->
   (∀(Y:aM P) v,W (C.to Y) n l (.inRegion j q::k) ((m,.v v)::E) B L->Y.Go (d v) R)->S1 g R):W C n l (.inRegion j (i::q)::k) E B L:=by
 refine W.stop s λT R β I c r=>?_;let z:=b;rw[dF,iN] at z;rw[y];refine h T R _ (λv=>G ((Fr C.f T (.inRegion j (i::q)::k) l .run C.kd C.ro).finish v) C.cs) (λx t u J K=>(congrFun (mJ T l) x).trans (bR ((c.val J).symm.trans (fw K β)))) (cA c e) z rfl (λv=>?_) rfl
  λY v w=>W.iB (C:=C.to Y) b a (eH p) I c r rfl w
 rw[y,AU,z];rfl
def W.ag8{d:bD}{o:Oper}(b:C.X=iY P mn Φ S1)(y:C.ro=none)(c:nth j.toList i=o)(a:o.dst=d)(p:(d.all λd=>Nat.blt d n)=true)(s:bG (get E) j.toList o.guard=true)
  (h:∀(T:aK) (R:LH) (g:aT),(∀x t u,bZ (get E) x=some t->den fe t=some u->(⟨T,l⟩:Act).eval x=u)->Region.wanted o (yielded j (⟨T,l⟩:Act).tmps)=true->j[i]?=o->
   g=G ((bF C.f C.kd).at ⟨T,l⟩ (.inRegion j (i::q)::k)) C.cs->g.status=.running->g.offers=none->Le L R->
   (∀(Y:aM P) v,W (C.to Y) n l (.inRegion j q::k) ((d.toList.map λd=>(d,SV.v v))++E) B L->Y.Go (Go.Conc.served g v) R)->S1 g R):W C n l (.inRegion j (i::q)::k) E B L:=by
 refine W.stop b λT R β e m r=>?_;let z:=c;rw[dF,iN] at z;rw[y];refine h T R _ (λx t u I J=>(congrFun (mJ T l) x).trans (bR ((m.val I).symm.trans (fw J β)))) (cA m s) z rfl rfl rfl r.le
  λY v w=>?_
 have:=W.behind c a p e m r w;rw[y] at this;exact this
def WM.zV{g:bO}{q:Func}{e:aK}(m:Mark)(o:∀g,m≠.extern g)(s:P.funcs[g]?=q)(u:(q.name== "runtime.NumGoroutine")=false)(d:q.body.isNone=true)(x:Extern.findNext q=none)
  (z:Extern.find q=some (λ_=>do mark m;pure Extern.Race.none_))(j:C.X=iY P mn Φ S1)(y:C.ro=none)
  (i:∀g t L,g.status=.running->(∀w,stepG P mn g w=.go t w #[mk m])->Way P mn Φ c t L->S1 g L)
  (w:WM (C.to (iY P mn Φ c)) n l .returning E B L):WM C n (dcall g e::l) .returning E B L:=by
 intro T R β k h I r;rw[j];refine Way.stop (i _ _ _ rfl (λp=>?_) (w T R β k h I r));rw[y];have:=stepG_unwind_entry (main:=mn) (b:=bF C.f C.kd) (a:=⟨T,dcall g e::l⟩) (todo:=k) (cs:=C.cs) (w:=p) (w':=p) (v:=.tuple #[]) (evs:=#[mk m]) rfl s u d x z (by simp[Extern.Race.none_]) (by simp[Go.ConcR.mk]) (by simp[Go.ConcR.mk];intro g;exact o g);exact this
def WM.mO[S:Seat P]{q:Func}{Q:aM P->Value->LH->Prop}{g:gn}{j:aR}(r:Cd C q Q)(a:uP S.τ (get E) B q.results.toList=g)(i:cW fe g=j)(u:Q C.X (lv j) L):WM C n [] .returning E B L:=by
 let⟨f,y,o,c,cs,z,t⟩:=r;exact WM.ret ⟨f,y,o,c,cs,z,λv m d u p=>t _ v m d u p,λ_ _ _ (h:False) _=>h.elim⟩ a i u
end
end
variable {c:Int}{l:aH}{q:aU}{j:aR}{o:bD}
section
open Go.ConcN
section
variable {P:aV}{n:Nat}{k:bI}{E:Env}{B:aX}{L:LH}
structure RtO(C:Cx P)(fn:Func)(s:Nat)(Q:Value->LH->Prop):Prop where
 ro:C.ro=none
 go:∀(T:Array Value) (k:List Item) (v:Value) (R L':LH),T.getD s undef=v->Q v L'->Post C.L0 C.R0 L' R->C.X.Go (G (Fr C.f T k [] .returning C.kd none) C.cs) R
def W.agJ{C:Cx P}{q:Func}{v:Value}(r:RtO C q m Q)(a:get E m=v)(c:Q v L):W C n [] (.code .ret::k) E B L:=by
 intro T R β z h u;let⟨y,go⟩:=r;rw[y];exact C.X.ret (go _ _ v R L (bR (h m _ a)).symm c u.post)
def pJ.leave1{v:dp}{f:bO}{q:Func}{T:aK}(a:P.funcs[f]?=q)(b:q.results=#[.tmp m])(d:P.inits.idxOf? f=none)(h:∀c,Sub L c->mI w c->v (T.getD m undef) c):
  pJ P v w (G (Fr f T k [] .returning .normal none) []) L:=by
 refine pJ.done rfl λc i u=>⟨T.getD m undef,#[],?_,λe z=>by simp at z,h c i u⟩;simp[G,Fr,stepG,unwind,a,doReturn,results,b,d,GStep.after,seen_none]
def Hn{z:dp}{f:bO}{q:Func}{i:Code}{s:Nat}(a:P.funcs[f]?=q)(d:q.body=i)(r:q.results=#[.tmp s])(y:P.inits.idxOf? f=none)(p:q.ntmps=n)(m:Nat.ble j n=true)
  (l:∀v t c,Q v t->Sub t c->mI w c->z v c)
  (h:∀C:Cx P,C.X=jV P z w->C.f=f->C.L0=L->RtO C q s Q->W C n [] [.code i] (rA 0 j) [] L):pJ P z w (G (Frame.enter P f j.toArray .normal) []) L:=by
 refine W.start a d p m (h _ rfl rfl rfl ⟨rfl,λT k v R t g x e=>?_⟩);refine pJ.leave1 a r y λc I u=>?_;rw[g];exact l v t c x (λb o wr d=>I b o wr (e.le _ _ d)) u
end
end
end Go.Mz
