/- Lemmas for the claim. -/
import Derived.Test.YtjhpkghkgaekcaaGreatDoorMzAi
import Derived.Conc.DeferLaws
set_option linter.defProp false
set_option maxRecDepth 100000
namespace Go.Mz
open Go.Conc
variable {α:Type}{m:Nat}{R J:LH}{t e:bh}{w u:World}{h:α->List Value}{c:Int}{x:aW}{Y:Trace}{r:List α}{Q:bC}{D:bt}{d:bA}{F:Env}{g:aT}{o:bD}{N:Nm}{K:bI}{z:SV}{I:cj}{H:ck}
def DC:FrameMode->FrameMode
 | .panicking (e::adj)=>if e.recovered then(match adj.dropWhile (!·.goexit) with | []=>.returning | q=>.panicking q) else .panicking (e::adj)
 | m=>m
section
variable {P:aV}(X:aM P){f:bO}{T:aK}{k:bI}{l:cj}{cs:dX}{L:LH}
def aM.leaveD{d:Func}{c:Frame}(a:P.funcs[f]?=d)
  (h:aP P (λ_ i=>X.Go (G {c with mode:=DC c.mode} cs) i) (λ_ _=>False) (results d T) L):X.Go (G (Fr f T k [] .returning .deferred none) (c::cs)) L:=
 X.step _ L rfl λw m=>by
  let x:=yh _ L h w #[] m;let z:∃r p,(results d T).runT P w #[]=(r,p):=⟨_,_,rfl⟩;obtain⟨r,p,z⟩:=z;rw[z] at x;cases r with
  | halt hh w'=>cases hh <;> first | exact x.elim | (obtain⟨_,_,_,_,o⟩:=x;exact o.elim)
  | ok v w'=>
   obtain⟨i,us,t,s,o⟩:=x;rw[uo] at t;subst t;refine⟨_,w',seen P f p,i,?_,s.fewer (ub _ _ _),o⟩;let j:(match c.mode with
    | .panicking ({recovered:=true,..}::u)=>
     match u.dropWhile (!·.goexit) with
     | []=>{c with mode:=.returning}
     | q=>{c with mode:=.panicking q}
    | _=>c)={c with mode:=DC c.mode}:=by
    let⟨g,D,I,F,b,y,H⟩:=c;cases b with
    | run=>rfl
    | returning=>rfl
    | panicking l=>
     cases l with
     | nil=>rfl
     | cons e u=>
      let⟨ev,J,n⟩:=e;cases J with
      | false=>rfl
      | true=>
       simp[DC,if_true];cases u.dropWhile (!·.goexit) <;> rfl
   simp only[G,Fr,stepG,unwind,a,z,doReturn,my,rQ];exact aJ (λK=>GStep.go (G K cs) w' (seen P f p)) j
end
def FnD{P:aV}(X:aM P)(f:bO)(args:aK)(md:wB)(L:LH)(Q:C7):Prop:=
 ∀(c:Frame) (cs:dX),c.mode=md->(∀V9 L',Q V9 L'->X.Go (G {c with mode:=V9} cs) L')->X.Go (G (Frame.enter P f args .deferred) (c::cs)) L
def OR{P:aV}(X:aM P)(f:bO)(args:aR)(md:wB)(L:LH)(Q:C7):Prop:=
 qN P f/\∀R,Le L R->FnD X f args.toArray md R (λV9 R'=>∃L',Q V9 L'/\Post L R L' R')
structure RtD{P:Program}(C:Cx P)(fn:Func)(md:FrameMode)(Q:FrameMode->LH->Prop):Prop where
 fn:P.funcs[C.f]?=some fn
 ro:C.ro=none
 kd:C.kd=.deferred
 cs:∃c cs,C.cs=c::cs/\c.mode=md/\∀V9 R' L',Q V9 L'->Post C.L0 C.R0 L' R'->C.X.Go (G {c with mode:=V9} cs) R'
section
variable {P:aV}{n:Nat}{l:cj}{k:bI}{E:Env}{B:aX}{L:LH}{j:cU}{i:Nat}{q:List Nat}
def OR.enter{X:aM P}{f:bO}{q:Func}{z:Code}{e:aR}{j:wB}{Q:C7}(a:P.funcs[f]?=q)(d:q.body=z)(y:(q.name== "runtime.NumGoroutine")=false)(p:q.ntmps=n)(m:Nat.ble e n=true)
  (h:∀C:Cx P,C.X=X->C.f=f->C.L0=L->RtD C q j Q->W C n [] [.code z] (rA 0 e) [] L):OR X f e j L Q:=by
 refine⟨⟨q,a,y,by rw[d];rfl⟩,λR l c cs w I=>?_⟩;rw[wR a d];let H:(e.toArray++Array.replicate (q.ntmps - e.toArray.size) undef:Array Value)=e.toArray++Array.replicate (q.ntmps - e.toArray.size) undef:=rfl;let i:(e.toArray++Array.replicate (q.ntmps - e.toArray.size) undef:Array Value).size=n:=by
  have:=qE m;simp;omega
 refine h ⟨X,f,.deferred,none,c::cs,L,R⟩ rfl rfl rfl ⟨a,rfl,rfl,c,cs,rfl,w,λo r J K D=>I o r ⟨J,K,D⟩⟩ _ R fe i ?_ ⟨(λ_ _ _ h=>by cases h),(λ_ _ h=>by cases h),(λ_ _ h=>by cases h),(λk b x F=>by cases F),l,λb x _ h=>h,λb d=>.inl d,λb d=>d⟩;intro s x u;obtain⟨_,v,G,rfl⟩:=pj u;let t:=Li
 let g:s<e:=by
  rcases Cn s e with h | h
  .exact h
  .rw[mh h] at t;cases t
 rw[den]
 congr 1
 rw[Ds,IK F4,gq,t];rfl
variable {C:Cx P}
def EU{T:aK}{z:fX}{w:fD}{l:cR}{o:cZ}{c:Ay}(h:c .recover R):
  aP P c Q (execOp (ev T) ⟨w,.call {callee:=.builtin .recover,args:=#[],argTypes:=z},t,H,l,o⟩) R:=by
 simp[execOp,resolve,Z,aI,invoke];exact h
def W.aav{x:Func}{v:Value}{u:List PanicEntry}{Q:C7}{z:fX}{J:cR}{e:cZ}{sv:SV}(r:RtD C x (.panicking (Wx v::u)) Q)(I:nth j.toList i=some ⟨some m,.call {callee:=.builtin .recover,args:=#[],argTypes:=z},t,H,J,e⟩)(K:bG (get E) j.toList e=true)(p:Nat.blt m n=true)(g:den fe sv=v)
  (w:∀d:Cx P,d.X=C.X->d.f=C.f->d.L0=C.L0->d.R0=C.R0->RtD d x (.panicking ({v:=v,recovered:=true}::u)) Q->W d n l (.inRegion j q::k) ((m,sv)::E) B L):W C n l (.inRegion j (i::q)::k) E B L:=by
 let⟨D,y,o,c,cs,h,F,b⟩:=r;refine W.oper I K rfl λT R β G S hH=>(EU ?_);rw[y,o,h];let s:tryRecover (Fr C.f T (.inRegion j (i::q)::k) l .run .deferred none) (c::cs)=some (v,{c with mode:=.panicking ({v:=v,recovered:=true}::u)}::cs):=by
  simp[tryRecover,Fr,F,Wx]
 simp[jP];rw[show(Fr C.f T (.inRegion j (i::q)::k) l .run .deferred none).roundOf=none from rfl];simp[s];have:=W.iB (C:=⟨C.X,C.f,.deferred,none,{c with mode:=.panicking ({v:=v,recovered:=true}::u)}::cs,C.L0,C.R0⟩) I rfl (eH p) G S hH (fw g β)
  (w ⟨C.X,C.f,.deferred,none,{c with mode:=.panicking ({v:=v,recovered:=true}::u)}::cs,C.L0,C.R0⟩ rfl rfl rfl rfl ⟨D,rfl,rfl,_,cs,rfl,rfl,λa R' L' hq hp=>b a R' L' hq hp⟩)
 exact this
def W.Oc{g:Func}{Q:C7}{z:fX}{x:cR}{u:cZ}(r:RtD C g .returning Q)(d:nth j.toList i=some ⟨some m,.call {callee:=.builtin .recover,args:=#[],argTypes:=z},t,H,x,u⟩)(e:bG (get E) j.toList u=true)(p:Nat.blt m n=true)
  (w:W C n l (.inRegion j q::k) ((m,.v .nilIface)::E) B L):W C n l (.inRegion j (i::q)::k) E B L:=by
 let⟨a,y,o,c,cs,h,I,b⟩:=r;refine W.oper d e rfl λT R β J K D=>(EU ?_);let s:tryRecover (Fr C.f T (.inRegion j (i::q)::k) l .run C.kd C.ro) C.cs=none:=by
  rw[o,h];simp[tryRecover,Fr,I]
 simp[jP];rw[show(Fr C.f T (.inRegion j (i::q)::k) l .run C.kd C.ro).roundOf=none from y];simp[s];exact W.iB d rfl (eH p) J K D rfl w
def W.Yk{q:Func}{md:wB}{Q:C7}(r:RtD C q md Q)(b:q.results=#[])(u:k=[]\/∃v,k=.code .ret::v)(z:Q (DC md) L):W C n [] k E B L:=by
 intro T R β m g d;let⟨a,y,o,c,cs,h,i,t⟩:=r;rw[y,h,o];let j:∀k,C.X.Go (G (Fr C.f T k [] .returning .deferred none) (c::cs)) R:=λk=>by
  refine C.X.leaveD a ?_;unfold results;rw[b];simp[Z,GD,aI];rw[i];exact t _ _ _ z d.post
 rcases u with rfl | ⟨v,rfl⟩
 .exact C.X.quiet (g':=G (Fr C.f T [] [] .returning .deferred none) (c::cs)) rfl (λw=>by simp[G,Fr,stepG,stepG.exec]) (j _)
 .exact C.X.quiet (g':=G (Fr C.f T (.code .ret::v) [] .returning .deferred none) (c::cs)) rfl (λw=>by simp[G,Fr,stepG,stepG.exec]) (j _)
def W.XM{g:bO}{h v:aK}{m:fX}{c:cR}{o:cZ}(y:C.ro=none)(d:nth j.toList i=some ⟨none,.defer {callee:=.value x,args:=#[],argTypes:=m},t,H,c,o⟩)(p:bG (get E) j.toList o=true)(u:bZ (get E) x=z)(b:den fe z=some (.func (.func g) h v))
  (w:W C n (⟨.fn (.func g) v,h⟩::l) (.inRegion j q::k) E B L):W C n l (.inRegion j (i::q)::k) E B L:=by
 intro T R β s f r;let a:=d;rw[dF,iN] at d;refine C.X.op d (cA f p) (.inl y) ?_;let e:=bR ((f.val u).symm.trans (fw b β));simp[execOp,resolve,e,Deferred.ofValue,Z,aI,jP,Array.map_empty,rQ];exact W.qR a rfl s f r w
def WM.deferred{g:bO}{i t:aK}{x:wB}{Q:C7}{e:aR}(o:leaving x=true)(s:i++t=e.toArray)(y:OR C.X g e x L Q)(w:∀a v,Q a v->WM C n l a E B v):WM C n (⟨.fn (.func g) t,i⟩::l) x E B L:=by
 intro T R β k p b r;obtain⟨⟨z,u,I,m⟩,J⟩:=y;let K:=J R r.le (Fr C.f T k l x C.kd C.ro) C.cs rfl (λa D ⟨v,c,F⟩=>w a v c T D β k p b (r.call F));let⟨h,q⟩:∃h,z.body=some h:=by
  cases d:z.body with
  | none=>rw[d] at m;cases m
  | some h=>exact⟨h,rfl⟩
 let j:¬z.name= "runtime.NumGoroutine":=by simpa using I
 refine C.X.quiet rfl (λH=>?_) K;cases x with
 | run=>cases o
 | returning=>simp[G,Fr,stepG,unwind,callDeferred,invoke,s,callFunc,u,j,q,GStep.after,seen_none]
 | panicking ch=>simp[G,Fr,stepG,unwind,callDeferred,invoke,s,callFunc,u,j,q,GStep.after,seen_none]
end
end Go.Mz
