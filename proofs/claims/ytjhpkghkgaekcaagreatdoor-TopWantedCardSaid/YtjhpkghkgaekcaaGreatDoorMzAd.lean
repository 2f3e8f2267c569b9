/- Lemmas for the claim. -/
import Derived.Test.YtjhpkghkgaekcaaGreatDoorMzAc
import Derived.Laws.Sem
set_option linter.defProp false
set_option maxRecDepth 100000
namespace Go.Mz
open Go.Conc
variable {α:Type}{R J:LH}{w:World}{Y:Trace}{Q:bC}{D:bt}{K:bI}{I:cj}{H:ck}
def Df(P:aV)(h:Op)(e:bh)(T:aK)(L:LH)(mk:fJ)(o:Obj):Prop:=
 ∀(dst:fD) (r:ck) (z:cR) (s:cZ) (Q:Ay) (H:bC),(∀b,L b=none->Q (.value (mk b)) (L.put b o))->aP P Q H (execOp (ev T) ⟨dst,h,e,r,z,s⟩) L
def Mj(P:aV)(h:Op)(e:bh)(T:aK)(L:LH)(g:bO)(args:aK):Prop:=
 ∀(dst:fD) (r:ck) (z:cR) (s:cZ) (Q:Ay) (H:bC),Q (.enter g args) L->aP P Q H (execOp (ev T) ⟨dst,h,e,r,z,s⟩) L
section
variable {P:aV}(X:aM P)
variable {f:bO}{T:aK}{k:bI}{l:cj}{m:dW}{o:bD}{g:dX}{L:LH}{j:cU}{i:Nat}{q:List Nat}
variable {h:Op}{e:bh}{r:ck}{z:cR}{s:cZ}{d:Nat}{v:Value}
def Fn.enter{P:aV}{X:aM P}{f:bO}{q:Func}{u:Code}{e:aK}{L:LH}{H:kP}(a:P.funcs[f]?=q)(d:q.body=u)
  (h:∀(T:aK) (m:dW) (c:Frame) (g:dX),T=e++Array.replicate (q.ntmps - e.size) undef->(m=.normal\/m=.wrapped)->
   (∀v i,Q v i->X.Go (G (c.finish v) g) i)->(∀o i,H o i->X.Go (G (c.raise o) g) i)->X.Go (G (Fr f T [.code u] [] .run m none) (c::g)) L):Fn X f e L Q H:=by
 intro m c g t j z;rw[wR a d];exact h _ m c g rfl t j z
def Vj{e T:aK}{n j:Nat}{v:Value}(h:T=e++Array.replicate n undef)(g:e[j]?=v):T.getD j undef=v:=by
 subst h;let u:=(iL.1 g).1;rw[Ds,IK u,g]
 rfl
end
section
variable {P:aV}{T:aK}{L:LH}{e t n:bh}{x y c:aW}{v u:Value}{a b:Int}{k:IntKind}
def Df.box{c:aK}(h:ev T x=v)(u:v.cells=c):Df P (.box t x) e T L (λb=>.pointer (some ⟨b,0,none⟩)) (.cells c t):=by
 intro w r z s Q H q;simp only[execOp,h];rw[Z];unfold Instr.box;rw[Z];unfold newVar;rwa[jD,u]
def Df.alloc{w:Value}{c:aK}(p:(P.info? t).bind (·.zero)=w)(u:w.cells=c):Df P (.alloc t) e T L (λb=>.pointer (some ⟨b,0,none⟩)) (.cells c t):=by
 intro q r z s Q H v;simp only[execOp];rw[Z];unfold Instr.alloc;rw[Z,gA p];rw[Z];unfold newVar;rwa[jD,u]
def Df.buildSlice{B:bh}{n m:Nat}{q:LP}{pv:LQ}{w:Value}{f:aK}(u:P.underlying t=some (.slice B))(y:(P.info? B).map (·.size)=n)(o:m *n<=2 ^ 24)
  (p:(P.info? B).bind (·.zero)=w)(a:(q.map λ(i,x)=>(i,ev T x)).toList=pv)
  (v:Instr.fill (λi=>↑(i *n,n)) ((Array.range (m *n)).map (λi=>(if m *n=0 then#[] else w.cells)[i % (if m *n=0 then(#[]:Array Value) else w.cells).size]!)) pv=f):
  Df P (.buildSlice t m q) e T L (λb=>.slice (some ⟨b,0,none⟩) m m) (.cells f B):=by
 intro j r z s Q H c;let d:¬m *n>2 ^ 24:=M
 simp only[execOp];rw[Z];unfold Instr.buildSlice;rw[Z,aD u];rw[Z,cQ y];simp only[A d]
 by_cases g:m *n=0
 .simp only[g,if_true] at v ⊢;simp only[Z,aI,a,v];rw[jD];exact c
 .simp only[A g] at v ⊢;simp only[Z,gA p,aI];simp only[a,v];rw[Z,jD];exact c
def Df.makeMap:Df P (.makeMap t none) e T L (λb=>.map b) (.map #[] 0):=by
 intro w r z s Q H c;simp only[execOp,Cg];rw[Z];exact c
def Xn{l:Addr}{w:x6}(a:single v=true)(u:L.GN l=true):aP P w Q (store l v) L=w () (L.setCell l v):=by
 show aP P w Q (.store .plain l v (.pure ())) L=_;unfold aP;simp[a,u,true_and]
 rfl
def T8{ad:Addr}{c:aK}{e:bh}{t:km}{j:Bool}(h:L ad.block=some (.cells c e t,j))(a:ad.spot=none):L.setCell ad v ad.block=some (.cells (c.setIfInBounds ad.off v) e t,j):=by
 unfold LH.setCell;rw[ax rfl,h];simp[ng,a]
def T9{l:Addr}{b:Nat}(h:b≠l.block):L.setCell l v b=L b:=by
 unfold LH.setCell;rw[A h]
def ab0{b z:Nat}{c:aK}{e:bh}(h:L b=some (.cells c e (0,0),true))(j:z<c.size):L.GN ⟨b,z,none⟩=true:=by
 unfold LH.GN;simp[h];simp[j]
def bY(c:aK)(i:Nat):List Value->Array Value
 | []=>c
 | v::vs=>bY (c.setIfInBounds i v) (i+1) vs
def xJ(i:Nat)(j:aR)(c:aK):(bY c i j).size=c.size:=by
 induction j generalizing c i with
 | nil=>rfl
 | cons v j l=>simp[bY,l]
def ky{b z:Nat}{e:bh}{w:x6}:∀(j:aR) (i:Nat) (c:aK) (L:LH),L b=some (.cells c e (0,0),true)->z+i+j<=c.size->(∀v∈j,single v=true)->
  (∀f,f b=some (.cells (bY c (z+i) j) e (0,0),true)->(∀t,t≠b->f t=L t)->w () f)->aP P w Q (storeCells ⟨b,z,none⟩ j i) L:=by
 intro j
 induction j with
 | nil=>intro i c L h _ _ m;exact m L h (λ_ _=>rfl)
 | cons v j l=>
  intro i c L h o a m;simp[pR] at o;simp[storeCells];let s:Addr.add ⟨b,z,none⟩ i=⟨b,z+i,none⟩:=by
   unfold Addr.add
   split <;> simp_all
  rw[Z,s,Xn (a v fC) (ab0 h M)];let d:=T8 (ad:=⟨b,z+i,none⟩) (v:=v) h rfl;refine l (i+1) _ _ d bU (λu g=>a u (fG _ g)) (λf q y=>m f ?_ (λt x=>?_))
  .rw[q];rfl
  .rw[y t x,T9 x]
def rL{g:bO}{q:Func}{e:aK}{Q:Ay}{H:bC}(a:P.funcs[g]?=q)(y:(q.name== "runtime.NumGoroutine")=false)(d:q.body.isNone=false):aP P Q H (callFunc g e) L=Q (.enter g e) L:=by
 unfold callFunc;rw[Z,gG];simp[a,y,d]
 rfl
def Mj.func{g:bO}{q:Func}{w:jk}{v:fX}{j:aK}(a:P.funcs[g]?=q)(y:(q.name== "runtime.NumGoroutine")=false)(d:q.body.isNone=false)(u:w.map (ev T)=j):
  Mj P (.call {callee:=.value (.func g),args:=w,argTypes:=v}) e T L g j:=by
 intro i r z s Q H c;simp only[execOp,resolve,ev,Deferred.ofValue,u];rw[Z,aI];simp[invoke,uo,rQ];rwa[rL a y d]
def Mj.value{g:bO}{q:Func}{w:jk}{i:fX}{j c v ws:aK}(a:P.funcs[g]?=q)(y:(q.name== "runtime.NumGoroutine")=false)(d:q.body.isNone=false)(f:ev T x=.func (.func g) c v)(u:w.map (ev T)=j)(o:c++j++v=ws):
  Mj P (.call {callee:=.value x,args:=w,argTypes:=i}) e T L g ws:=by
 intro t r z s Q H m;simp only[execOp,resolve,f,Deferred.ofValue,u];rw[Z,aI];simp only[invoke];rwa[rL a y d,o]
end
end Go.Mz
