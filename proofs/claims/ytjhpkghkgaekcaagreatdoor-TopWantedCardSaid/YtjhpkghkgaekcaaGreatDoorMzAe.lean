/- Lemmas for the claim. -/
import Derived.Test.YtjhpkghkgaekcaaGreatDoorMzAd
import Derived.IntWalk
set_option linter.defProp false
set_option maxRecDepth 100000
namespace Go.Mz
open Go.Conc
variable {α:Type}{n k m:Nat}{L R J:LH}{t e:bh}{w u:World}{h:α->List Value}{c:Int}{x:aW}{Y:Trace}{l:aH}{r:List α}{q:aU}{Q:bC}{j:aR}{D:bt}{d:bA}{g:aT}{o:bD}{K:bI}{I:cj}{H:ck}
def Vi{e T:aK}(u:T=e++Array.replicate (m - e.size) undef)(o:m=n)(h:e.size<=n):T.size=n:=by
 subst u o;simp;omega
def bN(h:Le R L)(y:L n=none):R n=none:=by
 cases u:R n with
 | none=>rfl
 | some x=>rw[h _ _ u] at y;cases y
def bM(b z i:Nat):Addr.add ⟨b,z,none⟩ i=⟨b,z+i,none⟩:=by
 unfold Addr.add;split <;> simp_all
def bz(L:LH)(ad:bA)(n:Nat)(enc:α->List Value)(l:List α):Prop:=
 ∀i x,l[i]?=some x->∃a,ad=some a/\∀j v,(enc x)[j]?=some v->L.cell? (a.add (i *n+j))=some v
theorem bz.le(c:bz L d n h r)(o:Le L R):bz R d n h r:=
 λi x u=>let⟨a,q,z⟩:=c i x u;⟨a,q,λj v g=>o.cell (z j v g)⟩
theorem bz.addr(c:bz L d n h r){i:Nat}(u:i<r.length):∃a,d=some a:=
 let⟨a,q,_⟩:=c i r[i] (bX u);⟨a,q⟩
theorem bz.get{a:Addr}(c:bz L (some a) n h r){i:Nat}{x:α}(u:r[i]?=some x){j:Nat}{v:Value}(g:(h x)[j]?=some v):L.cell? (a.add (i *n+j))=v:=by
 let⟨f,q,z⟩:=c i x u;cases q;exact z j v g
def Dr(a:Addr)(i j:Nat):(a.add i).add j=a.add (i+j):=by
 unfold Addr.add
 by_cases u:i=0
 .subst u;simp
 .by_cases t:j=0
  .subst t;simp
  .simp[u,t];omega
def bL(x:Int):List Value:=[x]
abbrev bK(L:LH)(ad:Option Addr)(l:List Int):Prop:=bz L ad 1 bL l
def bz.int{a:Addr}(h:bz L (some a) 1 bL l){i:Nat}{x:Int}(u:l[i]?=some x):L.cell? (a.add i)=some (.int .i64 x):=by
 have:=h.get u (j:=0) rfl
 simpa using this
section
variable {P:aV}(X:aM P)
def aM.aha{f:bO}{T:aK}{v:dW}{i:dX}{a b:Code}(s:ev T x=.bool true)(h:X.Go (G (Fr f T (.code a::K) I .run v o) i) L):X.Go (G (Fr f T (.code (.cond x a b)::K) I .run v o) i) L:=X.cond s h
def aM.ag9{f:bO}{T:aK}{v:dW}{i:dX}{a b:Code}(s:ev T x=.bool false)(h:X.Go (G (Fr f T (.code b::K) I .run v o) i) L):X.Go (G (Fr f T (.code (.cond x a b)::K) I .run v o) i) L:=X.cond s h
end
def wrap64_in(n:Int)(q:-9223372036854775808<=n)(z:n<=9223372036854775807):IntKind.i64.wrap n=n:=IntWalk.i64_in n ⟨q,M⟩
def bz.whole{a:Addr}(c:bz L (some a) n h r){x:α}(u:r[k]?=some x)(y:(h x).length=n):cD L (a.add (k *n)) n (h x):=
 ⟨y,λj v g=>by rw[Dr];exact c.get u g⟩
section
variable {P:Program}
def ET{L:LH}{Q:bC}:∀{s:List Field} {k:C6},s.map (λf=>((P.info? f.type).map (·.size)).map (λn=>(f.offset,n)))=k.map some->∀(c:List (Nat×Nat)->LH->Prop),
  aP P c Q (s.mapM λf=>do pure (f.offset,<-sizeOf f.type)) L=c k L
 | [],[],_,c=>rfl
 | [],_::_,h,_=>by cases h
 | _::_,[],h,_=>by cases h
 | f::s,x::k,h,c=>by
  simp only[iH,List.cons.injEq] at h;obtain⟨q,z⟩:=h;obtain⟨n,y,u⟩:=il.1 q;rw[Ch,Z,Z,cQ y];simp only[aI];rw[Z,ET z];simp only[aI];rw[u]
def plc{f:Field}{s:List Field}{k:C6}(h:(P.info? f.type).map (·.size)=some n)(a:s.map (λf=>((P.info? f.type).map (·.size)).map (λn=>(f.offset,n)))=k.map some):
  (f::s).map (λf=>((P.info? f.type).map (·.size)).map (λn=>(f.offset,n)))=((f.offset,n)::k).map some:=by
 rw[iH,iH,h,a];rfl
def places{s:Array Field}{k:C6}(h:s.toList.map (λf=>((P.info? f.type).map (·.size)).map (λn=>(f.offset,n)))=k.map some)(Q:Array (Nat×Nat)->LH->Prop)(H:bC):
  aP P Q H (s.mapM λf=>do pure (f.offset,<-sizeOf f.type)) L=Q k.toArray L:=by
 rw[GD,<-bind_pure_comp,Z,ET h];simp only[aI]
end
end Go.Mz
