/- Lemmas on which the claim leans. -/
import Derived.Test.YtjhpkghkgaekcaaGreatDoorMzAc
import Derived.IntWalk
namespace Go.Mz
open Go.Conc
theorem Ia{args T:Array Value}{m n:Nat}(hT:T=args++Array.replicate (m - args.size) undef)(hm:m=n)(h:args.size≤n):T.size=n:=by
 subst hT hm;simp;omega
theorem aP{L0 L:LH}{b:Nat}(h:Le L0 L)(hn:L b=none):L0 b=none:=by
 cases hx:L0 b with
 | none=>rfl
 | some x=>rw[h _ _ hx] at hn;cases hn
theorem cK(b off i:Nat):Addr.add ⟨b,off,none⟩ i=⟨b,off+i,none⟩:=by
 unfold Addr.add;split <;> simp_all
section
variable {T:Array Value}{x0 x1 x2 x3 x4 x5:Operand}{v0 v1 v2 v3 v4 v5:Value}
end
def aX{α:Type}(L:LH)(ad:Option Addr)(n:Nat)(enc:α→List Value)(l:List α):Prop:=
 ∀i x,l[i]?=some x→∃a,ad=some a∧∀j v,(enc x)[j]?=some v→L.cell? (a.add (i *n+j))=some v
theorem aX.le{α:Type}{L L':LH}{ad:Option Addr}{n:Nat}{enc:α→List Value}{l:List α}(h:aX L ad n enc l)(hl:Le L L'):aX L' ad n enc l:=
 fun i x hx=>let⟨a,h1,h2⟩:=h i x hx;⟨a,h1,fun j v hv=>hl.cell (h2 j v hv)⟩
theorem aX.addr{α:Type}{L:LH}{ad:Option Addr}{n:Nat}{enc:α→List Value}{l:List α}(h:aX L ad n enc l){i:Nat}(hi:i<l.length):∃a,ad=some a:=
 let⟨a,h1,_⟩:=h i l[i] (List.getElem?_eq_getElem hi);⟨a,h1⟩
theorem aX.get{α:Type}{L:LH}{a:Addr}{n:Nat}{enc:α→List Value}{l:List α}(h:aX L (some a) n enc l){i:Nat}{x:α}(hx:l[i]?=some x){j:Nat}{v:Value}(hv:(enc x)[j]?=some v):L.cell? (a.add (i *n+j))=some v:=by
 obtain⟨a',h1,h2⟩:=h i x hx;cases h1;exact h2 j v hv
theorem zf(a:Addr)(i j:Nat):(a.add i).add j=a.add (i+j):=by
 unfold Addr.add
 by_cases hi:i=0
 ·subst hi;simp
 ·by_cases hj:j=0
  ·subst hj;simp
  ·simp[hi,hj];omega
def cj(x:Int):List Value:=[.int .i64 x]
abbrev aN(L:LH)(ad:Option Addr)(l:List Int):Prop:=aX L ad 1 cj l
theorem aX.int{L:LH}{a:Addr}{l:List Int}(h:aX L (some a) 1 cj l){i:Nat}{x:Int}(hx:l[i]?=some x):L.cell? (a.add i)=some (.int .i64 x):=by
 have:=h.get hx (j:=0) (v:=.int .i64 x) rfl
 simpa using this
section
variable {P:Program}(X:ax P)
variable {f:FuncId}{T:Array Value}{k:List Item}{ds:List Deferred}{kd:CallKind}{ro:Option Nat}{cs:List Frame}{L:LH}
theorem ax.Ym{c:Operand}{a b:Code}(ht:ev T c=.bool true)(h:X.Go (G (Fr f T (.code a::k) ds .run kd ro) cs) L):X.Go (G (Fr f T (.code (.cond c a b)::k) ds .run kd ro) cs) L:=X.cond ht h
theorem ax.Yk{c:Operand}{a b:Code}(ht:ev T c=.bool false)(h:X.Go (G (Fr f T (.code b::k) ds .run kd ro) cs) L):X.Go (G (Fr f T (.code (.cond c a b)::k) ds .run kd ro) cs) L:=X.cond ht h
end
theorem wrap64_in(n:Int)(h1:-9223372036854775808≤n)(h2:n≤9223372036854775807):IntKind.i64.wrap n=n:=IntWalk.i64_in n ⟨h1,by omega⟩
section
variable {P:Program}{T:Array Value}{L:LH}{ty t t2:TypeId}{x y:Operand}{a b:Int}
end
theorem aX.whole{α:Type}{L:LH}{a:Addr}{n:Nat}{enc:α→List Value}{l:List α}(h:aX L (some a) n enc l){i:Nat}{x:α}(hx:l[i]?=some x)(hn:(enc x).length=n):cH L (a.add (i *n)) n (enc x):=
 ⟨hn,fun j v hv=>by rw[zf];exact h.get hx hv⟩
section
variable {P:Program}{T:Array Value}
theorem vV{L:LH}{H:Value→LH→Prop}:∀{fs:List Field} {pl:List (Nat×Nat)},fs.map (fun f=>((P.info? f.type).map (·.size)).map (fun n=>(f.offset,n)))=pl.map some→∀(Q:List (Nat×Nat)→LH→Prop),
  az P Q H (fs.mapM fun f=>do pure (f.offset,←sizeOf f.type)) L=Q pl L
 | [],[],_,Q=>rfl
 | [],_::_,h,_=>by cases h
 | _::_,[],h,_=>by cases h
 | f::fs,x::pl,h,Q=>by
  simp only[List.map_cons,List.cons.injEq] at h;obtain⟨h1,h2⟩:=h;obtain⟨n,hn,hx⟩:=Option.map_eq_some_iff.1 h1;rw[List.mapM_cons,ae,ae,bL hn];simp only[ar];rw[ae,vV h2];simp only[ar];rw[hx]
theorem plc{f:Field}{n:Nat}{fs:List Field}{pl:List (Nat×Nat)}(h:(P.info? f.type).map (·.size)=some n)(hs:fs.map (fun f=>((P.info? f.type).map (·.size)).map (fun n=>(f.offset,n)))=pl.map some):
  (f::fs).map (fun f=>((P.info? f.type).map (·.size)).map (fun n=>(f.offset,n)))=((f.offset,n)::pl).map some:=by
 rw[List.map_cons,List.map_cons,h,hs];rfl
theorem places{L:LH}{fs:Array Field}{pl:List (Nat×Nat)}(h:fs.toList.map (fun f=>((P.info? f.type).map (·.size)).map (fun n=>(f.offset,n)))=pl.map some)(Q:Array (Nat×Nat)→LH→Prop)(H:Value→LH→Prop):
  az P Q H (fs.mapM fun f=>do pure (f.offset,←sizeOf f.type)) L=Q pl.toArray L:=by
 rw[Array.mapM_eq_mapM_toList,←bind_pure_comp,ae,vV h];simp only[ar]
variable {x0 x1 x2 x3 x4 x5:Operand}{v0 v1 v2 v3 v4 v5:Value}{i0 i1 i2 i3 i4 i5:Nat}
end
end Go.Mz
