/- Lemmas for the claim. -/
import Derived.Test.YtjhpkghkgaekcaaGreatDoorMzLo
import Derived.ProofKit
import Derived.Conc.LeavingOf
import Derived.Conc.CrowdRun
import Derived.KernelRfl
set_option linter.defProp false
set_option maxRecDepth 100000
namespace Go.Mz
open Go.Conc
variable {P:aV}{α:Type}{n k m:Nat}{L R J:LH}{t e:bh}{w u:World}{h:α->List Value}{c:Int}{B:aX}{x:aW}{Y:Trace}{l:aH}{r:List α}{s:Sw}{q:aU}{Q:bC}{E:cK}{j:aR}{D:bt}{d:bA}{F:Env}{g:aT}{o:bD}{C:bH}{N:Nm}{K:bI}{z:SV}{I:cj}{H:ck}{X:aM Proofs.Tryz.prog}
section
open Go.ConcN
def mP(W:World):LH:=λb=>(W.heap[b]?).map λo=>(o,false)
theorem WW(W:World):Sub (mP W) W:=λb o wr h=>by
 unfold mP at h;cases d:W.heap[b]? with
 | none=>rw[d] at h;cases h
 | some x=>rw[d] at h;cases h;rfl
theorem Ht{a:Addr}{v:Value}(h:w.cell? a=some v):(mP w).cell? a=some v:=by
 unfold World.cell? at h;unfold LH.cell? mP;cases d:w.heap[a.block]? with
 | none=>rw[d] at h;cases h
 | some x=>rw[d] at h;cases x <;> first | exact h | cases h
theorem Eh{α:Type}{p:Nat->α->Prop}:∀n:Nat,(∀i,i<n->∃x,p i x)->∃l:List α,l.length=n/\∀(i:Nat) (x:α),l[i]?=some x->p i x
 | 0,_=>⟨[],rfl,λi x h=>by simp at h⟩
 | n+1,h=>by
  obtain⟨l,q,z⟩:=Eh n λi v=>h i M;obtain⟨x,u⟩:=h n M;refine⟨l++[x],by simp[q],λi y g=>?_⟩;rcases Cn i l.length with v | v
  ·rw[kS v] at g;exact z i y g
  ·rw[lh v] at g;have:i - l.length=0:=by
    rcases pU (i - l.length) with e | e
    ·exact e
    ·rw[mh bU] at g;cases g
   rw[this] at g;cases g;rw[show i=n by omega];exact u
theorem Ky{Q:dp}(h:pJ P Q w g (mP w)):fM P Q (solo g w) #[]:=by
 have q:=h #[g] w none #[] (λ_=>0) (λ_=>False) rfl (WW w) ⟨rfl,HD.refl _,rfl⟩ ⟨λi l u n=>?_,λj t=>?_⟩ ⟨?_,?_,?_,?_,?_⟩ (λb d=>d.elim)
 ·exact q
 ·exfalso
  rw[Array.getElem?_eq_none bU] at n;cases n
 ·simp[Deaf,Trace.deaf]
 ·exact noRace_nil
 ·intro i a b h;simp[touchAt,Trace.act?] at h
 ·intro i l h;simp[Trace.g?] at h
 ·simp[Deaf,Trace.deaf]
 ·intro i a b h;simp[touchAt,Trace.act?] at h
theorem Wu{H:Type}{f:TypeId×Value->H}{W:x7}{m:Bool}{x:DataW H×List MemPlace}{encA:α->List Value}{mk:(Nat->Int)->α}(E:P.underlying t=some (.slice e))(b:P.cellsOf e=k)
  (Q:∀c o y,DataW.trod f P w 0 W m c e o=some y->∀i,i<k->∃z,o[i]?=some (.int .i64 z))(R:∀z d v,(encA (mk z))[d]?=some v->d<k/\v=.int .i64 (z d))
  (h:DataW.trod f P w 0 W m n t j=some x):
  ∃(X:bA) (I:Nat) (l:List α),j=[.slice X l.length I]/\bz (mP w) X k encA l/\(l.length=0\/∃C s,x.1=.slice C s/\C.length=l.length):=by
 rcases DataW.trod_slice E h with⟨rfl,rfl⟩ | ⟨a,len,I,elems,rest,c,_,rfl,rfl,hb,hl,hm,hlen,aiW,_,_⟩
 ·exact⟨none,0,[],rfl,λi x u=>by simp at u,.inl O⟩
 ·have K:∀i,i<len->∃q:α,∀d v,(encA q)[d]?=some v->(mP w).cell? (a.add (i *k+d))=some v:=by
   intro i hi;have D:=aiW i hi;rw[bX M] at D;obtain⟨o,G,r⟩:=Option.bind_eq_some_iff.1 D;rw[b] at G;obtain⟨_,g,J⟩:=World.cells?_some G;have p:∀d,∃z:Int,d<k->o[d]?=some (.int .i64 z):=λd=>by
    by_cases F:d<k
    ·obtain⟨z,p⟩:=Q c o _ r d F;exact⟨z,λ_=>p⟩
    ·exact⟨0,λh=>ar h F⟩
   obtain⟨B,S⟩:=Classical.axiomOfChoice p;refine⟨mk B,λd v T=>?_⟩;obtain⟨F,rfl⟩:=R B d v T;have:=J d F;rw[Dr,S d F] at this;exact Ht this
  obtain⟨l,D,G⟩:=Eh len K;refine⟨some a,I,l,by rw[D],λi q hq=>⟨a,rfl,λd v T=>G i q hq d v T⟩,.inr ⟨_,_,rfl,by rw[eT,hlen,D]⟩⟩
theorem Cs{α:Type}{f:TypeId×Value->α}{P:aV}{w:World}(o:laidOutB P=true):∀{z:List TypeId} {j:aR} {k:List (DataW α)} {l:List MemPlace} {i:World},(∀t∈z,P.readableRec t=true/\t<P.types.size)->DataW.TrodAll f P w 0 (λ_=>true) true z j k l->Go.RowKit.Below w.heap.size w i->(∀x∈l,x.block<w.heap.size)->
  DataW.TrodAll f P i 0 (λb=>decide (b<w.heap.size)) true z j k l
 | [],[],[],l,i,_,h,_,_=>h
 | t::z,v::j,d::k,l,i,hr,h,hb,SY=>by
  obtain⟨p,q,a,m,rfl⟩:=h;obtain⟨r1,r2⟩:=hr t fC;exact⟨p,q,Go.RowKit.Below.trod o r1 r2 a hb (λx u=>SY x (yT _ u)),Cs o (λt s=>hr t (fG _ s)) m hb (λx u=>SY x (IQ _ u)),rfl⟩
 | [],_::_,_,_,_,_,h,_,_=>by cases h
 | [],[],_::_,_,_,_,h,_,_=>by cases h
 | _::_,[],_,_,_,_,h,_,_=>by cases h
 | _::_,_::_,[],_,_,_,h,_,_=>by cases h
end
section
open Go.ConcN Go.Proofs Go.ChangeShapes Go.WideShapes
theorem Zx:Tryz.prog.cellsOf 3=1:=aN
theorem Zu:Tryz.prog.bytesOf 3=8:=aN
theorem el3{f:TypeId×Value->α}{q:x7}{m:Bool}(n:Nat)(u:aR)(y:DataW α×List MemPlace)(h:DataW.trod f Tryz.prog w 0 q m n 3 u=some y)(i:Nat)(v:i<1):∃z,u[i]?=some (.int .i64 z):=by
 obtain⟨z,rfl,_⟩:=DataW.trod_int Tryz.underlying3 h;obtain rfl:i=0:=M
 exact⟨z,rfl⟩
theorem ahK{f:TypeId×Value->α}{i:x7}{m:Bool}{x:DataW α×List MemPlace}(h:DataW.trod f Tryz.prog w 0 i m n 22 j=some x):∃(d:bA) (u:Nat) (l:aH),j=[.slice d l.length u]/\bK (mP w) d l/\(l.length=0\/∃q s,x.1=.slice q s/\q.length=l.length):=
 Wu (k:=1) (encA:=bL) (mk:=λz=>z 0) Tryz.underlying22 Zx el3 (λz c v g=>match c,g with
  | 0,g=>by cases g;exact⟨V,rfl⟩) h
theorem Kb{f:TypeId×Value->α}{i:x7}{c:Bool}{v:Value}{d:DataW α}{k:List MemPlace}(g:Value.okWide Tryz.prog w .any n 22 v)(h:DataW.Trod f Tryz.prog w 0 i c 22 v d k)(u:∀m∈d.weights Tryz.prog 22,m<=reachBytes):
  ∃(j:bA) (t:Nat) (l:aH),v=.slice j l.length t/\bK (mP w) j l/\l.length<=140737488355328:=by
 obtain⟨x,y,t,rfl⟩:=okWide_slice Tryz.underlying22 g;obtain⟨p,a⟩:=h;obtain⟨j,e,l,b,I,o⟩:=ahK a;have r:[Value.slice x y t]=[Value.slice j l.length e]:=by simpa [Value.cells] using b
 cases r;refine⟨_,_,l,rfl,I,?_⟩;rcases o with o | ⟨q,s,rfl,z⟩
 ·omega
 ·have:=u ((q.length+s.length) *Tryz.prog.bytesOf 3) (by unfold DataW.weights;rw[Tryz.underlying22];exact fC);rw[Zu] at this;unfold reachBytes at this;omega
end
end Go.Mz
