/- Lemmas on which the claim leans. -/
import Derived.Test.YtjhpkghkgaekcaaGreatDoorMzLm
import Derived.ProofKit
import Derived.Conc.LeavingOf
import Derived.Conc.CrowdRun
set_option maxRecDepth 100000
namespace Go.Mz
open Go.Conc Go.ConcN
def iS(W:World):LH:=fun b=>(W.heap[b]?).map fun o=>(o,false)
theorem JS(W:World):Sub (iS W) W:=fun b o wr h=>by
 unfold iS at h;cases hb:W.heap[b]? with
 | none=>rw[hb] at h;cases h
 | some x=>rw[hb] at h;cases h;rfl
theorem xW{W:World}{a:Addr}{v:Value}(h:W.cell? a=some v):(iS W).cell? a=some v:=by
 unfold World.cell? at h;unfold LH.cell? iS;cases hb:W.heap[a.block]? with
 | none=>rw[hb] at h;cases h
 | some x=>rw[hb] at h;cases x <;> first | exact h | cases h
theorem vr{α:Type}{p:Nat→α→Prop}:∀n:Nat,(∀i,i<n→∃x,p i x)→∃l:List α,l.length=n∧∀(i:Nat) (x:α),l[i]?=some x→p i x
 | 0,_=>⟨[],rfl,fun i x h=>by simp at h⟩
 | n+1,h=>by
  obtain⟨l,h1,h2⟩:=vr n fun i hi=>h i (by omega);obtain⟨x,hx⟩:=h n (by omega);refine⟨l++[x],by simp[h1],fun i y hy=>?_⟩;rcases Nat.lt_or_ge i l.length with hi | hi
  ·rw[List.getElem?_append_left hi] at hy;exact h2 i y hy
  ·rw[List.getElem?_append_right hi] at hy;have:i - l.length=0:=by
    rcases Nat.eq_zero_or_pos (i - l.length) with e | e
    ·exact e
    ·rw[List.getElem?_eq_none (by simp;omega)] at hy;cases hy
   rw[this] at hy;cases hy;rw[show i=n by omega];exact hx
theorem Jx{P:Program}{Q:Value→World→Prop}{W:World}{g:Goroutine}(h:nV P Q W g (iS W)):ew P Q (solo g W) #[]:=by
 have h1:=h #[g] W none #[] (fun _=>0) (fun _=>False) rfl (JS W) ⟨rfl,yd.refl _,rfl⟩ ⟨fun i g' hi hg=>?_,fun j hj=>?_⟩ ⟨?_,?_,?_,?_,?_⟩ (fun b hb=>hb.elim)
 ·exact h1
 ·exfalso
  rw[Array.getElem?_eq_none (by simp;omega)] at hg;cases hg
 ·simp[Deaf,Trace.deaf]
 ·exact noRace_nil
 ·intro i a b h;simp[touchAt,Trace.act?] at h
 ·intro i g' h;simp[Trace.g?] at h
 ·simp[Deaf,Trace.deaf]
 ·intro i a b h;simp[touchAt,Trace.act?] at h
section
variable {H:Type}{enc:TypeId×Value→H}{P:Program}{W:World}{sp:Nat→Bool}{held:Bool}
theorem Jr{α:Type}{t e:TypeId}{k fuel:Nat}{cs:List Value}{x:DataW H×List MemPlace}{encA:α→List Value}{mk:(Nat→Int)→α}(ht:P.underlying t=some (.slice e))(hc:P.cellsOf e=k)
  (hel:∀n iY y,DataW.trod enc P W 0 sp held n e iY=some y→∀i,i<k→∃z,iY[i]?=some (.int .i64 z))(QT:∀z j v,(encA (mk z))[j]?=some v→j<k∧v=.int .i64 (z j))
  (h:DataW.trod enc P W 0 sp held fuel t cs=some x):
  ∃(ad:Option Addr) (cap:Nat) (l:List α),cs=[.slice ad l.length cap]∧aX (iS W) ad k encA l∧(l.length=0∨∃es s,x.1=.slice es s∧es.length=l.length):=by
 rcases DataW.trod_slice ht h with⟨rfl,rfl⟩ | ⟨a,len,cap,elems,rest,n,_,rfl,rfl,hb,hl,hm,hlen,abO,_,_⟩
 ·exact⟨none,0,[],rfl,fun i x hx=>by simp at hx,.inl rfl⟩
 ·have each:∀i,i<len→∃q:α,∀j v,(encA q)[j]?=some v→(iS W).cell? (a.add (i *k+j))=some v:=by
   intro i hi;have h1:=abO i hi;rw[List.getElem?_eq_getElem (by omega)] at h1;obtain⟨iY,h2,h3⟩:=Option.bind_eq_some_iff.1 h1;rw[hc] at h2;obtain⟨_,QQ,bW⟩:=World.cells?_some h2;have hz:∀j,∃z:Int,j<k→iY[j]?=some (.int .i64 z):=fun j=>by
    by_cases hj:j<k
    ·obtain⟨z,hz⟩:=hel n iY _ h3 j hj;exact⟨z,fun _=>hz⟩
    ·exact⟨0,fun h=>absurd h hj⟩
   obtain⟨zz,Vg⟩:=Classical.axiomOfChoice hz;refine⟨mk zz,fun j v hv=>?_⟩;obtain⟨hj,rfl⟩:=QT zz j v hv;have:=bW j hj;rw[zf,Vg j hj] at this;exact xW this
  obtain⟨l,h1,h2⟩:=vr len each;refine⟨some a,cap,l,by rw[h1],fun i q hq=>⟨a,rfl,fun j v hv=>h2 i q hq j v hv⟩,.inr ⟨_,_,rfl,by rw[List.length_map,hlen,h1]⟩⟩
theorem zh(hl:laidOutB P=true):∀{ts:List TypeId} {vs:List Value} {ds:List (DataW H)} {ps:List MemPlace} {W':World},(∀t∈ts,P.readableRec t=true∧t<P.types.size)→DataW.TrodAll enc P W 0 (fun _=>true) true ts vs ds ps→Go.RowKit.Below W.heap.size W W'→(∀x∈ps,x.block<W.heap.size)→
  DataW.TrodAll enc P W' 0 (fun b=>decide (b<W.heap.size)) true ts vs ds ps
 | [],[],[],ps,W',_,h,_,_=>h
 | t::ts,v::vs,d::ds,ps,W',hr,h,hb,aU=>by
  obtain⟨p,q,h1,h2,rfl⟩:=h;obtain⟨r1,r2⟩:=hr t List.mem_cons_self;exact⟨p,q,Go.RowKit.Below.trod hl r1 r2 h1 hb (fun x hx=>aU x (List.mem_append_left _ hx)),zh hl (fun t ht=>hr t (List.mem_cons_of_mem _ ht)) h2 hb (fun x hx=>aU x (List.mem_append_right _ hx)),rfl⟩
 | [],_::_,_,_,_,_,h,_,_=>by cases h
 | [],[],_::_,_,_,_,h,_,_=>by cases h
 | _::_,[],_,_,_,_,h,_,_=>by cases h
 | _::_,_::_,[],_,_,_,h,_,_=>by cases h
end
end Go.Mz
