/- Lemmas on which the claim leans. -/
import Derived.Test.YtjhpkghkgaekcaaGreatDoorMzAk
import Derived.Conc.CrowdTrace
namespace Go.Mz
open Go.Conc
open Go.ConcN (sumTo upd sumTo_upd upd_ne upd_same)
section
variable {Ls Ls':Nat→LH}{Sh Am Pt:Nat→Prop}{w w':World}{t u:Trace}
def oz(Sh:Nat→Prop)(w w':World):Prop:=w'.heap.size=w.heap.size∧∀b,¬Sh b→w'.heap[b]?=w.heap[b]?
theorem oz.refl(Sh:Nat→Prop)(w:World):oz Sh w w:=⟨rfl,fun _ _=>rfl⟩
theorem ED{said:Bool}(h:¬Race said t)(hn:∀op∈u,op.act.touch?=none):¬Race said (t++u):=by
 rintro⟨i,j,lJ,⟨a,b,ha,hb,hc⟩,n1,n2⟩;obtain⟨x,hx,dU⟩:=touch_of ha;obtain⟨y,hy,BH⟩:=touch_of hb;rcases getElem?_append_cases hy with⟨hj,oW⟩ | ⟨_,wK⟩
 ·have hi:i<t.size:=Nat.lt_trans lJ hj;have jZ:t[i]?=some x:=by rw[←getElem?_append_old (u:=u) hi];exact hx
  exact h ⟨i,j,lJ,⟨a,b,by simp[Trace.act?,jZ,dU],by simp[Trace.act?,oW,BH],hc⟩,fun e=>n1 (hb_app u e),fun e=>n2 (hb_app u e)⟩
 ·rw[hn y wK] at BH;cases BH
open Classical in
open Classical in
def LH.nil:LH:=fun _=>none
theorem ye.hand(h:ye Ls Sh Am Pt w t){i j:Nat}(lJ:i≠j){Li Lj:LH}
  (hi:∀b o wr,Li b=some (o,wr)→∃ep,Ls i b=some (o,ep)∧(wr=true→ep=true))
  (hj:∀b o wr,Lj b=some (o,wr)→Ls j b=some (o,wr)∨∃ep,Ls i b=some (o,ep)∧(wr=true→ep=true))
  (aby:∀b o,Li b=some (o,true)→Lj b=none)(abz:∀b o,Lj b=some (o,true)→Li b=none)
  (hk:∀idx a b o wr,touchAt t idx=some a→cU a.loc=some b→Ls i b=some (o,wr)→(a.write=true∨wr=true)→Knows t j idx):ye (upd (upd Ls i Li) j Lj) Sh Am Pt w t:=by
 have old:∀k b o wr,upd (upd Ls i Li) j Lj k b=some (o,wr)→∃k' ep,Ls k' b=some (o,ep)∧(wr=true→ep=true)∧((k≠j∧k'=k)∨(k=j∧(k'=j∨k'=i))):=by
  intro k b o wr hb
  by_cases ej:k=j
  ·subst ej;rw[upd_same] at hb;rcases hj b o wr hb with e | ⟨ep,e,h2⟩
   ·exact⟨k,wr,e,id,.inr ⟨rfl,.inl rfl⟩⟩
   ·exact⟨i,ep,e,h2,.inr ⟨rfl,.inr rfl⟩⟩
  ·rw[upd_ne _ _ ej] at hb
   by_cases ei:k=i
   ·subst ei;rw[upd_same] at hb;obtain⟨ep,e,h2⟩:=hi b o wr hb;exact⟨k,ep,e,h2,.inl ⟨ej,rfl⟩⟩
   ·rw[upd_ne _ _ ei] at hb;exact⟨k,wr,hb,id,.inl ⟨ej,rfl⟩⟩
 refine⟨fun k b o wr hb=>?_,fun k l b o UR hb=>?_,fun k b hb=>?_,h.nQ,fun k idx a b o wr ha hb UU hw=>?_,h.seen,h.clean,h.uF,h.atomic⟩
 ·obtain⟨k',ep,e,_⟩:=old k b o wr hb;exact h.sub k' b o ep e
 ·cases hx:upd (upd Ls i Li) j Lj l b with
  | none=>rfl
  | some x=>
   exfalso
   obtain⟨k',wk,e1,f1,g1⟩:=old k b o true hb;obtain⟨l',wl,e2,f2,g2⟩:=old l b x.1 x.2 hx;rw[f1 rfl] at e1
   by_cases Xv:k'=l'
   ·-- both out of one:it is i and j
    subst Xv;have tL:(k=i∧l=j)∨(k=j∧l=i):=by omega
    rcases tL with⟨rfl,rfl⟩ | ⟨rfl,rfl⟩
    ·rw[upd_ne _ _ UR,upd_same] at hb;rw[upd_same] at hx;rw[aby b o hb] at hx;cases hx
    ·rw[upd_same] at hb;rw[upd_ne _ _ (Ne.symm UR),upd_same] at hx;rw[abz b o hb] at hx;cases hx
   ·rw[h.apart k' l' b o Xv e1] at e2;cases e2
 ·cases hx:upd (upd Ls i Li) j Lj k b with
  | none=>rfl
  | some x=>
   obtain⟨k',ep,e,_⟩:=old k b x.1 x.2 hx;rw[h.sh k' b hb] at e;cases e
 ·obtain⟨k',ep,e,f,g⟩:=old k b o wr UU;rcases g with⟨_,rfl⟩ | ⟨rfl,rfl | rfl⟩
  ·exact h.q9 _ idx a b o ep ha hb e (hw.imp id f)
  ·exact h.q9 _ idx a b o ep ha hb e (hw.imp id f)
  ·exact hk idx a b o ep ha hb e (hw.imp id f)
end
end Go.Mz
