/- Lemmas for the claim. -/
import Derived.Test.YtjhpkghkgaekcaaGreatDoorMzAl
import Derived.Conc.CrowdTrace
set_option linter.defProp false
set_option maxRecDepth 100000
namespace Go.Mz
open Go.Conc
variable {P:aV}{α:Type}{X:aM P}{n k m:Nat}{L R J:LH}{t e:bh}{w u:World}{h:α->List Value}{c:Int}{B:aX}{x:aW}{Y:Trace}{l:aH}{r:List α}{q:aU}{Q:bC}{E:cK}{j:aR}{D:bt}{d:bA}{F:Env}{g:aT}{o:bD}{N:Nm}{K:bI}{z:SV}{I:cj}{H:ck}
section
open Go.ConcN (sumTo upd sumTo_upd upd_ne upd_same)
section
def rO(Sh:bt)(w w':World):Prop:=w'.heap.size=w.heap.size/\∀b,¬Sh b->w'.heap[b]?=w.heap[b]?
def rO.refl(u:bt)(w:World):rO u w w:=⟨rfl,λ_ _=>rfl⟩
def oD.sync{Q:dD}{p v:bt}{c:Trace}(h:oD Q D p v w Y)(G:rO D w u){i:Nat}(K:v i)(n:∀k∈c,k.g=i)
  (F:∀k∈c,∀x,k.act.touch?=some x->x.kind≠.plain/\(∃b,dQ x.loc=some b/\p b)/\(x.kind=.said->∀f a,touchAt Y f=some a->a.loc=x.loc->a.kind=.said->Knows Y i f)):oD Q D p v u (Y++c):=by
 refine⟨λj b o wr d=>?_,h.apart,h.sh,λb d=>by rw[G.1];exact h.ml b d,λj f a b o wr s d l H=>?_,λf a b s d=>?_,λsaid=>?_,h.qH,λf a b s d I R j S=>?_⟩
 .rw[G.2 b (λI=>by rw[h.sh j b I] at d;cases d)];exact h.sub j b o wr d
 .let⟨x,J,m⟩:=touch_of s;rcases getElem?_append_cases J with⟨K,sJ⟩ | ⟨_,sK⟩
  .exact(h.qm j f a b o wr Qr d l H).app _
  .let⟨_,⟨T,y,I⟩,_⟩:=F x sK a m;rw[d] at y;cases y;rw[h.sh j b (h.qH b I)] at l;cases l
 .rw[G.1];let⟨x,J,m⟩:=touch_of s;rcases getElem?_append_cases J with⟨K,sJ⟩ | ⟨_,sK⟩
  .exact h.seen f a b Qr d
  .let⟨_,⟨T,y,I⟩,_⟩:=F x sK a m;rw[d] at y;cases y;exact h.ml b (h.qH b I)
 .refine noRace_append (h.clean said) n λf a s k t b d W=>?_;let⟨q,⟨X,z,r⟩,C⟩:=F k t b d;let⟨c1,c2,E,e⟩:=W;rcases e with e | e | ⟨_,e,B⟩
  .exact h.atomic f a X s (by rwa[c1]) r e i K
  .exact ar e q
  .exact C B f a s c1 e
 .let⟨x,J,m⟩:=touch_of s;rcases getElem?_append_cases J with⟨K,sJ⟩ | ⟨_,sK⟩
  .exact(h.atomic f a b Qr d I R j S).app _
  .exact ar R (F x sK a m).1
def xE{u:Trace}{q:Bool}(h:¬Race q Y)(d:∀k∈u,k.act.touch?=none):¬Race q (Y++u):=by
 rintro⟨i,j,hij,⟨a,b,ha,hb,hc⟩,n1,n2⟩;let⟨x,f,o⟩:=touch_of ha;let⟨y,g,z⟩:=touch_of hb;rcases getElem?_append_cases g with⟨hj,JA⟩ | ⟨_,FC⟩
 .let t:=Nat.lt_trans hij hj;let v:Y[i]?=x:=by rwa[<-getElem?_append_old (u:=u) t]
  exact h ⟨i,j,hij,⟨a,b,by simp[Trace.act?,v,o],by simp[Trace.act?,JA,z],hc⟩,λe=>n1 (hb_app u e),λe=>n2 (hb_app u e)⟩
 .rw[d y FC] at z;cases z
def oD.mute{g:dD}{p r:bt}{c:World}{u:Trace}(h:oD g D p r w Y)(f:rO D w c)(n:∀k∈u,k.act.touch?=none):oD g D p r c (Y++u):=by
 let y:∀{q:Nat} {a:Touch},touchAt (Y++u) q=a->touchAt Y q=a:=by
  intro q a s;let⟨x,l,z⟩:=touch_of s;rcases getElem?_append_cases l with⟨hi,sJ⟩ | ⟨_,sK⟩
  .rwa[touchAt_of sJ]
  .rw[n x sK] at z;cases z
 refine⟨λj b o wr d=>?_,h.apart,h.sh,λb d=>by rw[f.1];exact h.ml b d,λj q a b o wr s d i v=>(h.qm j q a b o wr (y s) d i v).app _,λq a b s d=>by rw[f.1];exact h.seen q a b (y s) d,
  λsaid=>xE (h.clean said) n,h.qH,λq a b s d m e j t=>(h.atomic q a b (y s) d m e j t).app _⟩
 .rw[f.2 b (λm=>by rw[h.sh j b m] at d;cases d)];exact h.sub j b o wr d
open Classical in
open Classical in
def LH.join(L G:LH):LH:=λb=>match L b with | some x=>x | none=>G b
def LH.nil:LH:=λ_=>none
def oD.less{y:dD}{p v:bt}(h:oD y D p v w Y){i:Nat}{L':LH}(g:∀b o wr,L' b=some (o,wr)->∃f,y i b=some (o,f)/\(wr=true->f=true)):oD (upd y i L') D p v w Y:=by
 refine⟨λj=>?_,λj k b o s t=>?_,λj b d=>?_,h.ml,λj c a b o wr r d m n=>?_,h.seen,h.clean,h.qH,h.atomic⟩
 .by_cases e:j=i
  .subst e;rw[upd_same];intro b o wr d;let⟨f,q,_⟩:=g b o wr d;exact h.sub j b o f q
  .rw[upd_ne _ _ e];exact h.sub j
 .by_cases l:j=i
  .subst l;rw[upd_same] at t;rw[upd_ne _ _ (dG s)];let⟨f,q,z⟩:=g b o true t;rw[z rfl] at q;exact h.apart j k b o s q
  .rw[upd_ne _ _ l] at t
   by_cases I:k=i
   .subst I;rw[upd_same];have:=h.apart j k b o s t;cases u:L' b with
    | none=>rfl
    | some x=>
     let⟨f,q,_⟩:=g b x.1 x.2 u;rw[this] at q;cases q
   .rw[upd_ne _ _ I];exact h.apart j k b o s t
 .by_cases e:j=i
  .subst e;rw[upd_same];cases u:L' b with
   | none=>rfl
   | some x=>
    let⟨f,q,_⟩:=g b x.1 x.2 u;rw[h.sh j b d] at q;cases q
  .rw[upd_ne _ _ e];exact h.sh j b d
 .by_cases e:j=i
  .subst e;rw[upd_same] at m;let⟨f,q,z⟩:=g b o wr m;exact h.qm j c a b o f r d q (n.imp id z)
  .rw[upd_ne _ _ e] at m;exact h.qm j c a b o wr r d m n
def oD.hand{I:dD}{p S:bt}(h:oD I D p S w Y){i j:Nat}(C:i≠j)
  (B:∀b o wr,L b=some (o,wr)->∃m,I i b=some (o,m)/\(wr=true->m=true))
  (E:∀b o wr,R b=some (o,wr)->I j b=(o,wr)\/∃m,I i b=some (o,m)/\(wr=true->m=true))
  (K:∀b o,L b=some (o,true)->R b=none)(s:∀b o,R b=some (o,true)->L b=none)
  (hk:∀n a b o wr,touchAt Y n=some a->dQ a.loc=some b->I i b=some (o,wr)->(a.write=true\/wr=true)->Knows Y j n):oD (upd (upd I i L) j R) D p S w Y:=by
 have y:∀k b o wr,upd (upd I i L) j R k b=some (o,wr)->∃v m,I v b=some (o,m)/\(wr=true->m=true)/\((k≠j/\v=k)\/(k=j/\(v=j\/v=i))):=by
  intro k b o wr d
  by_cases F:k=j
  .subst F;rw[upd_same] at d;rcases E b o wr d with e | ⟨m,e,z⟩
   .exact⟨k,wr,e,id,.inr ⟨rfl,.inl rfl⟩⟩
   .exact⟨i,m,e,z,.inr ⟨rfl,.inr rfl⟩⟩
  .rw[upd_ne _ _ F] at d
   by_cases T:k=i
   .subst T;rw[upd_same] at d;obtain⟨m,e,z⟩:=B b o wr d;exact⟨k,m,e,z,.inl ⟨F,rfl⟩⟩
   .rw[upd_ne _ _ T] at d;exact⟨k,wr,d,id,.inl ⟨F,rfl⟩⟩
 refine⟨λk b o wr d=>?_,λk l b o t d=>?_,λk b d=>?_,h.ml,λk n a b o wr G d H Q=>?_,h.seen,h.clean,h.qH,h.atomic⟩
 .obtain⟨v,m,e,_⟩:=y k b o wr d;exact h.sub v b o m e
 .cases u:upd (upd I i L) j R l b with
  | none=>rfl
  | some x=>
   exfalso
   obtain⟨v,wk,W,f1,g1⟩:=y k b o true d;obtain⟨X,r,q,f2,g2⟩:=y l b x.1 x.2 u;rw[f1 rfl] at W
   by_cases J:v=X
   .-- both out of one:it is i and j
    subst J;have c:(k=i/\l=j)\/(k=j/\l=i):=M
    rcases c with⟨rfl,rfl⟩ | ⟨rfl,rfl⟩
    .rw[upd_ne _ _ t,upd_same] at d;rw[upd_same] at u;rw[K b o d] at u;cases u
    .rw[upd_same] at d;rw[upd_ne _ _ (dG t),upd_same] at u;rw[s b o d] at u;cases u
   .rw[h.apart v X b o J W] at q;cases q
 .cases u:upd (upd I i L) j R k b with
  | none=>rfl
  | some x=>
   obtain⟨v,m,e,_⟩:=y k b x.1 x.2 u;rw[h.sh v b d] at e;cases e
 .obtain⟨v,m,e,f,g⟩:=y k b o wr H;rcases g with⟨_,rfl⟩ | ⟨rfl,rfl | rfl⟩
  .exact h.qm _ n a b o m G d e (Q.imp id f)
  .exact h.qm _ n a b o m G d e (Q.imp id f)
  .exact hk n a b o m G d e (Q.imp id f)
end
end
end Go.Mz
