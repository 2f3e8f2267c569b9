/- Lemmas for the claim. -/
import Derived.Test.YtjhpkghkgaekcaaGreatDoorMzAq
import Derived.Conc.LockTrace
set_option linter.defProp false
set_option maxRecDepth 100000
namespace Go.Mz
open Go.Conc
variable {P:aV}{α:Type}{X:aM P}{n k m:Nat}{L R J:LH}{t e:bh}{w u:World}{h:α->List Value}{c:Int}{B:aX}{x:aW}{Y:Trace}{l:aH}{r:List α}{q:aU}{Q:bC}{E:cK}{j:aR}{D:bt}{d:bA}{F:Env}{g:aT}{o:bD}{N:Nm}{K:bI}{z:SV}{I:cj}{H:ck}
section
open Go.ConcN
open Go.ConcR (KK wgBlock WgAt stA smA rd wr mk Payload Aside2 DC0 Bk bk_of_mute)
structure bH where
 P:Program
 ty:Nat
 W:Nat
 X:Nat
 xo:Int->Int->Obj
 ma:Addr
 ms:Addr
 N:Nat
 B:Nat
 v0:Value
 n:Nat
 base:Nat
 len:Nat
 ob:List Nat->Obj
 keep:Nat->Bool
def bH.mu(b:bH)(l:Loc):Prop:=l=.cell b.ma\/l=.cell b.ms
def bH.Pt(b:bH)(size:Nat)(i:Nat):Prop:=i=0\/(b.base<=i/\i<size)
def bH.At(b:bH)(l:Loc):Prop:=dQ l=b.W\/dQ l=b.N\/b.mu l
def bH.Cls(b:bH)(x:Nat)(y:Touch):Prop:=
 (y.kind=.atomic/\b.At y.loc)\/(y.kind=.said/\y.loc=.cell (smA b.W)/\x=0)\/(y.kind=.plain/\y.write=false/\dQ y.loc=b.X/\¬b.mu y.loc)
structure bH.Ok(b:bH)(S0:Nat->Prop):Prop where
 wn:b.W≠b.N
 wx:b.W≠b.X
 wb:b.W≠b.B
 nx:b.N≠b.X
 nb:b.N≠b.B
 xb:b.X≠b.B
 ma:b.ma.block=b.X
 ms:b.ms.block=b.X
 s0:¬S0 b.B
 s0X:¬S0 b.X
 xm:∀st sm,∃c e fz,b.xo st sm=.cells c e fz/\b.ma.spot=none/\c[b.ma.off]?=some (.int .i32 st)/\b.ms.spot=none/\c[b.ms.off]?=some (.int .u32 sm)/\c[0]?=some b.v0/\2<=c.size
structure nV(b:bH)(S0:Nat->Prop)(n0 size:Nat)(Ls:Nat->LH)(Sh:Nat->Prop)(o:Option Nat)(w:World)(t:Trace):Prop where
 res:oD Ls Sh (λx=>x=b.W\/x=b.N) (b.Pt size) w t
 EA:Sh b.X
 sO:Sh b.W
 MB:Sh b.N
 CX:∀x,S0 x->Sh x
 KQ:Sh b.B
 B0:∀g,o=some g->b.Pt size g/\∀idx a,touchAt t idx=some a->dQ a.loc=some b.B->Knows t g idx
 xmu:∀idx a,touchAt t idx=some a->b.mu a.loc->a.kind=.plain->∀i,b.Pt size i->Knows t i idx
 xro:∀idx a,touchAt t idx=some a->dQ a.loc=some b.X->¬b.mu a.loc->(a.write=true\/a.kind≠.plain)->∀i,b.Pt size i->Knows t i idx
 tok:o=none->∀idx a,touchAt t idx=some a->dQ a.loc=some b.B->(∀i,b.Pt size i->Knows t i idx)\/∃p,n0<=p/\t.act? p=some (.mark (.releaseMerge b.ma))/\t.heard p/\Before t idx p
 said:∀idx a,touchAt t idx=some a->a.loc=.cell (smA b.W)->a.kind=.said->Knows t 0 idx
 len:n0<=t.size
 known:∀i a x,i<n0->touchAt t i=some a->dQ a.loc=some x->Knows t 0 i\/(S0 x/\a.kind=.atomic)
 over:∀i g,i<n0->t.g? i=some g->g≠0->t.counts i->∃j,t.g? j=some 0/\HappensBefore t i j
 rv:∀i op,n0<=i->t[i]?=some op->op.act.touch?≠none->b.Pt size op.g
 norel:∀i,n0<=i->t.act? i≠some (.mark (.release (stA b.W)))
 A1:∀i,n0<=i->t.act? i≠some (.mark (.release b.ma))
 xk:∀i a x,n0<=i->touchAt t i=some a->a.kind≠.plain->dQ a.loc=some x->b.At a.loc
def MP(W:Nat)(t:Trace)(k r:Nat):Prop:=RelBy (stA W) t k r/\∀i op y,r<i->t[i]?=some op->op.g=k->op.act.touch?=some y->dQ y.loc=W
theorem MP.app{u:Trace}(h:MP n Y k m)(b:RelBy (stA n) (Y++u) k m)(d:∀q∈u,q.g=k->∀y,q.act.touch?=some y->dQ y.loc=n):MP n (Y++u) k m:=by
 refine⟨b,λi q y f j v z=>?_⟩;rcases getElem?_append_cases j with⟨_,qh⟩ | ⟨_,oK⟩
 ·exact h.2 i q y f qh v z
 .exact d q oK v y z
def bH.At.blk{C:bH}{D:bt}(d:C.Ok D){l:Loc}(h:C.At l):∃x,dQ l=some x/\(x=C.W\/x=C.N\/(x=C.X/\C.mu l)):=by
 rcases h with h | h | h
 .exact⟨_,h,.inl rfl⟩
 .exact⟨_,h,.inr (.inl rfl)⟩
 .refine⟨C.X,?_,.inr (.inr ⟨rfl,h⟩)⟩;rcases h with rfl | rfl
  .rw[<-d.ma];rfl
  .rw[<-d.ms];rfl
def bH.Cls.blk{C:bH}{D:bt}(d:C.Ok D){n:Nat}{y:Touch}(h:C.Cls n y):∃z,dQ y.loc=some z/\(z=C.W\/z=C.N\/z=C.X):=by
 rcases h with⟨_,h⟩ | ⟨_,h,_⟩ | ⟨_,_,h,_⟩
 .obtain⟨z,q,u⟩:=h.blk d;exact⟨z,q,u.imp id (·.imp id (·.1))⟩
 .exact⟨C.W,by rw[h];rfl,.inl rfl⟩
 .exact⟨_,h,.inr (.inr rfl)⟩
def oD.app{e:dD}{c:Trace}{p I:bt}(h:oD e D p I w Y)(m:rO D w u)(n:∀k∈c,∀y,k.act.touch?=some y->∃x,dQ y.loc=some x/\D x/\(y.kind=.plain->¬p x))(b:∀said,¬Race said (Y++c)):oD e D p I u (Y++c):=by
 refine⟨λj x z wr d=>?_,h.apart,h.sh,λx d=>by rw[m.1];exact h.ml x d,λj f a x z wr s d i v=>?_,λf a x s d=>?_,b,h.qH,λf a x s d o J j F=>?_⟩
 .rw[m.2 x (λo=>by rw[h.sh j x o] at d;cases d)];exact h.sub j x z wr d
 .let⟨y,g,t⟩:=touch_of s;rcases getElem?_append_cases g with⟨_,JA⟩ | ⟨_,FC⟩
  .exact(h.qm j f a x z wr Qv d i v).app _
  .let⟨K,q,l,_⟩:=n y FC a t;rw[d] at q;cases q;rw[h.sh j x l] at i;cases i
 .rw[m.1];let⟨y,g,t⟩:=touch_of s;rcases getElem?_append_cases g with⟨_,JA⟩ | ⟨_,FC⟩
  .exact h.seen f a x Qv d
  .let⟨K,q,l,_⟩:=n y FC a t;rw[d] at q;cases q;exact h.ml x l
 .let⟨y,g,t⟩:=touch_of s;rcases getElem?_append_cases g with⟨_,JA⟩ | ⟨_,FC⟩
  .exact(h.atomic f a x Qv d o J j F).app _
  .let⟨K,q,_,r⟩:=n y FC a t;rw[d] at q;cases q;exact ar o (r J)
def nV.app0{C:bH}{Ls:dD}{E:bt}{c:Trace}(d:C.Ok D)(h:nV C D n k Ls E o w Y)(hw:rO E w u)(u1:∀said,¬Race said (Y++c))(b:∀m∈c,∀y,m.act.touch?=some y->C.Pt k m.g/\C.Cls m.g y)
  (hr:∀m∈c,m.act≠.mark (.release (stA C.W))/\m.act≠.mark (.release C.ma)):nV C D n k Ls E o u (Y++c):=by
 let split:∀{l:Nat} {a:Touch},touchAt (Y++c) l=a->touchAt Y l=a\/∃m,(Y++c)[l]?=some m/\m∈c/\m.act.touch?=a:=by
  intro l a s;let⟨y,S,T⟩:=touch_of s;rcases getElem?_append_cases S with⟨_,JA⟩ | ⟨_,FC⟩
  .exact .inl (by rwa[touchAt_of JA])
  .exact .inr ⟨y,S,FC,T⟩
 refine⟨h.res.app hw (λm Q y S=>?_) u1,h.EA,h.sO,h.MB,h.CX,h.KQ,λg X=>⟨(h.B0 g X).1,λl a s K=>?_⟩,λl a s B J i I=>?_,λl a s K B J i I=>?_,λQ l a s K=>?_,λl a s hl f=>?_,?_,λi a x I s K=>?_,λi g I X u2 u3=>?_,λi m I Q ht=>?_,λi I s=>?_,λi I s=>?_,λi a x I s f K=>?_⟩
 .let⟨_,F⟩:=b m Q y S;let⟨z,r,H⟩:=F.blk d;refine⟨z,r,?_,λJ hz=>?_⟩
  .rcases H with rfl | rfl | rfl
   .exact h.sO
   .exact h.MB
   .exact h.EA
  .rcases F with⟨v,_⟩ | ⟨v,_⟩ | ⟨_,_,v,_⟩
   .rw[v] at J;cases J
   .rw[v] at J;cases J
   .rw[v] at r;cases r;rcases hz with e | e
    .exact d.wx e.symm
    .exact d.nx e.symm
 .rcases split s with q | ⟨m,_,F,r⟩
  .exact((h.B0 g X).2 l a q K).app _
  .let⟨z,H,v⟩:=(b m F a r).2.blk d;rw[K] at H;cases H;rcases v with e | e | e
   .exact ar e.symm d.wb
   .exact ar e.symm d.nb
   .exact ar e.symm d.xb
 .rcases split s with q | ⟨m,_,F,r⟩
  .exact(h.xmu l a q B J i I).app _
  .rcases(b m F a r).2 with⟨v,_⟩ | ⟨v,_⟩ | ⟨_,_,_,v⟩
   .rw[v] at J;cases J
   .rw[v] at J;cases J
   .exact ar B v
 .rcases split s with q | ⟨m,_,F,r⟩
  .exact(h.xro l a q K B J i I).app _
  .rcases(b m F a r).2 with⟨_,v⟩ | ⟨_,v,_⟩ | ⟨v,t,_,_⟩
   .let⟨z,t,h7⟩:=v.blk d;rw[K] at t;cases t;rcases h7 with e | e | e
    .exact ar e.symm d.wx
    .exact ar e.symm d.nx
    .exact ar e.2 B
   .rw[v] at K;exact ar (bR K) d.wx
   .rcases J with e | e
    .rw[t] at e;cases e
    .exact ar v e
 .rcases split s with q | ⟨m,_,F,r⟩
  .rcases h.tok Q l a q K with f | ⟨p,u4,H,v,t⟩
   .exact .inl λi I=>(f i I).app _
   .let J:=lt_of_act? H;exact .inr ⟨p,u4,by rwa[act?_old J],(heard_old J).2 v,t.app _⟩
  .let⟨z,H,v⟩:=(b m F a r).2.blk d;rw[K] at H;cases H;rcases v with e | e | e
   .exact ar e.symm d.wb
   .exact ar e.symm d.nb
   .exact ar e.symm d.xb
 .rcases split s with q | ⟨m,q,F,r⟩
  .exact(h.said l a q hl f).app _
  .rcases(b m F a r).2 with⟨v,_⟩ | ⟨_,_,v⟩ | ⟨v,_⟩
   .rw[v] at f;cases f
   .have:=knows_own q;rw[v] at this;exact this
   .rw[v] at f;cases f
 .have:=h.len;rw[Cm];omega
 .let R:=lg I h.len;rw[touchAt_old R] at s;exact(h.known i a x I s K).imp (·.app c) id
 .let R:=lg I h.len;rw[g?_old R] at X;let⟨j,hj,u5⟩:=h.over i g I X u2 ((counts_old R).1 u3);let u6:j<Y.size:=by
   let⟨z,hz,_⟩:=il.1 hj;exact lt_size_of_getElem? hz
  exact⟨j,by rwa[g?_old u6],hb_app c u5⟩
 .rcases getElem?_append_cases Q with⟨_,qh⟩ | ⟨_,oK⟩
  .exact h.rv i m I qh ht
  .cases S:m.act.touch? with
   | none=>exact ar S ht
   | some y=>exact(b m oK y S).1
 .let⟨m,Q,G⟩:=il.1 s;rcases getElem?_append_cases Q with⟨_,qh⟩ | ⟨_,oK⟩
  .exact h.norel i I (by rw[act?_of qh,G])
  .exact(hr m oK).1 G
 .let⟨m,Q,G⟩:=il.1 s;rcases getElem?_append_cases Q with⟨_,qh⟩ | ⟨_,oK⟩
  .exact h.A1 i I (by rw[act?_of qh,G])
  .exact(hr m oK).2 G
 .rcases split s with q | ⟨m,q,F,r⟩
  .exact h.xk i a x I q f K
  .rcases(b m F a r).2 with⟨_,v⟩ | ⟨_,v,_⟩ | ⟨v,_⟩
   .exact v
   .exact .inl (by rw[v];rfl)
   .exact ar v f
def nV.mute{C:bH}{i:dD}{v:bt}{c:World}{u:Trace}(d:C.Ok D)(h:nV C D n k i v o w Y)(f:rO v w c)(z:∀q∈u,q.act.touch?=none)(b:∀q∈u,q.act≠.mark (.release (stA C.W))/\q.act≠.mark (.release C.ma)):nV C D n k i v o c (Y++u):=
 h.app0 d f (λsaid=>xE (h.res.clean said) z) (λq j y g=>by rw[z q j] at g;cases g) b
def nV.app{C:bH}{i:dD}{t:bt}{c:Trace}(d:C.Ok D)(h:nV C D n k i t o w Y)(J:rO t w u){x:Nat}(z:C.Pt k x)(l:∀v∈c,v.g=x)(b:∀v∈c,∀y,v.act.touch?=some y->C.Cls x y)
  (K:∀v∈c,v.act≠.mark (.release (stA C.W))/\v.act≠.mark (.release C.ma)):nV C D n k i t o u (Y++c):=by
 refine h.app0 d J (λF=>noRace_append (h.res.clean F) l λq a s v j y m r=>?_) (λv j y m=>by rw[l v j];exact⟨z,b v j y m⟩) K;obtain⟨c1,c2,f,I⟩:=r;rcases b v j y m with⟨h1,h2⟩ | ⟨h1,h2,h3⟩ | ⟨h1,h2,h3,h4⟩
 .let p:a.kind=.plain:=by
   rcases I with e | e | ⟨_,_,e⟩
   .exact e
   .rw[h1] at e;cases e
   .rw[h1] at e;cases e
  rw[<-c1] at h2;rcases h2 with e | e | e
  .exact h.res.atomic q a C.W s e (.inl rfl) p x z
  .exact h.res.atomic q a C.N s e (.inr rfl) p x z
  .exact h.xmu q a s e p x z
 .rcases I with e | e | ⟨_,e,_⟩
  .exact h.res.atomic q a C.W s (by rw[c1,h2];rfl) (.inl rfl) e x z
  .rw[h1] at e;cases e
  .subst h3;exact h.said q a s (c1.trans h2) e
 .rw[h2] at f;rcases f with f | f
  .exact h.xro q a s (by rwa[c1]) (by rwa[c1]) (.inl f) x z
  .cases f
def nV.own{b:bH}{D:bt}{n k:Nat}{Ls:dD}{Sh:bt}{o:bD}{w u:World}{Y:Trace}(d:b.Ok D)(h:nV b D n k Ls Sh o w Y){m:Nat}(hx:b.Pt k m){L:LH}{T:gW}(B:Tr (Ls m) L w u T)(fn:bO)(pos:ck):nV b D n k (upd Ls m L) Sh o u (Y++MemOp.ofEvents m fn pos T):=by
 let t:∀c∈MemOp.ofEvents m fn pos T,c.g=m/\∃e∈T,c.act=.ofEvent e:=λc t=>by
  let⟨e,W,hx⟩:=Go.Conc.mem_ofEvents t;rw[hx];exact⟨rfl,e,W,rfl⟩
 let G:∀c∈MemOp.ofEvents m fn pos T,∀y,c.act.touch?=some y->y.kind=.plain/\∀z,dQ y.loc=some z->¬Sh z:=λc R y E=>by
  let⟨_,e,W,K⟩:=t c R;rw[K] at E;refine⟨xv (B.ev e W) E,λz C hs=>?_⟩;let⟨z',v,wr,F,H,_⟩:=iV (B.ev e W) E;rw[C] at F;cases F;rcases B.jZ z (by rw[H];simp) with e1 | e1
  .exact e1 (h.res.sh m z hs)
  .have:=h.res.ml z hs;omega
 let split:∀{I:Nat} {a:Touch},touchAt (Y++MemOp.ofEvents m fn pos T) I=a->touchAt Y I=some a\/∃c,(Y++MemOp.ofEvents m fn pos T)[I]?=some c/\c∈MemOp.ofEvents m fn pos T/\c.act.touch?=some a:=by
  intro I a s;let⟨y,E,u1⟩:=touch_of s;rcases getElem?_append_cases E with⟨_,JA⟩ | ⟨_,FC⟩
  .exact .inl (by rwa[touchAt_of JA])
  .exact .inr ⟨y,E,FC,u1⟩
 let u2:∀{l:Loc},b.mu l->dQ l=some b.X:=λhm=>by
  rcases hm with rfl | rfl
  .rw[<-d.ma];rfl
  .rw[<-d.ms];rfl
 refine⟨h.res.own B fn pos,h.EA,h.sO,h.MB,h.CX,h.KQ,λg hg=>⟨(h.B0 g hg).1,λI a s q=>?_⟩,λI a s hm hp i J=>?_,λI a s q hm hp i J=>?_,λR I a s q=>?_,λI a s hl f=>?_,?_,λi a z J s C=>?_,λi g J hg u3 u4=>?_,λi c J R _=>?_,λi J s=>?_,λi J s=>?_,λi a z J s f C=>?_⟩
 .rcases split s with F | ⟨c,_,H,r⟩
  .exact((h.B0 g hg).2 I a F q).app _
  .exact ar h.KQ ((G c H a r).2 _ q)
 .rcases split s with F | ⟨c,_,H,r⟩
  .exact(h.xmu I a F hm hp i J).app _
  .exact ar h.EA ((G c H a r).2 _ (u2 hm))
 .rcases split s with F | ⟨c,_,H,r⟩
  .exact(h.xro I a F q hm hp i J).app _
  .exact ar h.EA ((G c H a r).2 _ q)
 .rcases split s with F | ⟨c,_,H,r⟩
  .rcases h.tok R I a F q with f | ⟨p,u5,x,h5,h6⟩
   .exact .inl λi J=>(f i J).app _
   .let hp:=lt_of_act? x;exact .inr ⟨p,u5,by rwa[act?_old hp],(heard_old hp).2 h5,h6.app _⟩
  .exact ar h.KQ ((G c H a r).2 _ q)
 .rcases split s with F | ⟨c,F,H,r⟩
  .exact(h.said I a F hl f).app _
  .rw[(G c H a r).1] at f;cases f
 .have:=h.len;rw[Cm];omega
 .let S:=lg J h.len;rw[touchAt_old S] at s;exact(h.known i a z J s C).imp (·.app _) id
 .let S:=lg J h.len;rw[g?_old S] at hg;let⟨j,hj,u6⟩:=h.over i g J hg u3 ((counts_old S).1 u4);let u7:j<Y.size:=by
   let⟨z,C,_⟩:=il.1 hj;exact lt_size_of_getElem? C
  exact⟨j,by rwa[g?_old u7],hb_app _ u6⟩
 .rcases getElem?_append_cases R with⟨_,qh⟩ | ⟨_,oK⟩
  .exact h.rv i c J qh (by assumption)
  .rwa[(t c oK).1]
 .let⟨c,R,Q⟩:=il.1 s;rcases getElem?_append_cases R with⟨_,qh⟩ | ⟨_,oK⟩
  .exact h.norel i J (by rw[act?_of qh,Q])
  .let⟨_,e,W,K⟩:=t c oK;exact rV (B.ev e W) _ (K.symm.trans Q)
 .let⟨c,R,Q⟩:=il.1 s;rcases getElem?_append_cases R with⟨_,qh⟩ | ⟨_,oK⟩
  .exact h.A1 i J (by rw[act?_of qh,Q])
  .let⟨_,e,W,K⟩:=t c oK;exact rV (B.ev e W) _ (K.symm.trans Q)
 .rcases split s with F | ⟨c,F,H,r⟩
  .exact h.xk i a z J F f C
  .exact ar (G c H a r).1 f
def H9{z:Obj}{v:Obj×Bool}(h:L.put n z k=some v):(k=n/\v=(z,true))\/(k≠n/\L k=some v):=by
 by_cases e:k=n
 .subst e;rw[aj] at h;exact .inl ⟨rfl,(bR h).symm⟩
 .rw[aB _ _ e] at h;exact .inr ⟨e,h⟩
def nV.acquire{C:bH}{i:dD}{J:bt}(d:C.Ok D)(h:nV C D n k i J none w Y){z:MemOp}(K:C.Pt k m)(F:z.g=m)(v:z.act=.mark (.acquire C.ma))(H:Deaf Y m=0):
  nV C D n k i J (some m) w (Y++#[z]):=by
 let y:∀o∈(#[z]:Array MemOp),o.act.touch?=none:=by intro o t;simp at t;subst t;rw[v];rfl
 let q:=h.mute d (.refl _ _) y (by intro o t;simp at t;subst t;rw[v];simp);let G:(Y++#[z])[Y.size]?=some z:=U
 refine{q with B0:=λg j=>?_,tok:=λe=>eA};cases j;refine⟨K,λb a s l=>?_⟩;rcases h.tok rfl b a (nk y s) l with f | ⟨p,Q,x,R,S⟩
 .exact(f m K).app _
 .let I:=lt_of_act? x;let r:HappensBefore (Y++#[z]) p Y.size:=.single (.inr ⟨.marked I (.inr (by rwa[act?_old I])) (by rw[act?_of G,v]) (λc f _=>q.A1 c M),(heard_old I).2 R,
   ⟨m,by simp[Trace.g?,F],by rwa[deaf_old (dA _)]⟩⟩)
  exact⟨Y.size,z,G,F,.inr ((S.app #[z]).hb r)⟩
def nV.release{C:bH}{i:dD}{r:bt}(d:C.Ok D)(h:nV C D n k i r (some m) w Y){z:MemOp}(b:z.g=m)(p:z.act=.mark (.releaseMerge C.ma))(l:Deaf Y m=0):
  nV C D n k i r none w (Y++#[z]):=by
 let y:∀v∈(#[z]:Array MemOp),v.act.touch?=none:=by intro v t;simp at t;subst t;rw[p];rfl
 let q:=h.mute d (.refl _ _) y (by intro v t;simp at t;subst t;rw[p];simp);let c:(Y++#[z])[Y.size]?=some z:=U
 refine{q with B0:=λg f=>(by cases f),tok:=λ_ o a s j=>.inr ⟨Y.size,h.len,by rw[act?_of c,p],⟨m,by simp[Trace.g?,b],by rwa[deaf_old (dA _)]⟩,.inr ?_⟩};exact((h.B0 m rfl).2 o a (nk y s) j).hb_new (dA _) c b
def nV.qL{C:bH}{I:dD}{Sh:bt}(d:C.Ok D)(h:nV C D n k I Sh m w Y){Q z1:Obj}(u8:w.heap[C.B]?=Q){es:gW}(ht:Tr ((I m).put C.B Q) ((I m).put C.B z1) w u es)(fn:bO)(H:ck):
  nV C D n k I Sh m u (Y++MemOp.ofEvents m fn H es):=by
 obtain⟨hx,u4⟩:=h.B0 m rfl;have hB:∀i,I i C.B=none:=λi=>h.res.sh i _ h.KQ;have hold:∀z i y v,upd I m ((I m).put C.B z) i y=some v->(i=m/\y=C.B/\v=(z,true))\/(y≠C.B/\I i y=v):=by
  intro z i y v K
  by_cases e:i=m
  .subst e;rw[upd_same] at K;rcases H9 K with⟨p,T⟩ | ⟨p,T⟩
   .exact .inl ⟨rfl,p,T⟩
   .exact .inr ⟨p,T⟩
  .rw[upd_ne _ _ e] at K;refine .inr ⟨λp=>?_,K⟩;rw[p,hB] at K;cases K
 have u3:∀z i y v,I i y=some v->upd I m ((I m).put C.B z) i y=v:=by
  intro z i y v K;have J:y≠C.B:=λe=>by rw[e,hB] at K;cases K
  by_cases e:i=m
  .subst e;rw[upd_same,aB _ _ J];exact K
  .rw[upd_ne _ _ e];exact K
 have r1:oD (upd I m ((I m).put C.B Q)) (λy=>Sh y/\y≠C.B) (λy=>y=C.W\/y=C.N) (C.Pt k) w Y:=by
  refine⟨λi y v wr K=>?_,λi j y v u5 K=>?_,λi y J=>?_,λy J=>h.res.ml y J.1,λi b a y v wr s J K hw=>?_,h.res.seen,h.res.clean,λy J=>⟨h.res.qH y J,?_⟩,h.res.atomic⟩
  .rcases hold Q i y _ K with⟨_,rfl,e⟩ | ⟨_,e⟩
   .cases e;exact u8
   .exact h.res.sub i y v wr e
  .cases E:upd I m ((I m).put C.B Q) j y with
   | none=>rfl
   | some v2=>
    exfalso
    rcases hold Q i y _ K with⟨p,T,_⟩ | ⟨p,T⟩
    .rcases hold Q j y _ E with⟨e3,_,_⟩ | ⟨e3,_⟩
     .exact u5 (p.trans e3.symm)
     .exact e3 T
    .rcases hold Q j y _ E with⟨_,e4,_⟩ | ⟨_,e4⟩
     .exact p e4
     .rw[h.res.apart i j y v u5 T] at e4;cases e4
  .cases E:upd I m ((I m).put C.B Q) i y with
   | none=>rfl
   | some v2=>
    rcases hold Q i y _ E with⟨_,e,_⟩ | ⟨_,e⟩
    .exact ar e J.2
    .rw[h.res.sh i y J.1] at e;cases e
  .rcases hold Q i y _ K with⟨rfl,rfl,_⟩ | ⟨_,e⟩
   .exact u4 b a s J
   .exact h.res.qm i b a y v wr s J e hw
  .rcases J with rfl | rfl
   .exact d.wb
   .exact d.nb
 have e0:upd I m ((I m).put C.B Q) m=(I m).put C.B Q:=upd_same _ _ _;have r2:=r1.own (i:=m) (by rw[e0];exact ht) fn H;have T:upd (upd I m ((I m).put C.B Q)) m ((I m).put C.B z1)=upd I m ((I m).put C.B z1):=by
  funext i
  by_cases e:i=m
  .subst e;rw[upd_same,upd_same]
  .rw[upd_ne _ _ e,upd_ne _ _ e,upd_ne _ _ e]
 rw[T] at r2;have t:∀x∈MemOp.ofEvents m fn H es,x.g=m/\∃e∈es,x.act=.ofEvent e:=λx t=>by
  obtain⟨e,he,hx⟩:=Go.Conc.mem_ofEvents t;rw[hx];exact⟨rfl,e,he,rfl⟩
 have u1:∀x∈MemOp.ofEvents m fn H es,∀y,x.act.touch?=some y->y.kind=.plain/\∀z,dQ y.loc=some z->z≠C.B->¬Sh z:=λx ho y J=>by
  obtain⟨_,e,he,F⟩:=t x ho;rw[F] at J;refine⟨xv (ht.ev e he) J,λz hz c hs=>?_⟩;obtain⟨z',v,wr,q,R,_⟩:=iV (ht.ev e he) J;rw[hz] at q;cases q;rw[aB _ _ c,h.res.sh m z hs] at R;cases R
 have split:∀{b:Nat} {a:Touch},touchAt (Y++MemOp.ofEvents m fn H es) b=some a->touchAt Y b=some a\/∃x,(Y++MemOp.ofEvents m fn H es)[b]?=some x/\x∈MemOp.ofEvents m fn H es/\x.act.touch?=some a:=by
  intro b a s;obtain⟨y,J,u6⟩:=touch_of s;rcases getElem?_append_cases J with⟨_,JA⟩ | ⟨_,FC⟩
  .exact .inl (by rw[touchAt_of JA];exact u6)
  .exact .inr ⟨y,J,FC,u6⟩
 have u9:∀{l:Loc},C.mu l->dQ l=some C.X:=λo=>by
  rcases o with rfl | rfl
  .rw[<-d.ma];rfl
  .rw[<-d.ms];rfl
 refine⟨⟨λi y v wr K=>r2.sub i y v wr (u3 z1 i y _ K),h.res.apart,h.res.sh,λy J=>lg (h.res.ml y J) ht.size,λi b a y v wr s J K hw=>r2.qm i b a y v wr s J (u3 z1 i y _ K) hw,r2.seen,r2.clean,h.res.qH,r2.atomic⟩,h.EA,h.sO,h.MB,h.CX,h.KQ,λg hg=>?_,λb a s o hp i G=>?_,λb a s u7 o hp i G=>?_,λho=>(by cases ho),λb a s hl f=>?_,?_,λi a z G s hz=>?_,λi g G hg q0 q1=>?_,λi x G ho _=>?_,λi G s=>?_,λi G s=>?_,λi a z G s f hz=>?_⟩
 .cases hg;refine⟨hx,λb a s q2=>?_⟩;rcases split s with q | ⟨x,q,R,_⟩
  .exact(u4 b a q q2).app _
  .have:=knows_own q;rw[(t x R).1] at this;exact this
 .rcases split s with q | ⟨x,_,R,r⟩
  .exact(h.xmu b a q o hp i G).app _
  .exact ar h.EA ((u1 x R a r).2 _ (u9 o) d.xb)
 .rcases split s with q | ⟨x,_,R,r⟩
  .exact(h.xro b a q u7 o hp i G).app _
  .exact ar h.EA ((u1 x R a r).2 _ u7 d.xb)
 .rcases split s with q | ⟨x,q,R,r⟩
  .exact(h.said b a q hl f).app _
  .rw[(u1 x R a r).1] at f;cases f
 .have:=h.len;rw[Cm];omega
 .have u2:i<Y.size:=lg G h.len;rw[touchAt_old u2] at s;exact(h.known i a z G s hz).imp (·.app _) id
 .have u2:i<Y.size:=lg G h.len;rw[g?_old u2] at hg;obtain⟨j,hj,q3⟩:=h.over i g G hg q0 ((counts_old u2).1 q1);have q4:j<Y.size:=by
   unfold Trace.g? at hj;obtain⟨z,hz,_⟩:=il.1 hj;exact lt_size_of_getElem? hz
  exact⟨j,by rw[g?_old q4];exact hj,hb_app _ q3⟩
 .rcases getElem?_append_cases ho with⟨_,qh⟩ | ⟨_,oK⟩
  .exact h.rv i x G qh (by assumption)
  .rw[(t x oK).1];exact hx
 .obtain⟨x,ho,S⟩:=il.1 s;rcases getElem?_append_cases ho with⟨_,qh⟩ | ⟨_,oK⟩
  .exact h.norel i G (by rw[act?_of qh,S])
  .obtain⟨_,e,he,F⟩:=t x oK;exact rV (ht.ev e he) _ (F.symm.trans S)
 .obtain⟨x,ho,S⟩:=il.1 s;rcases getElem?_append_cases ho with⟨_,qh⟩ | ⟨_,oK⟩
  .exact h.A1 i G (by rw[act?_of qh,S])
  .obtain⟨_,e,he,F⟩:=t x oK;exact rV (ht.ev e he) _ (F.symm.trans S)
 .rcases split s with q | ⟨x,q,R,r⟩
  .exact h.xk i a z G q f hz
  .exact ar (u1 x R a r).1 f
def nV.spawn{C:bH}{S:dD}{Sh:bt}(d:C.Ok D)(h:nV C D n k S Sh o w Y)(u6:C.base<=k)(u7:0<k){X c:MemOp}(T:X.g=0/\X.act=.go k)(W:c.g=k/\c.act=.start)(B:Deaf Y 0=0)(E:Deaf Y k=0)
  (u1:∀y v wr,L y=some (v,wr)->∃b,S 0 y=some (v,b)/\(wr=true->b=true))(l:∀y v wr,R y=some (v,wr)->∃b,S 0 y=some (v,b)/\(wr=true->b=true))
  (u2:∀y v,L y=some (v,true)->R y=none)(u3:∀y v,R y=some (v,true)->L y=none):
  nV C D n (k+1) (upd (upd S 0 L) k R) Sh o w (Y++#[X,c]):=by
 let z:∀G∈(#[X,c]:Array MemOp),G.act.touch?=none:=by
  intro G K;simp[zh,eP,kB,or_false] at K;rcases K with rfl | rfl
  .rw[T.2];rfl
  .rw[W.2];rfl
 let q:=h.mute d (.refl _ _) z (by
  intro G K;simp only[zh,eP,kB,or_false] at K;rcases K with rfl | rfl
  .rw[T.2];simp
  .rw[W.2];simp)
 let H:∀i,Knows Y 0 i->Knows (Y++#[X,c]) k i:=λi f=>fork_knows T W B E f;let r:∀{m:Nat} {a:Touch},touchAt (Y++#[X,c]) m=some a->touchAt Y m=some a:=nk z;let s:∀m,(∀i,C.Pt k i->Knows Y i m)->∀i,C.Pt (k+1) i->Knows (Y++#[X,c]) i m:=by
  intro m f i F
  by_cases e:i=k
  .rw[e];exact H m (f 0 (.inl rfl))
  .exact(f i (by unfold bH.Pt at F ⊢;omega)).app _
 let x:=q.res.hand (i:=0) (j:=k) M u1 (λy v wr Q=>.inr (l y v wr Q)) u2 u3 λm a y v wr I Q hl hw=>H m (h.res.qm 0 m a y v wr (r I) Q hl hw);refine⟨⟨x.sub,x.apart,x.sh,x.ml,x.qm,x.seen,x.clean,x.qH,λm a y I Q hA J i F=>s m (λi F=>h.res.atomic m a y (r I) Q hA J i F) i F⟩,h.EA,h.sO,h.MB,h.CX,h.KQ,λg hg=>?_,
  λm a I hm J=>s m (h.xmu m a (r I) hm J),λm a I hx hm J=>s m (h.xro m a (r I) hx hm J),λK m a I hx=>?_,q.said,q.len,q.known,q.over,λi G F t ht=>?_,q.norel,q.A1,q.xk⟩
 .obtain⟨e1,e2⟩:=h.B0 g hg;exact⟨by unfold bH.Pt at e1 ⊢;omega,λm a I u4=>(e2 m a (r I) u4).app _⟩
 .rcases h.tok K m a (r I) hx with f | ⟨p,u5,h4,h5,h6⟩
  .exact .inl (s m f)
  .let J:=lt_of_act? h4;exact .inr ⟨p,u5,by rw[act?_old J];exact h4,(heard_old J).2 h5,h6.app _⟩
 .have:=q.rv i G F t ht;unfold bH.Pt at this ⊢;omega
end
end Go.Mz
namespace Go.Mz
namespace Mu
structure Wd where
 l:Bool
 w:Bool
 s:Bool
 c:Nat
deriving DecidableEq
abbrev Wd.zero:Wd:=⟨false,false,false,0⟩
inductive Pc where
 | out | l0 | r0 | sq | c1 | r1 | c2 | r3 | t1 | s1 | t2 | r2 | a1 | own | u0 | uc | ux | us
deriving DecidableEq
structure Th where
 pc:Pc
 old:Wd:=Wd.zero
 aw:Bool:=false
 sv:Bool:=false
 ws:Bool:=false
 it:Nat:=0
 left:Nat:=0
 h:Bool:=false
abbrev oR:=List Th
abbrev x9:=Th->Nat
structure Sh where
 w:Wd
 n:Nat
 h:Nat
def hd(T:Th):Th:=if T.old.l&&!T.old.s then{T with pc:=.sq} else{T with pc:=.c2}
def nw(T:Th):Wd:=⟨T.old.l||!T.old.s,T.old.w&&!T.aw,T.old.s||(T.sv&&T.old.l),T.old.c+if T.old.l||T.old.s then 1 else 0⟩
def pM(T:Th):Th:=if T.old.c=0\/T.old.l=true\/T.old.w=true\/T.old.s=true then{pc:=.out,left:=T.left} else{T with pc:=.uc}
inductive Step:Th->Sh->Th->Sh->Prop
 | out {T S} (h:T.pc=.out) (hl:0<T.left):Step T S {pc:=.l0,left:=T.left - 1} S
 | l0y {T S} (h:T.pc=.l0) (hw:S.w=Wd.zero):Step T S {pc:=.own,left:=T.left} {S with w:=⟨true,false,false,0⟩}
 | l0n {T S} (h:T.pc=.l0) (hw:S.w≠Wd.zero):Step T S {pc:=.r0,left:=T.left} S
 | r0 {T S} (h:T.pc=.r0\/T.pc=.r3):Step T S (hd {T with old:=S.w}) S
 | r1 {T S} (h:T.pc=.r1):Step T S (hd {T with old:=S.w,it:=T.it+1}) S
 | sqn {T S} (h:T.pc=.sq):Step T S {T with pc:=.c2} S
 | sqc {T S} (h:T.pc=.sq) (hi:T.it<4) (ha:T.aw=false) (hw:T.old.w=false) (hc:T.old.c≠0):Step T S {T with pc:=.c1} S
 | sqr {T S} (h:T.pc=.sq) (hi:T.it<4):Step T S {T with pc:=.r1} S
 | c1y {T S} (h:T.pc=.c1) (hw:S.w=T.old):Step T S {T with pc:=.r1,aw:=true} {S with w:={S.w with w:=true}}
 | c1n {T S} (h:T.pc=.c1) (hw:S.w≠T.old):Step T S {T with pc:=.r1} S
 | c2o {T S} (h:T.pc=.c2) (hw:S.w=T.old) (hl:T.old.l=false) (hs:T.old.s=false):Step T S {pc:=.own,left:=T.left} {S with w:=nw T}
 | c2q {T S} (h:T.pc=.c2) (hw:S.w=T.old) (hl:T.old.l=true\/T.old.s=true):Step T S {T with pc:=if T.ws then .s1 else .t1,aw:=false} {S with w:=nw T}
 | c2n {T S} (h:T.pc=.c2) (hw:S.w≠T.old):Step T S {T with pc:=.r3} S
 | t1 {T S} (b:Bool) (h:T.pc=.t1):Step T S {T with pc:=.s1,ws:=b} S
 | s1n {T S} (h:T.pc=.s1) (hn:0<S.n) (hh:S.h=0):Step T S {T with pc:=if T.sv then .r2 else .t2,h:=false} {S with n:=S.n - 1}
 | s1h {T S} (h:T.pc=.s1) (hh:0<S.h):Step T S {T with pc:=if T.sv then .r2 else .t2,h:=true} {S with h:=S.h - 1}
 | t2 {T S} (b:Bool) (h:T.pc=.t2):Step T S {T with pc:=.r2,sv:=T.sv||b} S
 | r2s {T S} (h:T.pc=.r2) (hs:S.w.s=true):Step T S {T with pc:=.a1,old:=S.w} S
 | r2n {T S} (h:T.pc=.r2) (hs:S.w.s=false):Step T S (hd {T with old:=S.w,aw:=true,it:=0}) S
 | a1 {T S} (h:T.pc=.a1):Step T S {pc:=.own,left:=T.left} {S with w:=⟨true,S.w.w,S.w.s&&!(!T.sv||T.old.c==1),S.w.c - 1⟩}
 | own {T S} (h:T.pc=.own):Step T S {T with pc:=.u0} S
 | u0z {T S} (h:T.pc=.u0) (hw:{S.w with l:=false}=Wd.zero):Step T S {pc:=.out,left:=T.left} {S with w:={S.w with l:=false}}
 | u0s {T S} (h:T.pc=.u0) (hs:S.w.s=true):Step T S {pc:=.us,left:=T.left,h:=true} {S with w:={S.w with l:=false}}
 | u0n {T S} (h:T.pc=.u0) (hs:S.w.s=false):Step T S (pM {pc:=.u0,left:=T.left,old:={S.w with l:=false}}) {S with w:={S.w with l:=false}}
 | ucy {T S} (h:T.pc=.uc) (hw:S.w=T.old):Step T S {pc:=.us,left:=T.left,h:=false} {S with w:={S.w with w:=true,c:=S.w.c - 1}}
 | ucn {T S} (h:T.pc=.uc) (hw:S.w≠T.old):Step T S {T with pc:=.ux} S
 | ux {T S} (h:T.pc=.ux):Step T S (pM {T with old:=S.w}) S
 | us {T S} (h:T.pc=.us):Step T S {pc:=.out,left:=T.left} {S with n:=S.n+(if T.h then 0 else 1),h:=S.h+(if T.h then 1 else 0)}
def sum(f:x9):List Th->Nat
 | []=>0
 | T::l=>f T+sum f l
def gK(f:x9):∀{l:oR} {k:Nat} {T:Th} (e:Th),l[k]?=some T->sum f (l.set k e)+f T=sum f l+f e
 | [],_,_,_,h=>by simp at h
 | x::l,0,T,e,h=>by
  simp at h;subst h;simp only[Cj,sum];omega
 | x::l,k+1,T,e,h=>by
  have:=gK f e ri;simp[List.set_cons_succ,sum];omega
def mQ{f:x9}:∀{l:oR} {T:Th},T∈l->f T<=sum f l
 | x::l,T,h=>by
  rcases eP.1 h with rfl | h
  .simp only[sum];omega
  .have:=mQ (f:=f) h;simp only[sum];omega
def dj(b:Bool):Nat:=if b then 1 else 0
def inLoop:Pc->Bool
 | .r0 | .sq | .c1 | .r1 | .c2 | .r3=>true
 | _=>false
def fO(T:Th):Nat:=match T.pc with | .own | .u0=>1 | _=>0
def fQ(T:Th):Nat:=match T.pc with | .t1 | .s1=>1 | _=>0
def fN(T:Th):Nat:=match T.pc with
 | .us | .t2 | .r2=>dj (!T.h)
 | .r0 | .sq | .c1 | .r1 | .c2 | .r3=>dj T.aw
 | _=>0
def fH(T:Th):Nat:=match T.pc with
 | .us | .t2 | .r2=>dj T.h
 | .a1=>1
 | _=>0
def iQ(T:Th):Nat:=match T.pc with | .us=>dj (!T.h) | _=>0
def gE(T:Th):Nat:=match T.pc with
 | .t2 | .r2=>dj T.h
 | .a1=>1
 | _=>0
def fU(T:Th):Nat:=match T.pc with | .uc | .ux=>1 | _=>0
structure Good(T:Th):Prop where
 lp:inLoop T.pc=true->T.sv=true->T.aw=true
 sq:T.pc=.sq->T.old.l=true/\T.old.s=false
 c1:T.pc=.c1->T.aw=false/\T.old.w=false/\T.old.s=false/\T.it<4
 aw:T.pc=.sq\/T.pc=.c2->T.aw=true->T.old.w=true
 it:T.it<=4
 r1:T.pc=.r1->T.it<4
 uc:T.pc=.uc->T.old.c≠0/\T.old.l=false/\T.old.w=false/\T.old.s=false
 fr:T.pc=.l0\/T.pc=.r0->T.aw=false/\T.sv=false
 sl:T.pc=.t1\/T.pc=.s1->T.aw=false
structure Inv(l:List Th)(S:Sh):Prop where
 G4:∀T∈l,Good T
 own:sum fO l=dj S.w.l
 wok:sum fN l+S.n=dj S.w.w
 hnd:sum fH l+S.h=dj (!S.w.l&&S.w.s)
 cnt:sum fQ l+sum gE l=S.w.c+sum iQ l+S.n
 sw:S.w.s=true->S.w.w=false
 dd:S.w.l=false->S.w.w=false->S.w.s=false->0<S.w.c->0<sum fU l
end Mu
end Go.Mz
namespace Go.Mz
namespace Mu
def D9{T:Th}(q:T.sv=true->T.aw=true)(z:T.aw=true->T.old.w=true)(r:T.it<=4):Good (hd T):=by
 unfold hd
 split
 .rename_i h;simp only[nF,wF] at h;exact⟨λ_=>q,λ_=>h,λe=>eA,λ_=>z,r,λe=>eA,λe=>eA,λe=>lB,λe=>lB⟩
 .exact⟨λ_=>q,λe=>eA,λe=>eA,λ_=>z,r,λe=>eA,λe=>eA,λe=>lB,λe=>lB⟩
def fS{T:Th}(h:inLoop T.pc=false)(o:T.pc≠.l0)(r:T.it<=4)(u:T.pc=.uc->T.old.c≠0/\T.old.l=false/\T.old.w=false/\T.old.s=false)(q:T.pc=.t1\/T.pc=.s1->T.aw=false):Good T:=by
 refine⟨λe=>(by rw[h] at e;cases e),λe=>?_,λe=>?_,λe=>?_,r,λe=>?_,u,λe=>?_,q⟩
 .rw[e] at h;cases h
 .rw[e] at h;cases h
 .rcases e with e | e <;> (rw[e] at h;cases h)
 .rw[e] at h;cases h
 .rcases e with e | e
  .exact ar e o
  .rw[e] at h;cases h
def NF{T:Th}(r:T.it<=4):Good (pM T):=by
 unfold pM
 split
 .exact fS rfl lY (fj _) (λe=>by cases e) (λe=>by rcases e with e | e <;> cases e)
 .rename_i h;refine fS rfl lY r (λ_=>?_) (λe=>by rcases e with e | e <;> cases e);refine⟨λe=>h (.inl e),?_,?_,?_⟩
  .cases e:T.old.l with
   | false=>rfl
   | true=>exact ar (.inr (.inl e)) h
  .cases e:T.old.w with
   | false=>rfl
   | true=>exact ar (.inr (.inr (.inl e))) h
  .cases e:T.old.s with
   | false=>rfl
   | true=>exact ar (.inr (.inr (.inr e))) h
def ahm(T:Th):(hd T).pc=.sq\/(hd T).pc=.c2:=by unfold hd;split <;> simp
def ahl(T:Th):(hd T).aw=T.aw:=by unfold hd;split <;> rfl
def Eb(T:Th):fO (hd T)=0/\fN (hd T)=dj T.aw/\fH (hd T)=0/\fQ (hd T)=0/\gE (hd T)=0/\iQ (hd T)=0/\fU (hd T)=0:=by
 have q:=ahl T;rcases ahm T with h | h <;> simp[fO,fN,fH,fQ,gE,iQ,fU,h,q]
def aea(T:Th):fO (pM T)=0/\fN (pM T)=0/\fH (pM T)=0/\fQ (pM T)=0/\gE (pM T)=0/\iQ (pM T)=0:=by
 unfold pM
 split <;> simp[fO,fN,fH,fQ,gE,iQ]
def aec{T:Th}(q:T.old.c≠0)(z:T.old.l=false)(r:T.old.w=false)(x:T.old.s=false):fU (pM T)=1:=by
 unfold pM;rw[A (by simp[q,z,r,x])]
 rfl
def xe{f g:x9}(h:∀T,f T<=g T):∀l:List Th,sum f l<=sum g l
 | []=>dA _
 | T::l=>by have:=h T;have:=xe h l;simp only[sum];omega
def aed(T:Th):iQ T<=fN T:=by unfold iQ fN;split <;> simp_all
def acM(T:Th):gE T<=fH T:=by unfold gE fH;split <;> simp_all
def Bd{l:oR}{k:Nat}{T T':Th}{S S':Sh}(hi:Inv l S)(hk:l[k]?=some T)(hs:Step T S T' S'):Inv (l.set k T') S':=by
 have D:=hi.G4 T (fZ hk);have p:=gK fO T' hk;have q:=gK fN T' hk;have u:=gK fH T' hk;have d:=gK fQ T' hk;have F:=gK gE T' hk;have y:=gK iQ T' hk;have G:=gK fU T' hk;have W:=mQ (f:=fO) (fZ hk);have Q:=mQ (f:=fN) (fZ hk);have R:=mQ (f:=fH) (fZ hk);have X:=mQ (f:=fQ) (fZ hk);have C:=mQ (f:=gE) (fZ hk);have o:=mQ (f:=iQ) (fZ hk);have n1:=xe aed l;have n2:=xe acM l;have u2:Good T'->∀x∈l.set k T',Good x:=λg x hx=>(List.mem_or_eq_of_mem_set hx).elim (hi.G4 x) (λe=>e▸g);obtain⟨_,i1,i2,i3,i4,i5,i6⟩:=hi
 suffices H:Good T'/\(sum fO (l.set k T')=dj S'.w.l/\sum fN (l.set k T')+S'.n=dj S'.w.w/\sum fH (l.set k T')+S'.h=dj (!S'.w.l&&S'.w.s)/\sum fQ (l.set k T')+sum gE (l.set k T')=S'.w.c+sum iQ (l.set k T')+S'.n)/\(S'.w.s=true->S'.w.w=false)/\(S'.w.l=false->S'.w.w=false->S'.w.s=false->0<S'.w.c->0<sum fU (l.set k T')) from
  ⟨u2 H.1,H.2.1.1,H.2.1.2.1,H.2.1.2.2.1,H.2.1.2.2.2,H.2.2.1,H.2.2.2⟩
 clear u2;generalize sum fO (l.set k T')=a1 at *;generalize sum fN (l.set k T')=a2 at *;generalize sum fH (l.set k T')=a3 at *;generalize sum fQ (l.set k T')=a4 at *;generalize sum gE (l.set k T')=a5 at *;generalize sum iQ (l.set k T')=a6 at *;generalize sum fU (l.set k T')=a7 at *;generalize sum fO l=c1 at *;generalize sum fN l=c2 at *;generalize sum fH l=c3 at *;generalize sum fQ l=c4 at *;generalize sum gE l=c5 at *;generalize sum iQ l=c6 at *;generalize sum fU l=c7 at *;clear hk;obtain⟨⟨r,B,J,a⟩,n,h⟩:=S;obtain⟨pc,u4,aw,sv,E,it,left,j⟩:=T;dsimp only at i1 i2 i3 i4 i5 i6;cases hs with
 | out hp hl=>
  dsimp only at *;subst hp;simp only[fO,fN,fH,fQ,gE,iQ,fU] at p q u d F y G W Q R X C o;refine⟨⟨λe=>eA,λe=>eA,λe=>eA,λe=>lB,fj _,λe=>eA,λe=>eA,λ_=>⟨rfl,rfl⟩,λe=>lB⟩,?_,?_,?_⟩
  .refine⟨?_,?_,?_,?_⟩ <;> ((try dsimp only at *);first | assumption | omega | (simp_all [dj] <;> omega) | simp_all [dj])
  ·((try dsimp only at *);first | assumption | omega | (simp_all [dj] <;> omega) | simp_all [dj])
  .intro m I i K;((try dsimp only at *);first | assumption | omega | (simp_all [dj] <;> omega) | simp_all [dj])
 | l0y hp hw=>
  dsimp only at *;subst hp;obtain⟨rfl,rfl,rfl,rfl⟩:=Wd.mk.inj hw;simp only[fO,fN,fH,fQ,gE,iQ,fU] at p q u d F y G W Q R X C o;refine⟨by exact fS rfl lY Au (λe=>by cases e) (λe=>by rcases e with e | e <;> cases e),?_,?_,?_⟩
  .refine⟨?_,?_,?_,?_⟩ <;> ((try dsimp only at *);first | assumption | omega | (simp_all [dj] <;> omega) | simp_all [dj])
  ·((try dsimp only at *);first | assumption | omega | (simp_all [dj] <;> omega) | simp_all [dj])
  .intro m I i K;((try dsimp only at *);first | assumption | omega | (simp_all [dj] <;> omega) | simp_all [dj])
 | l0n hp hw=>
  dsimp only at *;subst hp;simp only[fO,fN,fH,fQ,gE,iQ,fU] at p q u d F y G W Q R X C o;refine⟨⟨λ_ e=>eA,λe=>eA,λe=>eA,λe=>lB,fj _,λe=>eA,λe=>eA,λ_=>⟨rfl,rfl⟩,λe=>lB⟩,?_,?_,?_⟩
  .refine⟨?_,?_,?_,?_⟩ <;> ((try dsimp only at *);first | assumption | omega | (simp_all [dj] <;> omega) | simp_all [dj])
  ·((try dsimp only at *);first | assumption | omega | (simp_all [dj] <;> omega) | simp_all [dj])
  .intro m I i K;((try dsimp only at *);first | assumption | omega | (simp_all [dj] <;> omega) | simp_all [dj])
 | r0 hp=>
  dsimp only at *;rcases hp with rfl | rfl
  .simp only[fO,fN,fH,fQ,gE,iQ,fU] at W Q R X C o;obtain⟨g1,g2,g3,g4,g5,g6,g7⟩:=Eb {pc:=.r0,old:=⟨r,B,J,a⟩,aw:=aw,sv:=sv,ws:=E,it:=it,left:=left,h:=j};rw[g1] at p;rw[g2] at q;rw[g3] at u;rw[g4] at d;rw[g5] at F;rw[g6] at y;rw[g7] at G;simp only[fO,fN,fH,fQ,gE,iQ,fU] at p q u d F y G;have u1:aw=true->B=true:=λe=>by
    cases B with
    | true=>rfl
    | false=>simp[dj,e] at Q i2;omega
   exact⟨D9 (D.lp rfl) u1 D.it,⟨M,M,M,M⟩,i5,λm I i K=>by have:=i6 m I i K;omega⟩
  ·simp only[fO,fN,fH,fQ,gE,iQ,fU] at W Q R X C o;obtain⟨g1,g2,g3,g4,g5,g6,g7⟩:=Eb {pc:=.r3,old:=⟨r,B,J,a⟩,aw:=aw,sv:=sv,ws:=E,it:=it,left:=left,h:=j};rw[g1] at p;rw[g2] at q;rw[g3] at u;rw[g4] at d;rw[g5] at F;rw[g6] at y;rw[g7] at G;simp only[fO,fN,fH,fQ,gE,iQ,fU] at p q u d F y G;have u1:aw=true->B=true:=λe=>by
    cases B with
    | true=>rfl
    | false=>simp[dj,e] at Q i2;omega
   exact⟨D9 (D.lp rfl) u1 D.it,⟨M,M,M,M⟩,i5,λm I i K=>by have:=i6 m I i K;omega⟩
 | r1 hp=>
  dsimp only at *;subst hp;simp only[fO,fN,fH,fQ,gE,iQ,fU] at W Q R X C o;obtain⟨g1,g2,g3,g4,g5,g6,g7⟩:=Eb {pc:=.r1,old:=⟨r,B,J,a⟩,aw:=aw,sv:=sv,ws:=E,it:=it+1,left:=left,h:=j};rw[g1] at p;rw[g2] at q;rw[g3] at u;rw[g4] at d;rw[g5] at F;rw[g6] at y;rw[g7] at G;simp only[fO,fN,fH,fQ,gE,iQ,fU] at p q u d F y G;have u1:aw=true->B=true:=λe=>by
   cases B with
   | true=>rfl
   | false=>simp[dj,e] at Q i2;omega
  exact⟨D9 (D.lp rfl) u1 (by have:=D.r1 rfl;dsimp only at this ⊢;omega),⟨M,M,M,M⟩,i5,λm I i K=>by have:=i6 m I i K;omega⟩
 | sqn hp=>
  dsimp only at *;subst hp;simp only[fO,fN,fH,fQ,gE,iQ,fU] at p q u d F y G W Q R X C o;exact⟨⟨λ_=>D.lp rfl,λe=>eA,λe=>eA,λ_=>D.aw (.inl rfl),D.it,λe=>eA,λe=>eA,λe=>lB,λe=>lB⟩,⟨M,M,M,M⟩,i5,λm I i K=>by have:=i6 m I i K;omega⟩
 | sqc hp hi2 ha hw hc=>
  dsimp only at *;subst hp;simp only[fO,fN,fH,fQ,gE,iQ,fU] at p q u d F y G W Q R X C o;exact⟨⟨λ_=>D.lp rfl,λe=>eA,λ_=>⟨ha,hw,(D.sq rfl).2,hi2⟩,λe=>lB,D.it,λe=>eA,λe=>eA,λe=>lB,λe=>lB⟩,⟨M,M,M,M⟩,i5,λm I i K=>by have:=i6 m I i K;omega⟩
 | sqr hp hi2=>
  dsimp only at *;subst hp;simp only[fO,fN,fH,fQ,gE,iQ,fU] at p q u d F y G W Q R X C o;exact⟨⟨λ_=>D.lp rfl,λe=>eA,λe=>eA,λe=>lB,D.it,λ_=>hi2,λe=>eA,λe=>lB,λe=>lB⟩,⟨M,M,M,M⟩,i5,λm I i K=>by have:=i6 m I i K;omega⟩
 | c1y hp hw=>
  dsimp only at *;subst hp hw;obtain⟨h1,z,h3,h4⟩:=D.c1 rfl;dsimp only at h1 z h3 h4;subst h1 z h3;simp only[fO,fN,fH,fQ,gE,iQ,fU] at p q u d F y G W Q R X C o;refine⟨⟨λ_ _=>rfl,λe=>eA,λe=>eA,λe=>lB,D.it,λ_=>h4,λe=>eA,λe=>lB,λe=>lB⟩,⟨M,?_,M,M⟩,λe=>eA,λm I=>(by cases I)⟩;simp only[dj] at *;simp at *;omega
 | c1n hp hw=>
  dsimp only at *;subst hp;simp only[fO,fN,fH,fQ,gE,iQ,fU] at p q u d F y G W Q R X C o;exact⟨⟨λ_=>D.lp rfl,λe=>eA,λe=>eA,λe=>lB,D.it,λ_=>(D.c1 rfl).2.2.2,λe=>eA,λe=>lB,λe=>lB⟩,⟨M,M,M,M⟩,i5,λm I i K=>by have:=i6 m I i K;omega⟩
 | c2o hp hw hl hs=>
  dsimp only at *;subst hp hw;dsimp only at hl hs;subst hl hs;have u3:=D.aw (.inr rfl);dsimp only at u3;simp only[fO,fN,fH,fQ,gE,iQ,fU] at p q u d F y G W Q R X C o;refine⟨by exact fS rfl lY Au (λe=>by cases e) (λe=>by rcases e with e | e <;> cases e),?_,λe=>?_,λm=>?_⟩
  ·simp only[nw,Cl,Bool.or_true,zg,Bool.or_self,By,Bool.or_false];cases aw with
   | true=>
    have u5:=u3 rfl;subst u5;have t:dj false=0:=rfl;have b1:dj true=1:=rfl;simp only[Cl,Co,GF,Ci,yQ,zg] at i3 ⊢;refine⟨M,M,M,?_⟩;simp;omega
   | false=>
    have t:dj false=0:=rfl;have b1:dj true=1:=rfl;simp only[Cl,Co,GF,Ci,yQ,zg] at i3 ⊢;refine⟨M,M,M,?_⟩;simp;omega
  ·simp[nw] at e
  ·simp[nw] at m
 | c2q hp hw hl=>
  dsimp only at *;subst hp hw;have u3:=D.aw (.inr rfl);have u6:=D.lp rfl;dsimp only at u3 u6 hl;have u7:({pc:=if E=true then Pc.s1 else Pc.t1,old:=⟨r,B,J,a⟩,aw:=false,sv:=sv,ws:=E,it:=it,left:=left,h:=j}:Th).pc=.t1\/({pc:=if E=true then Pc.s1 else Pc.t1,old:=⟨r,B,J,a⟩,aw:=false,sv:=sv,ws:=E,it:=it,left:=left,h:=j}:Th).pc=.s1:=by
   cases E <;> simp
  have hG:Good ({pc:=if E=true then Pc.s1 else Pc.t1,old:=⟨r,B,J,a⟩,aw:=false,sv:=sv,ws:=E,it:=it,left:=left,h:=j}:Th):=by
   cases E <;> exact fS rfl lY D.it (λe=>by cases e) (λ_=>rfl)
  have v:fO ({pc:=if E=true then Pc.s1 else Pc.t1,old:=⟨r,B,J,a⟩,aw:=false,sv:=sv,ws:=E,it:=it,left:=left,h:=j}:Th)=0/\fN ({pc:=if E=true then Pc.s1 else Pc.t1,old:=⟨r,B,J,a⟩,aw:=false,sv:=sv,ws:=E,it:=it,left:=left,h:=j}:Th)=0/\fH ({pc:=if E=true then Pc.s1 else Pc.t1,old:=⟨r,B,J,a⟩,aw:=false,sv:=sv,ws:=E,it:=it,left:=left,h:=j}:Th)=0/\fQ ({pc:=if E=true then Pc.s1 else Pc.t1,old:=⟨r,B,J,a⟩,aw:=false,sv:=sv,ws:=E,it:=it,left:=left,h:=j}:Th)=1/\gE ({pc:=if E=true then Pc.s1 else Pc.t1,old:=⟨r,B,J,a⟩,aw:=false,sv:=sv,ws:=E,it:=it,left:=left,h:=j}:Th)=0/\iQ ({pc:=if E=true then Pc.s1 else Pc.t1,old:=⟨r,B,J,a⟩,aw:=false,sv:=sv,ws:=E,it:=it,left:=left,h:=j}:Th)=0:=by
   cases E <;> simp[fO,fN,fH,fQ,gE,iQ]
  obtain⟨v1,v2,v3,v4,v5,v6⟩:=v;rw[v1] at p;rw[v2] at q;rw[v3] at u;rw[v4] at d;rw[v5] at F;rw[v6] at y;clear u7 v1 v2 v3 v4 v5 v6 G;simp only[fO,fN,fH,fQ,gE,iQ,fU] at p q u d F y W Q R X C o;refine⟨hG,?_,?_,?_⟩
  ·clear hG D;cases r <;> cases J <;> cases aw <;> cases sv <;> cases B <;> simp[nw,dj] at * <;> omega
  ·clear hG D;intro e;cases r <;> cases J <;> cases aw <;> cases sv <;> cases B <;> simp[nw] at *
  ·clear hG D;intro m I i K;cases r <;> cases J <;> simp[nw] at *
 | c2n hp hw=>
  dsimp only at *;subst hp;simp only[fO,fN,fH,fQ,gE,iQ,fU] at p q u d F y G W Q R X C o;exact⟨⟨λ_=>D.lp rfl,λe=>eA,λe=>eA,λe=>lB,D.it,λe=>eA,λe=>eA,λe=>lB,λe=>lB⟩,⟨M,M,M,M⟩,i5,λm I i K=>by have:=i6 m I i K;omega⟩
 | t1 b hp=>
  dsimp only at *;subst hp;simp only[fO,fN,fH,fQ,gE,iQ,fU] at p q u d F y G W Q R X C o;refine⟨by exact fS rfl lY D.it (λe=>by cases e) (λ_=>D.sl (.inl rfl)),?_,?_,?_⟩
  ·refine⟨?_,?_,?_,?_⟩ <;> ((try dsimp only at *);first | assumption | omega | (simp_all [dj] <;> omega) | simp_all [dj])
  ·((try dsimp only at *);first | assumption | omega | (simp_all [dj] <;> omega) | simp_all [dj])
  ·intro m I i K;((try dsimp only at *);first | assumption | omega | (simp_all [dj] <;> omega) | simp_all [dj])
 | s1n hp hn hh=>
  dsimp only at *;subst hp;cases sv
  all_goals
   simp only[fO,fN,fH,fQ,gE,iQ,fU,if_true,if_false,iM,reduceIte] at p q u d F y G W Q R X C o;refine⟨by exact fS rfl lY D.it (λe=>by cases e) (λe=>by rcases e with e | e <;> cases e),?_,?_,?_⟩
   ·refine⟨?_,?_,?_,?_⟩ <;> ((try dsimp only at *);first | assumption | omega | (simp_all [dj] <;> omega) | simp_all [dj])
   ·((try dsimp only at *);first | assumption | omega | (simp_all [dj] <;> omega) | simp_all [dj])
   ·intro m I i K;((try dsimp only at *);first | assumption | omega | (simp_all [dj] <;> omega) | simp_all [dj])
 | s1h hp hh=>
  dsimp only at *;subst hp;cases sv
  all_goals
   simp only[fO,fN,fH,fQ,gE,iQ,fU,if_true,if_false,iM,reduceIte] at p q u d F y G W Q R X C o;refine⟨by exact fS rfl lY D.it (λe=>by cases e) (λe=>by rcases e with e | e <;> cases e),?_,?_,?_⟩
   ·refine⟨?_,?_,?_,?_⟩ <;> ((try dsimp only at *);first | assumption | omega | (simp_all [dj] <;> omega) | simp_all [dj])
   ·((try dsimp only at *);first | assumption | omega | (simp_all [dj] <;> omega) | simp_all [dj])
   ·intro m I i K;((try dsimp only at *);first | assumption | omega | (simp_all [dj] <;> omega) | simp_all [dj])
 | t2 b hp=>
  dsimp only at *;subst hp;simp only[fO,fN,fH,fQ,gE,iQ,fU] at p q u d F y G W Q R X C o;refine⟨by exact fS rfl lY D.it (λe=>by cases e) (λe=>by rcases e with e | e <;> cases e),?_,?_,?_⟩
  ·refine⟨?_,?_,?_,?_⟩ <;> ((try dsimp only at *);first | assumption | omega | (simp_all [dj] <;> omega) | simp_all [dj])
  ·((try dsimp only at *);first | assumption | omega | (simp_all [dj] <;> omega) | simp_all [dj])
  ·intro m I i K;((try dsimp only at *);first | assumption | omega | (simp_all [dj] <;> omega) | simp_all [dj])
 | r2s hp hs=>
  dsimp only at *;subst hp;simp only[fO,fN,fH,fQ,gE,iQ,fU] at p q u d F y G W Q R X C o;refine⟨by exact fS rfl lY D.it (λe=>by cases e) (λe=>by rcases e with e | e <;> cases e),?_,?_,?_⟩
  ·refine⟨?_,?_,?_,?_⟩ <;> ((try dsimp only at *);first | assumption | omega | (simp_all [dj] <;> omega) | simp_all [dj])
  ·((try dsimp only at *);first | assumption | omega | (simp_all [dj] <;> omega) | simp_all [dj])
  ·intro m I i K;((try dsimp only at *);first | assumption | omega | (simp_all [dj] <;> omega) | simp_all [dj])
 | r2n hp hs=>
  dsimp only at *;subst hp hs;simp only[fO,fN,fH,fQ,gE,iQ,fU] at W Q R X C o;have u8:j=false:=by
   cases j with
   | false=>rfl
   | true=>cases r <;> simp[dj] at R i3 <;> omega
  subst u8;obtain⟨g1,g2,g3,g4,g5,g6,g7⟩:=Eb {pc:=.r2,old:=⟨r,B,false,a⟩,aw:=true,sv:=sv,ws:=E,it:=0,left:=left,h:=false};rw[g1] at p;rw[g2] at q;rw[g3] at u;rw[g4] at d;rw[g5] at F;rw[g6] at y;rw[g7] at G;simp only[fO,fN,fH,fQ,gE,iQ,fU,dj,Cl,if_true,reduceIte,iM] at p q u d F y G Q;have u1:B=true:=by
   cases B with
   | true=>rfl
   | false=>simp[dj] at i2;omega
  exact⟨D9 (λ_=>rfl) (λ_=>u1) (fj _),⟨M,M,M,M⟩,i5,λm I i K=>by have:=i6 m I i K;omega⟩
 | a1 hp=>
  dsimp only at *;subst hp;simp only[fO,fN,fH,fQ,gE,iQ,fU] at p q u d F y G W Q R X C o;refine⟨by exact fS rfl lY Au (λe=>by cases e) (λe=>by rcases e with e | e <;> cases e),⟨?_,?_,?_,?_⟩,?_,λm I i K=>?_⟩
  all_goals try dsimp only at *
  all_goals (cases r <;> cases B <;> cases J <;> simp[dj] at * <;> omega)
 | own hp=>
  dsimp only at *;subst hp;simp only[fO,fN,fH,fQ,gE,iQ,fU] at p q u d F y G W Q R X C o;refine⟨by exact fS rfl lY D.it (λe=>by cases e) (λe=>by rcases e with e | e <;> cases e),?_,?_,?_⟩
  ·refine⟨?_,?_,?_,?_⟩ <;> ((try dsimp only at *);first | assumption | omega | (simp_all [dj] <;> omega) | simp_all [dj])
  ·((try dsimp only at *);first | assumption | omega | (simp_all [dj] <;> omega) | simp_all [dj])
  ·intro m I i K;((try dsimp only at *);first | assumption | omega | (simp_all [dj] <;> omega) | simp_all [dj])
 | u0z hp hw=>
  dsimp only at *;subst hp;obtain⟨_,rfl,rfl,rfl⟩:=Wd.mk.inj hw;simp only[fO,fN,fH,fQ,gE,iQ,fU] at p q u d F y G W Q R X C o;refine⟨by exact fS rfl lY Au (λe=>by cases e) (λe=>by rcases e with e | e <;> cases e),⟨?_,?_,?_,?_⟩,?_,λm I i K=>?_⟩
  all_goals try dsimp only at *
  all_goals (cases r <;> simp[dj] at * <;> omega)
 | u0s hp hs=>
  dsimp only at *;subst hp;simp only[fO,fN,fH,fQ,gE,iQ,fU] at p q u d F y G W Q R X C o;refine⟨by exact fS rfl lY Au (λe=>by cases e) (λe=>by rcases e with e | e <;> cases e),⟨?_,?_,?_,?_⟩,?_,λm I i K=>?_⟩
  all_goals try dsimp only at *
  all_goals (cases r <;> cases B <;> cases J <;> simp[dj] at * <;> omega)
 | u0n hp hs=>
  dsimp only at *;subst hp hs;obtain⟨g1,g2,g3,g4,g5,g6⟩:=aea {pc:=.u0,left:=left,old:=⟨false,B,false,a⟩};have gu:=@aec {pc:=.u0,left:=left,old:=⟨false,B,false,a⟩};rw[g1] at p;rw[g2] at q;rw[g3] at u;rw[g4] at d;rw[g5] at F;rw[g6] at y;simp only[fO,fN,fH,fQ,gE,iQ,fU] at p q u d F y W Q R X C o;dsimp only at gu;refine⟨NF (fj _),⟨?_,M,?_,M⟩,λe=>eA,λm I i K=>?_⟩
  ·clear i6;cases r <;> simp[dj] at * <;> omega
  ·clear i6;cases r <;> simp[dj] at * <;> omega
  ·rw[gu M rfl I rfl] at G;have:fU {pc:=Pc.u0,old:=u4,aw:=aw,sv:=sv,ws:=E,it:=it,left:=left,h:=j}=0:=rfl;omega
 | ucy hp hw=>
  dsimp only at *;subst hp;have hu:=D.uc rfl;subst hw;dsimp only at hu;simp only[fO,fN,fH,fQ,gE,iQ,fU] at p q u d F y G W Q R X C o;refine⟨by exact fS rfl lY Au (λe=>by cases e) (λe=>by rcases e with e | e <;> cases e),?_,?_,?_⟩
  ·refine⟨?_,?_,?_,?_⟩ <;> ((try dsimp only at *);first | assumption | omega | (simp_all [dj] <;> omega) | simp_all [dj])
  ·((try dsimp only at *);first | assumption | omega | (simp_all [dj] <;> omega) | simp_all [dj])
  ·intro m I i K;((try dsimp only at *);first | assumption | omega | (simp_all [dj] <;> omega) | simp_all [dj])
 | ucn hp hw=>
  dsimp only at *;subst hp;simp only[fO,fN,fH,fQ,gE,iQ,fU] at p q u d F y G W Q R X C o;refine⟨by exact fS rfl lY D.it (λe=>by cases e) (λe=>by rcases e with e | e <;> cases e),?_,?_,?_⟩
  ·refine⟨?_,?_,?_,?_⟩ <;> ((try dsimp only at *);first | assumption | omega | (simp_all [dj] <;> omega) | simp_all [dj])
  ·((try dsimp only at *);first | assumption | omega | (simp_all [dj] <;> omega) | simp_all [dj])
  ·intro m I i K;((try dsimp only at *);first | assumption | omega | (simp_all [dj] <;> omega) | simp_all [dj])
 | ux hp=>
  dsimp only at *;subst hp;obtain⟨g1,g2,g3,g4,g5,g6⟩:=aea {pc:=.ux,old:=⟨r,B,J,a⟩,aw:=aw,sv:=sv,ws:=E,it:=it,left:=left,h:=j};have gu:=@aec {pc:=.ux,old:=⟨r,B,J,a⟩,aw:=aw,sv:=sv,ws:=E,it:=it,left:=left,h:=j};rw[g1] at p;rw[g2] at q;rw[g3] at u;rw[g4] at d;rw[g5] at F;rw[g6] at y;simp only[fO,fN,fH,fQ,gE,iQ,fU] at p q u d F y W Q R X C o;dsimp only at gu;refine⟨NF D.it,⟨M,M,M,M⟩,i5,λm I i K=>?_⟩;rw[gu M m I i] at G;have:=i6 m I i K;have z:fU {pc:=Pc.ux,old:=u4,aw:=aw,sv:=sv,ws:=E,it:=it,left:=left,h:=j}=1:=rfl;omega
 | us hp=>
  dsimp only at *;subst hp;cases j <;> simp only[fO,fN,fH,fQ,gE,iQ,fU,dj,Ci,Cl,if_true,reduceIte,iM] at p q u d F y G W Q R X C o ⊢
  ·exact⟨by exact fS rfl lY Au (λe=>by cases e) (λe=>by rcases e with e | e <;> cases e),⟨by simp only[dj] at i1;omega,by simp only[dj] at i2;omega,by simp only[dj] at i3;omega,M⟩,i5,λm I i K=>by have:=i6 m I i K;omega⟩
  ·exact⟨by exact fS rfl lY Au (λe=>by cases e) (λe=>by rcases e with e | e <;> cases e),⟨by simp only[dj] at i1;omega,by simp only[dj] at i2;omega,by simp only[dj] at i3;omega,M⟩,i5,λm I i K=>by have:=i6 m I i K;omega⟩
end Mu
end Go.Mz
namespace Go.Mz
namespace Mu
def FY{f:x9}:∀{l:oR},(∀T∈l,f T=0)->sum f l=0
 | [],_=>rfl
 | T::l,h=>by simp only[sum];have:=h T fC;have:=FY (f:=f) λx u=>h x (fG _ u);omega
def Ux{f:x9}:∀{l:oR} {i j:Nat} {T az:Th},i≠j->l[i]?=some T->l[j]?=some az->f T+f az<=sum f l
 | [],_,_,_,_,_,h,_=>by simp at h
 | x::l,0,0,_,_,h,_,_=>ar rfl h
 | x::l,0,j+1,T,az,_,h1,h2=>by
  simp at h1;subst h1;have:=mQ (f:=f) (fZ (by simpa using h2));simp[sum];omega
 | x::l,i+1,0,T,az,_,h1,h2=>by
  simp at h2;subst h2;have:=mQ (f:=f) (fZ (by simpa using h1));simp only[sum];omega
 | x::l,i+1,j+1,T,az,h,h1,h2=>by
  have:=Ux (f:=f) (l:=l) (i:=i) (j:=j) (λe=>h (by rw[e])) (by simpa using h1) (by simpa using h2);simp only[sum];omega
def O1(b:Bool):dj b<=1:=by cases b <;> decide
def R4{b:Bool}(h:0<dj b):b=true:=by cases b with | true=>rfl | false=>exact ar h V
def Inv.aiS{l:oR}{S:Sh}(h:Inv l S){n k:Nat}{T az:Th}(t:n≠k)(i:l[n]?=some T)(u:l[k]?=some az)(q:T.pc=.own\/T.pc=.u0)(z:az.pc=.own\/az.pc=.u0):False:=by
 have:=Ux (f:=fO) t i u;rw[h.own] at this;have:=O1 S.w.l;let p:fO T=1:=by unfold fO;rcases q with e | e <;> rw[e]
 let v:fO az=1:=by unfold fO;rcases z with e | e <;> rw[e]
 omega
def Inv.held{l:oR}{S:Sh}(h:Inv l S){T:Th}(u:T∈l)(q:T.pc=.own\/T.pc=.u0):S.w.l=true:=by
 have:=mQ (f:=fO) u;let p:fO T=1:=by unfold fO;rcases q with e | e <;> rw[e]
 exact R4 (by rw[<-h.own];omega)
def Inv.handed{l:oR}{S:Sh}(h:Inv l S){T:Th}(u:T∈l)(q:0<gE T):S.w.l=false/\S.w.s=true/\S.w.w=false/\0<S.w.c:=by
 have v:=mQ (f:=gE) u;let d:=xe acM l;let i:=xe aed l;let z:=R4 (by rw[<-h.hnd];omega);rw[nF,wF] at z;let r:=h.sw z.2;let x:=h.wok;rw[r] at x;have:dj false=0:=rfl;have:=h.cnt;exact⟨z.1,z.2,r,M⟩
def Inv.woken{l:oR}{S:Sh}(h:Inv l S){T:Th}(v:T∈l)(q:T.pc=.r2)(a:S.w.s=true):0<gE T:=by
 have c:=mQ (f:=fN) v;let r:=h.sw a;let x:=h.wok;rw[r] at x;have:dj false=0:=rfl;let e:fN T=dj (!T.h):=by unfold fN;rw[q]
 let z:gE T=dj T.h:=by unfold gE;rw[q]
 cases u:T.h with
 | true=>rw[z,u];decide
 | false=>rw[u] at e;have:dj (!false)=1:=rfl;omega
def Inv.live{l:oR}{S:Sh}(h:Inv l S){T:Th}(d:T∈l)(t:T.pc=.s1)(y:S.n=0)(I:S.h=0):∃az∈l,az.pc≠.s1/\az.pc≠.out:=by
 refine qF λb=>?_;let j:∀az∈l,az.pc=.s1\/az.pc=.out:=λaz v=>qF λe=>b ⟨az,v,λp=>e (.inl p),λg=>e (.inr g)⟩;let z:∀(f:x9),(∀az:Th,az.pc=.s1\/az.pc=.out->f az=0)->sum f l=0:=λf a=>FY λaz v=>a az (j az v);let J:=z fO λaz v=>by unfold fO;rcases v with e | e <;> rw[e]
 let K:=z fN λaz v=>by unfold fN;rcases v with e | e <;> rw[e]
 let D:=z fH λaz v=>by unfold fH;rcases v with e | e <;> rw[e]
 let F:=z gE λaz v=>by unfold gE;rcases v with e | e <;> rw[e]
 let G:=z iQ λaz v=>by unfold iQ;rcases v with e | e <;> rw[e]
 let H:=z fU λaz v=>by unfold fU;rcases v with e | e <;> rw[e]
 let q:fQ T=1:=by unfold fQ;rw[t]
 let m:=mQ (f:=fQ) d;obtain⟨_,i,c,r,Q,R,u⟩:=h;let o:S.w.l=false:=by cases e:S.w.l with | false=>rfl | true=>rw[e] at i;have:dj true=1:=rfl;omega
 let k:S.w.w=false:=by cases e:S.w.w with | false=>rfl | true=>rw[e] at c;have:dj true=1:=rfl;omega
 let x:S.w.s=false:=by cases e:S.w.s with | false=>rfl | true=>rw[e,o] at r;have:dj (!false&&true)=1:=rfl;omega
 have:=u o k x M;omega
def v(T:Th):Nat:=7 *T.left+match T.pc with
 | .out=>0
 | .l0=>6
 | .r0 | .sq | .c1 | .r1 | .c2 | .r3=>if T.aw then 5 else 6
 | .t1 | .s1=>4
 | .t2 | .r2=>5
 | .a1=>4
 | .own | .u0=>3
 | .uc | .ux=>2
 | .us=>1
def sP(w:Wd)(T:Th):Nat:=if T.old=w then 0 else 1
def loc(w:Wd)(T:Th):Nat:=match T.pc with
 | .out=>0
 | .l0=>49
 | .r0=>8 * (5 - T.it)+7
 | .r3=>8 * (5 - T.it)+7
 | .sq=>8 * (5 - T.it)+4+16 *sP w T
 | .c1=>8 * (5 - T.it)+2+16 *sP w T
 | .r1=>8 * (5 - T.it)+1
 | .c2=>8 * (5 - T.it)+3+16 *sP w T
 | .t1=>52
 | .s1=>51
 | .t2=>50
 | .r2=>49
 | .a1=>48
 | .own=>2
 | .u0=>1
 | .uc=>3+16 *sP w T
 | .ux=>5
 | .us=>1
def afv(w:Wd)(T:Th):loc w T<=64:=by
 have:sP w T<=1:=by unfold sP;split <;> omega
 unfold loc
 split <;> omega
def ahv(w c:Wd)(T:Th):loc c T<=loc w T+16:=by
 have q:sP c T<=1:=by unfold sP;split <;> omega
 unfold loc
 split <;> omega
def Uv(w c:Wd):∀l:List Th,sum (loc c) l<=sum (loc w) l+16 *l.length
 | []=>dA _
 | T::l=>by have:=Uv w c l;have:=ahv w c T;simp only[sum,pR];omega
def meas(l:oR)(S:Sh):Nat:=(64+16 *l+1) * (sum v l+(S.n+S.h))+sum (loc S.w) l
def adS{w:Wd}{T:Th}(h:w≠T.old):sP w T=1:=A λe=>h e.symm
def aee{T:Th}:v (hd T)=7 *T.left+if T.aw then 5 else 6:=by unfold hd;split <;> rfl
def PR{w:Wd}{T:Th}(h:T.old=w):loc w (hd T)<=8 * (5 - T.it)+4:=by
 have s:∀az:Th,az.old=w->sP w az=0:=λaz e=>ax e;unfold hd
 split
 .simp only[loc,s _ (show({T with pc:=Pc.sq}:Th).old=w from h)];omega
 .simp only[loc,s _ (show({T with pc:=Pc.c2}:Th).old=w from h)];omega
def aef(T:Th):v (pM T)<=7 *T.left+2:=by unfold pM;split <;> simp[v]
def acY{w:Wd}{T:Th}(h:T.old=w):loc w (pM T)<=3:=by
 have s:∀az:Th,az.old=w->sP w az=0:=λaz e=>ax e;unfold pM
 split
 .simp[loc]
 .simp only[loc,s _ (show({T with pc:=Pc.uc}:Th).old=w from h)];omega
def aaO{T e:Th}{S u:Sh}(d:Good T)(a:Step T S e u):v e+(u.n+u.h)+1<=v T+(S.n+S.h)\/(v e+(u.n+u.h)<=v T+(S.n+S.h)/\u.w=S.w/\loc S.w e<loc S.w T):=by
 let⟨m,f,z,y,i,o,left,j⟩:=T;cases a with
 | out hp hl=>dsimp only at hp hl;subst hp;left;simp[v];omega
 | l0y hp hw=>dsimp only at hp;subst hp;left;simp[v];omega
 | l0n hp hw=>dsimp only at hp;subst hp;right;exact⟨by simp[v],rfl,by simp[loc]⟩
 | r0 hp=>
  dsimp only at hp
  right
  rcases hp with rfl | rfl
  all_goals
   refine⟨by rw[aee];simp only[v];omega,rfl,Nat.lt_of_le_of_lt (PR rfl) ?_⟩;simp only[loc];omega
 | r1 hp=>
  subst hp;have x:=d.r1 rfl;dsimp only at x
  right
  refine⟨by rw[aee];simp only[v];omega,rfl,Nat.lt_of_le_of_lt (PR rfl) ?_⟩;simp[loc];omega
 | sqn hp=>dsimp only at hp;subst hp;right;exact⟨uR,rfl,Qw⟩
 | sqc hp hi ha hw hc=>dsimp only at hp;subst hp;right;exact⟨uR,rfl,Qw⟩
 | sqr hp hi=>dsimp only at hp;subst hp;right;exact⟨uR,rfl,Qw⟩
 | c1y hp hw=>
  dsimp only at hp;subst hp;have q:=(d.c1 rfl).1;dsimp only at q;subst q
  left;simp[v];omega
 | c1n hp hw=>dsimp only at hp;subst hp;right;exact⟨uR,rfl,Qx⟩
 | c2o hp hw hl a=>dsimp only at hp;subst hp;left;simp only[v];cases z <;> simp <;> omega
 | c2q hp hw hl=>dsimp only at hp;subst hp;left;cases i <;> cases z <;> simp[v] <;> omega
 | c2n hp hw=>dsimp only at hp;subst hp;right;exact⟨uR,rfl,Qx⟩
 | t1 b hp=>dsimp only at hp;subst hp;right;exact⟨uR,rfl,F6⟩
 | s1n hp hn hh=>dsimp only at hp;subst hp;right;cases y <;> exact⟨by simp[v];omega,rfl,by simp[loc]⟩
 | s1h hp hh=>dsimp only at hp;subst hp;right;cases y <;> exact⟨by simp[v];omega,rfl,by simp[loc]⟩
 | t2 b hp=>dsimp only at hp;subst hp;right;exact⟨uR,rfl,F6⟩
 | r2s hp a=>dsimp only at hp;subst hp;right;exact⟨uR,rfl,F6⟩
 | r2n hp a=>
  dsimp only at hp;subst hp
  right
  refine⟨by rw[aee];simp[v],rfl,Nat.lt_of_le_of_lt (PR rfl) ?_⟩;simp only[loc];omega
 | a1 hp=>dsimp only at hp;subst hp;left;simp only[v];omega
 | own hp=>dsimp only at hp;subst hp;right;exact⟨uR,rfl,F6⟩
 | u0z hp hw=>dsimp only at hp;subst hp;left;simp only[v];omega
 | u0s hp a=>dsimp only at hp;subst hp;left;simp only[v];omega
 | u0n hp a=>
  dsimp only at hp;subst hp
  left
  have:=aef {pc:=.u0,left:=left,old:={S.w with l:=false}};dsimp only at this ⊢;simp only[v] at this ⊢;omega
 | ucy hp hw=>dsimp only at hp;subst hp;left;simp only[v];omega
 | ucn hp hw=>dsimp only at hp;subst hp;right;exact⟨uR,rfl,Qx⟩
 | ux hp=>
  dsimp only at hp;subst hp
  right
  refine⟨?_,rfl,Nat.lt_of_le_of_lt (acY rfl) F6⟩;have:=aef {pc:=.ux,old:=S.w,aw:=z,sv:=y,ws:=i,it:=o,left:=left,h:=j};dsimp only at this ⊢;simp only[v] at this ⊢;omega
 | us hp=>dsimp only at hp;subst hp;right;exact⟨by cases j <;> simp[v] <;> omega,rfl,F6⟩
def FH{l:oR}{k:Nat}{T e:Th}{S i:Sh}(t:Good T)(o:l[k]?=some T)(a:Step T S e i):meas (l.set k e) i<meas l S:=by
 let p:=gK v e o;let m:=mQ (f:=v) (fZ o);unfold meas;rw[Fb];rcases aaO t a with h | ⟨c,z,r⟩
 .let q:=gK (loc i.w) e o;let u:=Uv S.w i.w l;let d:=afv i.w e;let g:sum v (l.set k e)+(i.n+i.h)+1<=sum v l+(S.n+S.h):=by omega
  have:=Nat.mul_le_mul_left (64+16 *l+1) g;rw[Nat.mul_add] at this;omega
 .let q:=gK (loc i.w) e o;let g:sum v (l.set k e)+(i.n+i.h)<=sum v l+(S.n+S.h):=by omega
  have:=Nat.mul_le_mul_left (64+16 *l+1) g;rw[z] at q ⊢;omega
end Mu
end Go.Mz
