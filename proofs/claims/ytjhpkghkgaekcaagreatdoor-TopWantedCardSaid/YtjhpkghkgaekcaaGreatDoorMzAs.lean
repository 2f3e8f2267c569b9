/- Lemmas for the claim. -/
import Derived.Test.YtjhpkghkgaekcaaGreatDoorMzAr
import Derived.Laws.Entries
set_option linter.defProp false
namespace Go.Mz
namespace Mu
open Go
def bi(b:Bool):Int:=if b then 1 else 0
def enc(w:Wd):Int:=bi w.l+2 *bi w.w+4 *bi w.s+8 *w.c
def sG(b:Bool):0<=bi b/\bi b<=1:=by cases b <;> decide
def O3{a b:Bool}(h:bi a=bi b):a=b:=by revert h;cases a <;> cases b <;> decide
def SA{w u:Wd}(h:enc w=enc u):w=u:=by
 let⟨a,b,s,c⟩:=w;let⟨f,q,v,o⟩:=u;unfold enc at h;dsimp only at h;have:=sG a;have:=sG b;have:=sG s;have:=sG f;have:=sG q;have:=sG v;obtain rfl:=O3 (show bi a=bi f by omega);obtain rfl:=O3 (show bi b=bi q by omega);obtain rfl:=O3 (show bi s=bi v by omega);obtain rfl:c=o:=M
 rfl
def Pg(w:Wd):8 * (w.c:Int)<=enc w/\enc w<=8 *w.c+7:=by
 have:=sG w.l;have:=sG w.w;have:=sG w.s;unfold enc
 constructor <;> omega
def acg{w:Wd}:enc w=0↔w=Wd.zero:=⟨λh=>SA (h.trans V),λh=>by rw[h];decide⟩
def aiu:∀(l w s:Bool) (c:Fin 7),bits .and .i32 (enc ⟨l,w,s,c⟩) 1=bi l:=iu
def aiv:∀(l w s:Bool) (c:Fin 7),bits .and .i32 (enc ⟨l,w,s,c⟩) 2=2 *bi w:=iu
def aiw:∀(l w s:Bool) (c:Fin 7),bits .and .i32 (enc ⟨l,w,s,c⟩) 3=bi l+2 *bi w:=iu
def aix:∀(l w s:Bool) (c:Fin 7),bits .and .i32 (enc ⟨l,w,s,c⟩) 4=4 *bi s:=iu
def aiy:∀(l w s:Bool) (c:Fin 7),bits .and .i32 (enc ⟨l,w,s,c⟩) 5=bi l+4 *bi s:=iu
def aiz:∀(l w s:Bool) (c:Fin 7),bits .and .i32 (enc ⟨l,w,s,c⟩) 7=bi l+2 *bi w+4 *bi s:=iu
def or1:∀(l w s:Bool) (c:Fin 7),bits .or .i32 (enc ⟨l,w,s,c⟩) 1=enc ⟨true,w,s,c⟩:=iu
def or2:∀(l w s:Bool) (c:Fin 7),bits .or .i32 (enc ⟨l,w,s,c⟩) 2=enc ⟨l,true,s,c⟩:=iu
def aio(w:Wd):enc w+8=enc {w with c:=w.c+1}:=by unfold enc;dsimp only;omega
def ajl{w:Wd}(h:w.c≠0):enc w - 8=enc {w with c:=w.c - 1}:=by unfold enc;dsimp only;omega
def ajj{w:Wd}(h:w.l=true):enc w - 1=enc {w with l:=false}:=by unfold enc;rw[h];simp[bi];omega
def ajk{w:Wd}(o:w.l=false)(h:w.c≠0):enc w - 7=enc {w with l:=true,c:=w.c - 1}:=by unfold enc;rw[o];simp[bi];omega
def ahT{w:Wd}(o:w.l=false)(a:w.s=true)(h:w.c≠0):enc w - 11=enc {w with l:=true,s:=false,c:=w.c - 1}:=by unfold enc;rw[o,a];simp[bi];omega
end Mu
end Go.Mz
namespace Go.Mz
open Go.Conc Go.ConcN
open Go.ConcR (KK wgBlock WgAt stA smA rd wr mk Payload Aside2 DC0 Bk bk_of_mute)
namespace Mu
def Fits(T:Th)(S:Sh):Prop:=∃l,Inv l S/\T∈l/\l.length<=6
def Inv.left{l:oR}{S:Sh}(h:Inv l S){k:Nat}{T:Th}(f:l[k]?=some T)(a:T.pc=.out)(x:Nat):Inv (l.set k {T with left:=x}) S:=by
 let p:=gK fO {T with left:=x} f;let q:=gK fN {T with left:=x} f;let j:=gK fH {T with left:=x} f;let d:=gK fQ {T with left:=x} f;let r:=gK gE {T with left:=x} f;let y:=gK iQ {T with left:=x} f;let n:=gK fU {T with left:=x} f;let e:fO {T with left:=x}=fO T:=rfl;let b:fN {T with left:=x}=fN T:=rfl;let I:fH {T with left:=x}=fH T:=rfl;let w:fQ {T with left:=x}=fQ T:=rfl;let J:gE {T with left:=x}=gE T:=rfl;let s:iQ {T with left:=x}=iQ T:=rfl;let K:fU {T with left:=x}=fU T:=rfl;let⟨g,i,D,F,G,o,u⟩:=h;refine⟨λaz z=>?_,M,M,M,M,o,λa1 m t c=>by have:=u a1 m t c;omega⟩;rcases List.mem_or_eq_of_mem_set z with z | rfl
 .exact g az z
 .let v:=g T (fZ f);exact⟨v.lp,v.sq,v.c1,v.aw,v.it,v.r1,v.uc,v.fr,v.sl⟩
def Wa{l:oR}{S:Sh}{k:Nat}{T:Th}(f:l[k]?=some T)(a:T.pc=.out):meas (l.set k {T with left:=T.left+1}) S=meas l S+7 * (64+16 *l+1):=by
 let p:=gK v {T with left:=T.left+1} f;let q:=gK (loc S.w) {T with left:=T.left+1} f;let e:v {T with left:=T.left+1}=v T+7:=uR
 let m:loc S.w {T with left:=T.left+1}=loc S.w T:=by simp[loc,a]
 unfold meas;rw[Fb,show sum v (l.set k {T with left:=T.left+1})=sum v l+7 by omega,show sum (loc S.w) (l.set k {T with left:=T.left+1})=sum (loc S.w) l by omega,show sum v l+7+(S.n+S.h)=(sum v l+(S.n+S.h))+7 by omega,Nat.mul_add,Nat.mul_comm _ 7];omega
end Mu
inductive Ph where
 | idle | lk | got | Ea | hold (K:List Nat) | put | P9 | ul | fin | done
structure Ws where
 ph:Ph
 T:Mu.Th
 J:Option Nat
abbrev uW:=Nat->Ws
def Ph.deaf:Ph->Nat
 | .lk | .got | .ul | .fin=>1
 | _=>0
def Ph.eY:Ph->Nat
 | .idle=>3
 | .got=>3
 | .Ea=>2
 | .hold _=>1
 | .P9=>1
 | .fin=>4
 | .done=>2
 | _=>0
def Ph.dz:Ph->Nat
 | .done=>1
 | _=>0
def Bu(s:Ws):Prop:=match s.ph with
 | .idle | .fin | .done=>s.T.pc=.out
 | .got | .Ea | .hold _ | .put=>s.T.pc=.own
 | .P9=>s.T.pc=.u0
 | _=>True
def Ha(T:Mu.Th):Ph:=if T.pc=.own then .got else .lk
def EN(T:Mu.Th):Ph:=if T.pc=.out then .fin else .ul
abbrev N3:Mu.Th:={pc:=.out}
abbrev Xp:Ws:=⟨.idle,N3,none⟩
variable (b:bH)
def bH.yz(w:World)(S:Mu.Sh):Prop:=w.heap[b.X]?=some (b.xo (Mu.enc S.w) ((S.n+S.h:Nat):Int))
def bH.cnt(H:Nat)(c:Int):Obj:=.cells #[c] H
def bH.na:Addr:=⟨b.N,0,none⟩
def bH.Φ(H:Nat)(w:World):Prop:=WgLive b.ty b.W w/\(∃st sm,w.heap[b.X]?=b.xo st sm)/\∃c,w.heap[b.N]?=(bH.cnt H c)
def bH.KOk(K:aU):Prop:=K.Nodup/\∀i,i∈K↔i<b.len/\b.keep i=true
structure ui(X:Nat)(w w':World):Prop where
 size:w'.heap.size=w.heap.size
 block:∀k,k≠X->w'.heap[k]?=w.heap[k]?
 tape:w'.tape=w.tape
 out:w'.output=w.output
 os:HD w.os w'.os
def bH.Y5(es:gW):Prop:=
 (∀e∈es,(∀y,(MemAct.ofEvent e).touch?=some y->y.kind=.atomic/\b.mu y.loc)/\MemAct.ofEvent e≠.mark (.release (stA b.W))/\MemAct.ofEvent e≠.mark (.release b.ma))/\deafBehind 1 es=1
section
variable (e:Ws->Goroutine->LH->Prop)(s:Ws)(g:aT)(L:LH)
def bH.agW(H:Nat):Prop:=(∀i,s.J=some i->b.keep i=false)/\∀c:Nat,c<=b.len+b.n->∃g',(∀w,w.heap[b.N]?=bH.cnt H c->stepG b.P false g w=.go g' (w.setCell b.na (.int .i64 ((c:Int)+1))) #[rd b.na,wr b.na])/\
 (c<b.len->e ⟨.idle,{s.T with left:=s.T.left+1},c⟩ g' L)/\(b.len<=c->e ⟨.done,s.T,none⟩ g' L)
def bH.aih:Prop:=0<s.T.left/\(∃i,s.J=some i/\b.keep i=true)/\∃g',(∀w,stepG b.P false g w=.go g' w #[Go.ConcR.mk .disable])/\e ⟨.lk,{pc:=.l0,left:=s.T.left - 1},s.J⟩ g' L
def bH.SMu(nx:Mu.Th->Ph):Prop:=g.offers=none/\∀S w,Mu.Fits s.T S->b.yz w S->Sub L w->
 (s.ph=.lk/\s.T.pc=.s1/\S.n+S.h=0/\stepG b.P false g w=.go {g with status:=.blocked} w #[])\/
 ∃T' S' g' w' es,Mu.Step s.T S T' S'/\stepG b.P false g w=.go g' w' es/\b.yz w' S'/\ui b.X w w'/\b.Y5 es/\((S.n+S.h=0->S'.n+S'.h=0)\/(mayWake b.P g=true/\g'.status=.running))/\e ⟨nx T',T',s.J⟩ g' L
def bH.OQ(m:Mark)(p:Ph):Prop:=∃g',(∀w,stepG b.P false g w=.go g' w #[Go.ConcR.mk m])/\e {s with ph:=p} g' L
def bH.aie:Prop:=∃g',(∀w,stepG b.P false g w=.go g' w #[Go.ConcR.mk (.acquire b.ma)])/\∀K,(∀i,s.J=some i->i∉K)->e {s with ph:=.hold K} g' L
def bH.aij(K:aU):Prop:=∃i,s.J=some i/\b.keep i=true/\∀w,L b.B=none->Sub (L.put b.B (b.ob K)) w->∃g' w' es,stepG b.P false g w=.go g' w' es/\Tr (L.put b.B (b.ob K)) (L.put b.B (b.ob (K++[i]))) w w' es/\e ⟨.put,s.T,none⟩ g' L
def bH.aii:Prop:=∃g',(∀w,stepG b.P false g w=.go g' w #[Go.ConcR.mk (.releaseMerge b.ma)])/\e ⟨.P9,{s.T with pc:=.u0},s.J⟩ g' L
def bH.vg:Prop:=∃m,∀w,WgLive b.ty b.W w/\Has b.X 0 b.v0 w->Goes b.P false (RW b.ty b.W b.X 1 0 0) DC0 (AtR0 b.P b.ty b.W b.X 1 0 1 b.v0) m g w
def bH.aif(H:Nat):Prop:=g.status=.running/\match s.ph with
 | .idle=>b.agW e s g L H\/b.aih e s g L
 | .lk=>b.SMu e s g L Ha
 | .got=>b.OQ e s g L .enable .Ea
 | .Ea=>b.aie e s g L
 | .hold K=>b.aij e s g L K
 | .put=>b.aii e s g L
 | .P9=>b.OQ e s g L .disable .ul
 | .ul=>b.SMu e s g L EN
 | .fin=>b.OQ e s g L .enable .idle
 | .done=>b.vg g
end
def vO(b:bH)(H:Nat):Nat->Ws->Goroutine->LH->Prop
 | 0,_,_,_=>True
 | f+1,s,g,L=>b.aif (λs' g' L'=>Way b.P false (b.Φ H) (vO b H f s') g' L') s g L H
section
variable (H:Nat)(c:dp)(m:World)(d:Goroutine->LH->Prop)
def Xs(g:aT)(L:LH):Prop:=∃g',(∀w,stepG b.P true g w=.go g' w #[Go.ConcR.mk (.acquire (stA b.W))])/\∀K st sm,b.KOk K->L b.X=none->L b.B=none->pJ b.P c m g' ((L.put b.X (b.xo st sm)).put b.B (b.ob K))
abbrev nD(S:Goroutine->LH->Prop):=Way b.P true (b.Φ H) λg L=>g.status=.running/\S g L
def Xu(g:aT)(L:LH):Prop:=∃g',(∀w,stepG b.P true g w=.go g' w #[Go.ConcR.mk .enable])/\nD b H (Xs b c m) g' L
def BL4(g:aT)(L:LH):Prop:=∃g',(∀w,WgAt b.ty b.W w 0 0->stepG b.P true g w=.go g' w #[rd (stA b.W)])/\nD b H (Xu b H c m) g' L
def Xv(g:aT)(L:LH):Prop:=
 g.status=.running/\g.offers=none/\(∀w st,WgAt b.ty b.W w st 0->stepG b.P true g w=.go {g with status:=.blocked} w #[])/\
  ∃g',(∀w,WgAt b.ty b.W w 0 1->stepG b.P true g w=.go g' (w.setCell (smA b.W) (.int .u32 0)) (semEvents (smA b.W)))/\nD b H (BL4 b H c m) g' L
def UQ(g:aT)(L:LH):Prop:=∃g',(∀w,stepG b.P true g w=.go g' w #[Go.ConcR.mk (.write (smA b.W))])/\nD b H (Xv b H c m) g' L
def aa9(vs:Nat)(g:aT)(L:LH):Prop:=
 (∃g',(∀w,WgAt b.ty b.W w ((vs:Int) *KK) 0->stepG b.P true g w=.go g' (w.setCell (stA b.W) (.int .u64 ((vs:Int) *KK+1))) #[rd (stA b.W),wr (stA b.W)])/\nD b H (UQ b H c m) g' L)/\
  ∃g',(∀w (v:Nat),v≠vs->v<2147483648->WgAt b.ty b.W w ((v:Int) *KK) 0->stepG b.P true g w=.go g' w #[rd (stA b.W)])/\nD b H d g' L
def Y4(g:aT)(L:LH):Prop:=
 (∃g',(∀w,WgAt b.ty b.W w 0 0->stepG b.P true g w=.go g' w #[rd (stA b.W)])/\nD b H (Xu b H c m) g' L)/\
  ∀v:Nat,0<v->v<2147483648->∃g',(∀w,WgAt b.ty b.W w ((v:Int) *KK) 0->stepG b.P true g w=.go g' w #[rd (stA b.W)])/\nD b H (aa9 b H c m d v) g' L
def Xt(g:aT)(L:LH):Prop:=∃g',(∀w,stepG b.P true g w=.go g' w #[Go.ConcR.mk .disable])/\nD b H (Y4 b H c m d) g' L
def BGo(e:cg)(g:aT)(L:LH):Prop:=
 ∃g' child Lm Lc,(∀w,Sub L w->stepG b.P true g w=.spawn g' child w #[])/\
  (∀y o wr,Lm y=some (o,wr)->∃tj,L y=some (o,tj)/\(wr=true->tj=true))/\(∀y o wr,Lc y=some (o,wr)->∃tj,L y=some (o,tj)/\(wr=true->tj=true))/\
  (∀y o,Lm y=some (o,true)->Lc y=none)/\(∀y o,Lc y=some (o,true)->Lm y=none)/\(∀f,Way b.P false (b.Φ H) (vO b H f Xp) child Lc)/\e g' Lm
def BEn(e:cg)(g:aT)(L:LH):Prop:=∃g',(∀w,stepG b.P true g w=.go g' w #[Go.ConcR.mk .enable])/\nD b H (BGo b H e) g' L
def BSd(e:cg)(g:aT)(L:LH):Prop:=∃g',(∀w,stepG b.P true g w=.go g' w #[Go.ConcR.mk (.read (smA b.W))])/\nD b H (BEn b H e) g' L
def aa8(e:cg)(g:aT)(L:LH):Prop:=
 ∀v:Nat,v<2147483647->∃g',(∀w,WgAt b.ty b.W w ((v:Int) *KK) 0->stepG b.P true g w=.go g' (w.setCell (stA b.W) (.int .u64 (((v:Int)+1) *KK))) #[rd (stA b.W),wr (stA b.W)])/\
  (nD b H (BSd b H e) g' L\/nD b H (BEn b H e) g' L)
def BKd(e:cg)(g:aT)(L:LH):Prop:=∃g',(∀w,stepG b.P true g w=.go g' w #[Go.ConcR.mk .disable])/\nD b H (aa8 b H e) g' L
def B5:Nat->Goroutine->LH->Prop
 | 0=>nD b H (Xt b H c m d)
 | r+1=>nD b H (BKd b H (B5 r))
inductive jl where
 | kd (r:Nat) | add (r:Nat) | said (r:Nat) | en (r:Nat) | go (r:Nat) | Ms | ld | O8 (vs:Nat) | sdw | KD | l4 | Jd | acq
def jl.wN:jl->CTag
 | .kd r | .add r=>.sp r 5
 | .said r | .en r | .go r=>.sp r 3
 | .Ms=>.kd
 | .ld=>.w1
 | .O8 vs=>.w2 vs
 | .sdw | .KD=>.w3
 | .l4=>.w4
 | .Jd=>.ke
 | .acq=>.acq
def jl.deaf:jl->Nat
 | .kd _ | .go _ | .Ms | .acq=>0
 | _=>1
def jl.stop:jl->Goroutine->LH->Prop
 | .kd r=>BKd b H (B5 b H c m d r)
 | .add r=>aa8 b H (B5 b H c m d r)
 | .said r=>BSd b H (B5 b H c m d r)
 | .en r=>BEn b H (B5 b H c m d r)
 | .go r=>BGo b H (B5 b H c m d r)
 | .Ms=>Xt b H c m d
 | .ld=>Y4 b H c m d
 | .O8 vs=>aa9 b H c m d vs
 | .sdw=>UQ b H c m
 | .KD=>Xv b H c m
 | .l4=>BL4 b H c m
 | .Jd=>Xu b H c m
 | .acq=>Xs b c m
end
def jl.eY(n v:Nat):jl->Nat
 | .kd r=>8 *n+6 * (r+1)+34
 | .add r=>8 *n+6 * (r+1)+33
 | .said r=>8 *n+6 * (r+1)+32
 | .en r=>8 *n+6 * (r+1)+31
 | .go r=>8 *n+6 * (r+1)+30
 | .Ms=>8 *n+20
 | .ld=>8 *v+13
 | .O8 vs=>8 *vs+12
 | .sdw=>7
 | .KD=>6
 | .l4=>5
 | .Jd=>4
 | .acq=>3
def jl.ok(n j:Nat):jl->Prop
 | .kd r | .add r | .said r | .en r | .go r=>j+(r+1)=n
 | _=>j=n
structure Gh where
 j:Nat
 st:Nat->Nat
 ws:Nat->Ws
 fu:Nat->Nat
 F:Nat->Tree
 q:Nat->Nat
 mt:jl
 Ls:Nat->LH
 Sh:Nat->Prop
 o:Option Nat
 ts:List Mu.Th
 S:Mu.Sh
 c:Nat
 K:List Nat
 sv:Int
 mv:Int
structure JI(ws:Nat->Ws)(c:Nat)(K:List Nat):Prop where
 kn:K.Nodup
 ki:∀i∈K,i<c/\i<b.len/\b.keep i=true
 Ed:∀i,i<c->i<b.len->b.keep i=true->i∈K\/∃k,k<b.n/\(ws k).J=some i
 kj:∀k,k<b.n->∀i,(ws k).J=some i->i<c/\i<b.len/\i∉K/\∀k',k'<b.n->(ws k').J=some i->k'=k
 dl:∀k,k<b.n->(ws k).ph=.done->b.len<=c/\(ws k).J=none
 cb:c<=b.len+sumTo b.n λk=>(ws k).ph.dz
def Ph.owns:Ph->Bool
 | .hold _ | .put=>true
 | _=>false
structure TK(ws:Nat->Ws)(o:Option Nat)(K:List Nat):Prop where
 Gi:∀k,k<b.n->(ws k).ph.owns=true->o=some (b.base+k)
 tk1:∀k,k<b.n->∀K',(ws k).ph=.hold K'->K'=K
 W9:∀g,o=some g->∃k,k<b.n/\g=b.base+k/\(ws k).ph.owns=true
def wv(G:Gh)(k:Nat):Nat:=if k<G.j then(if G.st k=8 then 20+(G.ws k).ph.eY else G.st k) else 40
def bH.ao:Nat:=8 * (7 * (64+16 *b.n+1))+8
def bH.wi(ts:List Mu.Th)(S:Mu.Sh)(c:Nat):Nat:=8 *Mu.meas ts S+b.ao * (b.len - c)
def bH.μ(G:Gh):Nat:=b.wi G.ts G.S G.c+(sumTo b.n (wv G)+G.mt.eY b.n (Vc G.j (cB G.st)))
structure GI(G:Gh):Prop where
 jn:G.j<=b.n
 n1:1<=b.n
 n6:b.n<=6
 jm:G.mt.ok b.n G.j
 inv:Mu.Inv G.ts G.S
 LN:G.ts.length=b.n
 EM:∀k,k<b.n->G.ts[k]?=some (G.ws k).T
 pc:∀k,k<b.n->Bu (G.ws k)
 fresh:∀k,G.j<=k->k<b.n->G.ws k=Xp
 Qn:∀k,k<G.j->(1<=G.st k/\G.st k<=7)\/G.st k=8
 dn:∀k,k<G.j->G.st k<=7->(G.ws k).ph=.done
 ji:JI b G.ws G.c G.K
 tk:TK b G.ws G.o G.K
 fuel:∀k,k<G.j->G.st k=8->b.μ G<=G.fu k
 mode:ConcN.Mode G.j (cB G.st) G.mt.wN G.sv G.mv
end Go.Mz
set_option maxRecDepth 100000
namespace Go.Mz
open Go.Conc
variable {P:aV}{α:Type}{X:aM P}{n k m:Nat}{L R J:LH}{t e:bh}{w u:World}{h:α->List Value}{c:Int}{B:aX}{x:aW}{Y:Trace}{l:aH}{r:List α}{q:aU}{Q:bC}{E:cK}{j:aR}{D:bt}{d:bA}{F:Env}{g:aT}{o:bD}{C:bH}{N:Nm}{K:bI}{z:SV}{I:cj}{H:ck}
section
open Go.ConcN
open Go.ConcR (KK wgBlock WgAt stA smA rd wr Payload Aside2 DC0 Bk bk_of_mute)
def R8(c:Nat)(h:k<=n)(m:jl):m.eY c k<=m.eY c n:=by
 cases m <;> simp only[jl.eY] <;> omega
def agf{b:bH}{G:Gh}{s':Ws}(f:k<G.j)(u:G.st k=8)(y:G.j<=b.n):sumTo b.n (wv {G with ws:=upd G.ws k s'})+(G.ws k).ph.eY=sumTo b.n (wv G)+s'.ph.eY:=by
 let e:wv {G with ws:=upd G.ws k s'}=upd (wv G) k (20+s'.ph.eY):=by
  funext i
  by_cases e:i=k
  .subst e;simp[wv,upd_same,f,u]
  .simp[wv,upd_ne _ _ e]
 let q:sumTo b.n (upd (wv G) k (20+s'.ph.eY))+wv G k=sumTo b.n (wv G)+(20+s'.ph.eY):=sumTo_upd (wv G) (20+s'.ph.eY) id (by omega);let z:wv G k=20+(G.ws k).ph.eY:=by simp[wv,f,u]
 rw[e];omega
def GI.YZ{b:bH}{G:Gh}(h:GI b G)(J:k<G.j)(u:G.st k=8){s':Ws}{v:Mu.Sh}{r:bD}{f:Nat}{F':eN}{Ls':dD}{Sh':bt}
  (w:Mu.Inv (G.ts.set k s'.T) v)(y:Bu s')(x:b.wi (G.ts.set k s'.T) v m+s'.ph.eY<b.wi G.ts G.S G.c+(G.ws k).ph.eY)(a:G.fu k=f+1)
  (t:JI b (upd G.ws k s') m q)(s:TK b (upd G.ws k s') r q):
  GI b {G with ws:=upd G.ws k s',ts:=G.ts.set k s'.T,S:=v,c:=m,K:=q,o:=r,fu:=upd G.fu k f,F:=F',Ls:=Ls',Sh:=Sh'}/\
  b.μ {G with ws:=upd G.ws k s',ts:=G.ts.set k s'.T,S:=v,c:=m,K:=q,o:=r,fu:=upd G.fu k f,F:=F',Ls:=Ls',Sh:=Sh'}<b.μ G:=by
 let I:=h.jn;let p:k<b.n:=M
 let g:b.μ {G with ws:=upd G.ws k s',ts:=G.ts.set k s'.T,S:=v,c:=m,K:=q,o:=r,fu:=upd G.fu k f,F:=F',Ls:=Ls',Sh:=Sh'}<b.μ G:=by
  let d:=agf (s':=s') J u I;let z:wv {G with ws:=upd G.ws k s',ts:=G.ts.set k s'.T,S:=v,c:=m,K:=q,o:=r,fu:=upd G.fu k f,F:=F',Ls:=Ls',Sh:=Sh'}=wv {G with ws:=upd G.ws k s'}:=rfl;unfold bH.μ;rw[z];show b.wi (G.ts.set k s'.T) v m+(sumTo b.n (wv {G with ws:=upd G.ws k s'})+G.mt.eY b.n (Vc G.j (cB G.st)))<_;omega
 refine⟨{jn:=h.jn,n1:=h.n1,n6:=h.n6,jm:=h.jm,inv:=w,LN:=by simpa using h.LN,EM:=λi l=>?_,pc:=λi l=>?_,fresh:=λi d z=>?_,Qn:=h.Qn,dn:=λi d z=>?_,ji:=t,tk:=s,fuel:=λi d z=>?_,mode:=h.mode},g⟩
 .by_cases e:i=k
  .subst e;simp[upd_same];rw[E7 (by rwa[h.LN])]
  .simp[upd_ne _ _ e];rw[GG (dG e)];exact h.EM i l
 .by_cases e:i=k
  .subst e;simp only[upd_same];exact y
  .simp only[upd_ne _ _ e];exact h.pc i l
 .let e:i≠k:=by simp only at d;omega
  simp only[upd_ne _ _ e];exact h.fresh i d z
 .let e:i≠k:=by intro e;subst e;simp only at z;omega
  simp only[upd_ne _ _ e];exact h.dn i d z
 .by_cases e:i=k
  .subst e;simp only[upd_same];have:=h.fuel i J u;omega
  .simp only[upd_ne _ _ e];have:=h.fuel i d z;omega
def HS{b:bH}{ws:uW}{s':Ws}(f:k<b.n):sumTo b.n (λi=>(upd ws k s' i).ph.dz)+(ws k).ph.dz=sumTo b.n (λi=>(ws i).ph.dz)+s'.ph.dz:=by
 have q:=sumTo_upd (λi=>(ws i).ph.dz) s'.ph.dz id f;simp[id] at q;rw[<-q]
 congr 2
 funext i
 by_cases e:i=k
 .subst e;simp[upd_same]
 .simp[upd_ne _ _ e]
def JI.keep{b:bH}{ws:uW}{c:Nat}{K:aU}{s':Ws}(h:JI b ws c K)(hk:k<b.n)(hJ:s'.J=(ws k).J)(hd:s'.ph≠.done)(hd':(ws k).ph≠.done):JI b (upd ws k s') c K where
 kn:=h.kn
 ki:=h.ki
 Ed:=λi h1 h2 h3=>(h.Ed i h1 h2 h3).imp id λ⟨k',h4,h5⟩=>⟨k',h4,by
  by_cases e:k'=k
  .subst e;rwa[upd_same,hJ]
  .rwa[upd_ne _ _ e]⟩
 kj:=λk' CB i hi=>by
  let e1:∀x,(upd ws k s' x).J=(ws x).J:=λx=>by
   by_cases e:x=k
   .subst e;rw[upd_same,hJ]
   .rw[upd_ne _ _ e]
  rw[e1] at hi;let⟨h1,h2,h3,h4⟩:=h.kj k' CB i hi;exact⟨h1,h2,h3,λx hx Ec=>h4 x hx (by rwa[<-e1])⟩
 dl:=λk' CB vY=>by
  by_cases e:k'=k
  .subst e;rw[upd_same] at vY;exact ar vY hd
  .rw[upd_ne _ _ e] at vY ⊢;exact h.dl k' CB vY
 cb:=by
  let h1:=HS (ws:=ws) (s':=s') hk;let h2:=h.cb;let e1:s'.ph.dz=0:=YE
  let e2:(ws k).ph.dz=0:=Qz
  omega
def JI.draw{b:bH}{ws:uW}{c:Nat}{K:aU}{s':Ws}(h:JI b ws c K)(hk:k<b.n)(Jy:∀i,(ws k).J=some i->b.keep i=false)(hc:c<b.len)(hJ:s'.J=c)(hd:s'.ph≠.done)(hd':(ws k).ph≠.done):JI b (upd ws k s') (c+1) K where
 kn:=h.kn
 ki:=λi hi=>by let⟨h1,h2⟩:=h.ki i hi;exact⟨M,h2⟩
 Ed:=λi h1 h2 h3=>by
  by_cases e:i=c
  .subst e;exact .inr ⟨k,hk,by rw[upd_same,hJ]⟩
  .refine(h.Ed i M h2 h3).imp id λ⟨k',h4,h5⟩=>⟨k',h4,?_⟩;rwa[upd_ne _ _ (λe=>by subst e;rw[Jy i h5] at h3;cases h3)]
 kj:=λk' CB i hi=>by
  by_cases e:k'=k
  .subst e;rw[upd_same,hJ] at hi;cases hi;refine⟨M,hc,λhi=>by have:=(h.ki _ hi).1;omega,λx hx Ec=>?_⟩
   by_cases e2:x=k'
   .exact e2
   .rw[upd_ne _ _ e2] at Ec;have:=(h.kj x hx _ Ec).1;omega
  .rw[upd_ne _ _ e] at hi;let⟨h1,h2,h3,h4⟩:=h.kj k' CB i hi;refine⟨M,h2,h3,λx hx Ec=>?_⟩
   by_cases e2:x=k
   .subst e2;rw[upd_same,hJ] at Ec;cases Ec;omega
   .rw[upd_ne _ _ e2] at Ec;exact h4 x hx Ec
 dl:=λk' CB vY=>by
  by_cases e:k'=k
  .subst e;rw[upd_same] at vY;exact ar vY hd
  .rw[upd_ne _ _ e] at vY ⊢;have:=h.dl k' CB vY;omega
 cb:=by
  let h1:=HS (ws:=ws) (s':=s') hk;omega
def JI.over{b:bH}{ws:uW}{c:Nat}{K:aU}{s':Ws}(h:JI b ws c K)(hk:k<b.n)(Jy:∀i,(ws k).J=some i->b.keep i=false)(hc:b.len<=c)(hJ:s'.J=none)(hd:s'.ph=.done)(hd':(ws k).ph≠.done):JI b (upd ws k s') (c+1) K where
 kn:=h.kn
 ki:=λi hi=>by let⟨h1,h2⟩:=h.ki i hi;exact⟨M,h2⟩
 Ed:=λi h1 h2 h3=>by
  refine(h.Ed i M h2 h3).imp id λ⟨k',h4,h5⟩=>⟨k',h4,?_⟩;rwa[upd_ne _ _ (λe=>by subst e;rw[Jy i h5] at h3;cases h3)]
 kj:=λk' CB i hi=>by
  by_cases e:k'=k
  .subst e;rw[upd_same,hJ] at hi;cases hi
  .rw[upd_ne _ _ e] at hi;let⟨h1,h2,h3,h4⟩:=h.kj k' CB i hi;refine⟨M,h2,h3,λx hx Ec=>?_⟩
   by_cases e2:x=k
   .subst e2;rw[upd_same,hJ] at Ec;cases Ec
   .rw[upd_ne _ _ e2] at Ec;exact h4 x hx Ec
 dl:=λk' CB vY=>by
  by_cases e:k'=k
  .subst e;rw[upd_same];exact⟨M,hJ⟩
  .rw[upd_ne _ _ e] at vY ⊢;let⟨h1,h2⟩:=h.dl k' CB vY;exact⟨M,h2⟩
 cb:=by
  let h1:=HS (ws:=ws) (s':=s') hk;let h2:=h.cb;let e1:s'.ph.dz=1:=by rw[hd];rfl
  let e2:(ws k).ph.dz=0:=Qz
  omega
def JI.kept{b:bH}{ws:uW}{c:Nat}{K:aU}{s':Ws}(h:JI b ws c K)(hk:k<b.n){i:Nat}(hi:(ws k).J=some i)(Jy:b.keep i=true)(hJ:s'.J=none)(hd:s'.ph≠.done)(hd':(ws k).ph≠.done):JI b (upd ws k s') c (K++[i]) where
 kn:=by
  let⟨_,_,h3,_⟩:=h.kj k hk i hi;exact List.nodup_append.2 ⟨h.kn,U,λx hx y hy=>by simp at hy;subst hy;exact λe=>h3 (e▸hx)⟩
 ki:=λx hx=>by
  rcases fg.1 hx with hx | hx
  .exact h.ki x hx
  .simp at hx;subst hx;let⟨h1,h2,_,_⟩:=h.kj k hk x hi;exact⟨h1,h2,Jy⟩
 Ed:=λx h1 h2 h3=>by
  rcases h.Ed x h1 h2 h3 with h4 | ⟨k',h4,h5⟩
  .exact .inl (yT _ h4)
  .by_cases e:k'=k
   .subst e;rw[hi] at h5;cases h5;exact .inl U
   .exact .inr ⟨k',h4,by rwa[upd_ne _ _ e]⟩
 kj:=λk' CB x hx=>by
  by_cases e:k'=k
  .subst e;rw[upd_same,hJ] at hx;cases hx
  .rw[upd_ne _ _ e] at hx;let⟨h1,h2,h3,h4⟩:=h.kj k' CB x hx;refine⟨h1,h2,λhm=>?_,λy hy hyx=>?_⟩
   .rcases fg.1 hm with hm | hm
    .exact h3 hm
    .simp at hm;subst hm;exact e (h4 k hk hi).symm
   .by_cases e2:y=k
    .subst e2;rw[upd_same,hJ] at hyx;cases hyx
    .rw[upd_ne _ _ e2] at hyx;exact h4 y hy hyx
 dl:=λk' CB vY=>by
  by_cases e:k'=k
  .subst e;rw[upd_same] at vY;exact ar vY hd
  .rw[upd_ne _ _ e] at vY ⊢;exact h.dl k' CB vY
 cb:=by
  let h1:=HS (ws:=ws) (s':=s') hk;let h2:=h.cb;let e1:s'.ph.dz=0:=YE
  let e2:(ws k).ph.dz=0:=Qz
  omega
def JI.bound{u:uW}(h:JI C u k q):k<=C.len+C.n:=by
 let v:=h.cb;let z:sumTo C.n (λd=>(u d).ph.dz)<=C.n:=by
  have:∀m,sumTo m (λd=>(u d).ph.dz)<=m:=by
   intro m
   induction m with
   | zero=>exact dA _
   | succ m l=>
    have:(u m).ph.dz<=1:=by cases(u m).ph <;> simp[Ph.dz]
    simp[sumTo];omega
  exact this _
 omega
def JI.end{u:uW}(h:JI C u k q)(y:1<=C.n)(a:∀d,d<C.n->(u d).ph=.done):C.KOk q:=by
 have f:=(h.dl 0 M (a 0 M)).1;refine⟨h.kn,λi=>⟨λo=>(h.ki i o).2,λ⟨t,z⟩=>?_⟩⟩;rcases h.Ed i M t z with r | ⟨d,v,r⟩
 .exact r
 .rw[(h.dl d v (a d v)).2] at r;cases r
def TK.keep{b:bH}{ws:uW}{K:aU}{s':Ws}(h:TK b ws o K)(h1:(ws k).ph.owns=false)(h2:s'.ph.owns=false):TK b (upd ws k s') o K where
 Gi:=λi hi hp=>by
  by_cases e:i=k
  .subst e;rw[upd_same,h2] at hp;cases hp
  .rw[upd_ne _ _ e] at hp;exact h.Gi i hi hp
 tk1:=λi hi K' hp=>by
  by_cases e:i=k
  .subst e;rw[upd_same] at hp;rw[hp] at h2;cases h2
  .rw[upd_ne _ _ e] at hp;exact h.tk1 i hi K' hp
 W9:=λg hg=>by
  let⟨i,hi,e1,e2⟩:=h.W9 g hg;let e:i≠k:=λe=>by subst e;rw[h1] at e2;cases e2
  exact⟨i,hi,e1,by rwa[upd_ne _ _ e]⟩
def TK.take{b:bH}{ws:uW}{K:aU}{s':Ws}(h:TK b ws none K)(hk:k<b.n)(hs:s'.ph=.hold K):TK b (upd ws k s') (some (b.base+k)) K where
 Gi:=λi hi hp=>by
  by_cases e:i=k
  .subst e;rfl
  .rw[upd_ne _ _ e] at hp;have:=h.Gi i hi hp;cases this
 tk1:=λi hi K' hp=>by
  by_cases e:i=k
  .subst e;rw[upd_same,hs] at hp;cases hp;rfl
  .rw[upd_ne _ _ e] at hp;have:=h.Gi i hi (by rw[hp];rfl);cases this
 W9:=λg hg=>by
  cases hg;exact⟨k,hk,rfl,by rw[upd_same,hs];rfl⟩
def TK.qL{b:bH}{ws:uW}{K:aU}{s':Ws}(h:TK b ws ↑(b.base+k) K)(hk:k<b.n)(hs:s'.ph=.put)(K2:aU):TK b (upd ws k s') ↑(b.base+k) K2 where
 Gi:=λi hi hp=>by
  by_cases e:i=k
  .subst e;rfl
  .rw[upd_ne _ _ e] at hp;exact h.Gi i hi hp
 tk1:=λi hi K' hp=>by
  by_cases e:i=k
  .subst e;rw[upd_same,hs] at hp;cases hp
  .rw[upd_ne _ _ e] at hp;have:=h.Gi i hi (by rw[hp];rfl);simp at this;exact ar this.symm e
 W9:=λg hg=>by
  cases hg;exact⟨k,hk,rfl,by rw[upd_same,hs];rfl⟩
def TK.give{b:bH}{ws:uW}{K:aU}{s':Ws}(h:TK b ws (some (b.base+k)) K)(hs:s'.ph.owns=false)(K2:aU):TK b (upd ws k s') none K2 where
 Gi:=λi hi hp=>by
  by_cases e:i=k
  .subst e;rw[upd_same,hs] at hp;cases hp
  .rw[upd_ne _ _ e] at hp;have:=h.Gi i hi hp;simp at this;exact ar this.symm e
 tk1:=λi hi K' hp=>by
  by_cases e:i=k
  .subst e;rw[upd_same] at hp;rw[hp] at hs;cases hs
  .rw[upd_ne _ _ e] at hp;have:=h.Gi i hi (by rw[hp];rfl);simp at this;exact ar this.symm e
 W9:=λg hg=>by cases hg
def Wc{b:bH}{z f:List Mu.Th}{S v:Mu.Sh}{c:Nat}(h:Mu.meas f v<Mu.meas z S):b.wi f v c+8<=b.wi z S c:=by
 unfold bH.wi;omega
def aaf{b:bH}{z f:List Mu.Th}{S:Mu.Sh}(o:z=b.n)(h:Mu.meas f S=Mu.meas z S+7 * (64+16 *z+1))(v:k<b.len):b.wi f S (k+1)<b.wi z S k:=by
 unfold bH.wi;rw[h,o];let e:b.len - k=(b.len - (k+1))+1:=M
 let q:b.ao * (b.len - (k+1)+1)=b.ao * (b.len - (k+1))+b.ao:=Nat.mul_succ _ _;let u:b.ao=8 * (7 * (64+16 *b.n+1))+8:=rfl;rw[e,q];omega
def pE{x:α}(h:r[k]?=some x):r.set k x=r:=by
 apply yU;intro i
 by_cases e:k=i
 .subst e;rw[E7 (eO.1 h).1,h]
 .rw[GG e]
def GI.free{G:Gh}(h:GI C G)(f:k<C.n)(q:(G.ws k).T.pc=.own)(z:(G.ws k).ph.owns=false):G.o=none:=by
 cases j:G.o with
 | none=>rfl
 | some g=>
  let⟨i,v,_,a⟩:=h.tk.W9 g j;let e:i≠k:=λe=>by subst e;rw[z] at a;cases a
  let u:=h.pc i v;let y:(G.ws i).T.pc=.own:=by
   unfold Bu at u;cases m:(G.ws i).ph <;> rw[m] at a u <;> first | (cases a;done) | exact u
  exact(h.inv.aiS e (h.EM i v) (h.EM k f) (.inl y) (.inl q)).elim
def GI.fits{G:Gh}(h:GI C G)(f:k<C.n):Mu.Fits (G.ws k).T G.S:=⟨G.ts,h.inv,fZ (h.EM k f),by rw[h.LN];exact h.n6⟩
def GI.G4{G:Gh}(h:GI C G)(f:k<C.n):Mu.Good (G.ws k).T:=h.inv.G4 _ (fZ (h.EM k f))
def GI.ahj{G:Gh}(h:GI C G)(v:k<G.j)(u:G.st k=8):∃f,G.fu k=f+1:=by
 let q:=h.fuel k v u;let z:20<=C.μ G:=by
  let r:=le_sumTo (f:=wv G) (lg v h.jn);let x:wv G k=20+(G.ws k).ph.eY:=by simp[wv,v,u]
  unfold bH.μ;omega
 exact⟨G.fu k - 1,M⟩
section
section
variable (b:bH)(nt:Nat)(Post:dp)(W0:World)(Anch:Goroutine->LH->Prop)
inductive BW:Nat->Ws->Nat->Tree->Nat->Goroutine->LH->World->Prop
 | own {s:Ws} {f:Nat} {T:Tree} {g:Goroutine} {L:LH} {w:World}:At b.P false (b.Φ nt) (vO b nt (f+1) s) T g L->BW 8 s (f+1) T s.ph.deaf g L w
 | blk {s:Ws} {f:Nat} {g:Goroutine} {L:LH} {w:World}:s.ph=.lk->s.T.pc=.s1->vO b nt (f+1) s g L->BW 8 s (f+1) .leaf 1 {g with status:=.blocked} L w
 | dn {s:Ws} {f m:Nat} {g:Goroutine} {L:LH} {w:World}:Goes b.P false (RW b.ty b.W b.X 1 0 0) DC0 (AtR0 b.P b.ty b.W b.X 1 0 1 b.v0) m g w->BW 7 s f (Tree.num m) 0 g L w
 | iC {st:Nat} {s:Ws} {f m d:Nat} {g:Goroutine} {L:LH} {w:World}:st<=6->qC b.P b.ty b.W b.X b.v0 st m d g w->BW st s f (Tree.num m) d g L w
def HB(m:jl)(T:Tree)(d:Nat)(g:aT)(L:LH):Prop:=
 (At b.P true (b.Φ nt) (λg L=>g.status=.running/\m.stop b nt Post W0 Anch g L) T g L/\d=m.deaf)\/(m=.KD/\T=.leaf/\d=1/\∃g0,g={g0 with status:=.blocked}/\Xv b nt Post W0 g0 L)
structure gO(S0:Nat->Prop)(n0:Nat)(gs:Array Goroutine)(w:World)(t:Trace)(G:Gh):Prop where
 ok:b.Ok S0
 gi:GI b G
 size:gs.size=b.base+G.j
 eJ:1<=b.base
 old:∀i g,0<i->i<b.base->gs[i]?=some g->QuitsD b.P (G.q i) (Deaf t i) g/\G.F i=Tree.num (G.q i)
 wk:∀k,k<G.j->∃g,gs[b.base+k]?=some g/\BW b nt (G.st k) (G.ws k) (G.fu k) (G.F (b.base+k)) (Deaf t (b.base+k)) g (G.Ls (b.base+k)) w
 mn:∃g,gs[0]?=some g/\HB b nt Post W0 Anch G.mt (G.F 0) (Deaf t 0) g (G.Ls 0)
 above:∀i,gs.size<=i->Deaf t i=0
 ti:nV b S0 n0 gs.size G.Ls G.Sh G.o w t
 same:mI W0 w
 wg:WgAt b.ty b.W w G.sv G.mv
 nC:b.yz w G.S
 cat:w.heap[b.N]?=some (bH.cnt nt G.c)
 nK:w.heap[b.B]?=some (b.ob G.K)
 bm:∀g,gs[0]?=some g->g.status=.blocked->G.mv=0
 bw:∀k g,k<G.j->gs[b.base+k]?=some g->g.status=.blocked->G.S.n+G.S.h=0
 rel:∀k,k<G.j->G.st k<=6->∃r,n0<=r/\MP b.W t (b.base+k) r
end
def nb(gs:dr)(i:Nat):Nat:=match gs[i]? with
 | some g=>if g.status==.blocked then 0 else 1
 | none=>0
def O5(b:bH)(G:Gh)(gs:dr):MO:=((b.μ G,G.F),sumTo gs.size (nb gs))
def BInv(b:bH)(nt:Nat)(Post:dp)(W0:World)(Anch:cg)(S0:bt)(n0:Nat)(μ:MO)(m:Machine)(t:Trace):Prop:=
 ∃gs w sl G,m=crowd gs w sl/\gO b nt Post W0 Anch S0 n0 gs w t G/\μ=O5 b G gs
def Bh(b:bH)(nt:Nat)(Post:dp)(W0:World)(Anch:cg)(S0:bt)(n0:Nat)(gs:dr)(w:World)(t:Trace)(G:Gh)(sl:gw)(x:Nat):Prop:=
 ∃m' ops vd,runT b.P (crowd gs w sl) x=(.next m',ops)/\pO (b.base+b.n) vd (O5 b G gs)/\BInv b nt Post W0 Anch S0 n0 vd m' (t++ops)
variable {b:bH}{nt:Nat}{Post:dp}{W0:World}{Anch:Goroutine->LH->Prop}
def vO.run{s:Ws}(h:vO b nt (n+1) s g L):g.status=.running:=h.1
def vO.offers{s:Ws}(h:vO b nt (n+1) s g L)(a:s.ph=.lk):g.offers=none:=by
 have:=h.2;rw[a] at this;exact this.1
def oW(P:aV)(g g':aT):Bool:=mayWake P g&&g'.status !=.blocked&&g'.status !=.waiting
def Gq(P:aV)(g l:aT)(c:World)(y:aT):woken P g l c y=if oW P g l=true then y.again c else y:=rfl
def II(w:World)(b:g.status=.running)(j:g.offers=none):({g with status:=.blocked}:Goroutine).again w=g:=by
 cases g
 simp_all [Goroutine.again]
def BW.woken{s:Ws}{T:Tree}(h:BW b nt n s k T m g L w)(a u:aT)(c:World):
  BW b nt n s k T m (woken b.P a u c g) L w/\((woken b.P a u c g).status=.blocked->g.status=.blocked/\oW b.P a u=false):=by
 let f:(g.status=.running\/g.status=.finished)->BW b nt n s k T m (Go.Conc.woken b.P a u c g) L w/\((Go.Conc.woken b.P a u c g).status=.blocked->g.status=.blocked/\oW b.P a u=false):=by
  intro e;rw[qA e];exact⟨h,λq=>by rcases e with e | e <;> rw[e] at q <;> cases q⟩
 cases h with
 | own h=>exact f (.inl (h.running λ_ _ x=>x.run))
 | @blk s k g L w hp hs hl=>
  rw[Gq]
  by_cases e:oW b.P a u=true
  .rw[ax e,II _ hl.run (hl.offers hp)];have:s.ph.deaf=1:=by rw[hp];rfl
   refine⟨?_,λq=>by rw[hl.run] at q;cases q⟩;let z:=BW.own (w:=w) (At.J4 hl);rw[this] at z;exact z
  .rw[A e];exact⟨.blk hp hs hl,λ_=>⟨rfl,xQ⟩⟩
 | dn h=>exact f (.inl (Goes.running (λ_ _ x=>x.1) _ (RW.refl _) h))
 | iC _ h=>exact f (WSit.status h)
def HB.woken{m:jl}{T:Tree}(h:HB b nt Post W0 Anch m T n g L)(a f:aT)(c:World):
  HB b nt Post W0 Anch m T n (woken b.P a f c g) L/\((woken b.P a f c g).status=.blocked->g.status=.blocked/\oW b.P a f=false):=by
 rcases id h with⟨h1,h2⟩ | ⟨rfl,rfl,rfl,g0,rfl,hs⟩
 .have e:=h1.running λ_ _ x=>x.1;rw[qA (.inl e)];exact⟨h,λq=>by rw[e] at q;cases q⟩
 .rw[Gq]
  by_cases e:oW b.P a f=true
  .rw[ax e,II _ hs.1 hs.2.1];exact⟨.inl ⟨.J4 ⟨hs.1,hs⟩,rfl⟩,λq=>by rw[hs.1] at q;cases q⟩
  .rw[A e];exact⟨.inr ⟨rfl,rfl,rfl,g0,rfl,hs⟩,λ_=>⟨rfl,xQ⟩⟩
def bH.Φ.has(d:b.Ok D)(h:b.Φ nt w):Has b.X 0 b.v0 w/\¬PayAt b.X 1 w:=by
 obtain⟨_,⟨r,v,j⟩,_⟩:=h;obtain⟨c,e,t,u,_,_,_,_,f,a⟩:=d.xm r v;rw[u] at j;refine⟨?_,λ⟨i,q,z⟩=>?_⟩
 .unfold Has World.cell?;rwa[show(⟨b.X,0,none⟩:Addr).block=b.X from rfl,j]
 .rw[j] at q;cases q;omega
def bH.Φ.rw(d:b.Ok D)(h:b.Φ nt w)(p:b.Φ nt u):RW b.ty b.W b.X 1 0 0 w u:=
 ⟨λ_ d=>ar d (nW _),λ_=>p.1,λa=>ar a (h.has d).2,(p.has d).1.trans (h.has d).1.symm⟩
def BW.rely(d:b.Ok D){s:Ws}{T:Tree}(h:BW b nt n s k T m g L w)(i:b.Φ nt w)(v:b.Φ nt u):BW b nt n s k T m g L u:=by
 have f:∀a c m,RW b.ty b.W b.X 1 0 0 a c->RW b.ty b.W b.X 1 0 0 c m->RW b.ty b.W b.X 1 0 0 a m:=λ_ _ _ q z=>q.trans z;cases h with
 | own h=>exact .own h
 | blk q z h3=>exact .blk q z h3
 | dn h=>exact .dn (Goes.rely f h (i.rw d v))
 | iC h6 h=>exact .iC h6 (WSit.rely h (i.rw d v))
structure agS(b:bH)(nt:Nat)(Post:Value->World->Prop)(W0:World)(Anch:Goroutine->LH->Prop)(S0:Nat->Prop)(n0:Nat)(gs:Array Goroutine)(w:World)(t:Trace)(G:Gh)(x:Nat)(g g':Goroutine)(w':World)(es:Array Event)(G':Gh):Prop where
 j:G'.j=G.j
 gi:GI b G'
 En:∀i,i≠x->G'.F i=G.F i/\G'.Ls i=G.Ls i/\G'.q i=G.q i
 BO:∀k,k<G.j->b.base+k≠x->G'.st k=G.st k/\G'.ws k=G.ws k/\G'.fu k=G.fu k
 Eo:x≠0->G'.mt=G.mt
 so:0<x->x<b.base->QuitsD b.P (G'.q x) (deafBehind (Deaf t x) es) g'/\G'.F x=Tree.num (G'.q x)
 sw:∀k,k<G.j->x=b.base+k->BW b nt (G'.st k) (G'.ws k) (G'.fu k) (G'.F x) (deafBehind (Deaf t x) es) g' (G'.Ls x) w'
 sm:x=0->HB b nt Post W0 Anch G'.mt (G'.F 0) (deafBehind (Deaf t 0) es) g' (G'.Ls 0)
 ti:nV b S0 n0 gs.size G'.Ls G'.Sh G'.o w' (t++MemOp.ofEvents x g.frame.fn g.frame.place es)
 same:mI W0 w'
 wg:WgAt b.ty b.W w' G'.sv G'.mv
 nC:b.yz w' G'.S
 cat:w'.heap[b.N]?=some (bH.cnt nt G'.c)
 nK:w'.heap[b.B]?=some (b.ob G'.K)
 mv:(G.mv=0->G'.mv=0)\/oW b.P g g'=true
 sn:(G.S.n+G.S.h=0->G'.S.n+G'.S.h=0)\/oW b.P g g'=true
 sb:g'.status=.blocked->(x=0->G'.mv=0)/\(x≠0->G'.S.n+G'.S.h=0)
 rel:∀k,k<G.j->x=b.base+k->G'.st k<=6->∃r,n0<=r/\MP b.W (t++MemOp.ofEvents x g.frame.fn g.frame.place es) x r
 lt:b.μ G'<b.μ G\/(b.μ G'=b.μ G/\(Tree.sub (G'.F x) (G.F x)\/(G'.F x=G.F x/\g.status=.running/\g'.status=.blocked)))
def gO.qL{s:dr}{G:Gh}(h:gO b nt Post W0 Anch D n s w Y G){l:aT}{q:gW}(sl:gw)(C:s[k]?=g)(u1:stepG b.P (k==0) g w=.go l u q)(G':Gh)
  (a:agS b nt Post W0 Anch D n s w Y G k g l u q G'):Bh b nt Post W0 Anch D n s w Y G sl k:=by
 let x:=(iL.1 C).1;let B:=runT_crowd_go (sl:=sl) C u1;let u2:=h.size;let m:=h.gi.jn;let hu:∀H∈MemOp.ofEvents k g.frame.fn g.frame.place q,H.g=k/\∃e∈q,H.act=.ofEvent e:=λH S=>by
  let⟨e,he,C⟩:=Go.Conc.mem_ofEvents S;rw[C];exact⟨rfl,e,he,rfl⟩
 let o:((s.map (woken b.P g l u)).setIfInBounds k l).size=s.size:=U
 let v:((s.map (woken b.P g l u)).setIfInBounds k l)[k]?=l:=by rw[oZ Lu]
 let get:∀i,i≠k->((s.map (woken b.P g l u)).setIfInBounds k l)[i]?=(s[i]?).map (woken b.P g l u):=λi K=>by
  rw[jI (dG K),yn]
 let Q:∀i,i≠k->Deaf (Y++MemOp.ofEvents k g.frame.fn g.frame.place q) i=Deaf Y i:=λi K=>Deaf_other Y (dG K) _ λH S=>(hu H S).1;let T:Deaf (Y++MemOp.ofEvents k g.frame.fn g.frame.place q) k=deafBehind (Deaf Y k) q:=Deaf_own Y k _ _ q;refine⟨_,_,_,B,?_,_,u,sl,G',rfl,?_,rfl⟩
 .unfold O5 pO;rcases a.lt with W | ⟨E,W | ⟨u3,hr,d⟩⟩
  .exact Prod.Lex.left _ _ (Prod.Lex.left _ _ W)
  .rw[E];exact Prod.Lex.left _ _ (Prod.Lex.right _ ⟨k,M,W,λi K=>(a.En i K).1⟩)
  .rw[E];let e2:G'.F=G.F:=funext λi=>by
    by_cases e:i=k
    .rw[e];exact u3
    .exact(a.En i e).1
   rw[e2];refine Prod.Lex.right _ ?_;rw[o];let hw:oW b.P g l=false:=by unfold oW;rw[d];simp
   let X:∀i,i≠k->((s.map (woken b.P g l u)).setIfInBounds k l)[i]?=s[i]?:=λi K=>by
    rw[get i K];cases s[i]? with
    | none=>rfl
    | some y=>simp only[mg];rw[Gq,hw];rfl
   refine vI x (λi _=>?_) ?_
   .by_cases e:i=k
    .subst e;unfold nb;rw[v,C];simp[d,hr]
    .unfold nb;rw[X i e];exact dA _
   .unfold nb;rw[v,C];simp[d,hr]
 .refine{ok:=h.ok,gi:=a.gi,size:=by rw[o,a.j];exact u2,eJ:=h.eJ,old:=λi y h0 R t=>?_,wk:=λc f=>?_,mn:=?_,above:=λi K=>?_,ti:=by rw[o];exact a.ti,same:=a.same,wg:=a.wg,nC:=a.nC,cat:=a.cat,nK:=a.nK,bm:=λy t d=>?_,bw:=λc y f t d=>?_,rel:=λc f I=>?_}
  .by_cases e:i=k
   .subst e;rw[v] at t;cases t;rw[T];exact a.so h0 R
   .rw[get i e] at t;obtain⟨z,p,rfl⟩:=il.1 t;obtain⟨J,h3⟩:=h.old i z h0 R p;obtain⟨e1,_,e3⟩:=a.En i e;rw[woken_quitsD J,Q i e,e1,e3];exact⟨J,h3⟩
  .rw[a.j] at f
   by_cases e:b.base+c=k
   .refine⟨l,by rw[e];exact v,?_⟩;rw[e,T];exact a.sw c f e.symm
   .obtain⟨z,p,I⟩:=h.wk c f;obtain⟨e1,e2,_⟩:=a.En _ e;obtain⟨f1,f2,f3⟩:=a.BO c f e;refine⟨_,by rw[get _ e,p];rfl,?_⟩;rw[f1,f2,f3,e1,e2,Q _ e];exact(I.woken g l u).1.rely h.ok ⟨⟨_,_,h.wg⟩,⟨_,_,h.nC⟩,⟨_,h.cat⟩⟩ ⟨⟨_,_,a.wg⟩,⟨_,_,a.nC⟩,⟨_,a.cat⟩⟩
  .by_cases e:0=k
   .subst e;refine⟨l,v,?_⟩;rw[T];exact a.sm rfl
   .obtain⟨z,p,I⟩:=h.mn;obtain⟨e1,e2,_⟩:=a.En _ e;refine⟨_,by rw[get _ e,p];rfl,?_⟩;rw[a.Eo (dG e),e1,e2,Q _ e];exact(I.woken g l u).1
  .rw[o] at K;rw[Q i M];exact h.above i K
  .by_cases e:0=k
   .subst e;rw[v] at t;cases t;exact(a.sb d).1 rfl
   .obtain⟨z,p,I⟩:=h.mn;rw[get _ e,p] at t;cases t;obtain⟨R,J⟩:=(I.woken g l u).2 d;rcases a.mv with h3 | h3
    .exact h3 (h.bm z p R)
    .rw[h3] at J;cases J
  .rw[a.j] at f
   by_cases e:b.base+c=k
   .rw[e,v] at t;cases t;exact(a.sb d).2 (by have:=h.eJ;omega)
   .obtain⟨z,p,I⟩:=h.wk c f;rw[get _ e,p] at t;cases t;obtain⟨R,J⟩:=(I.woken g l u).2 d;rcases a.sn with h3 | h3
    .exact h3 (h.bw c z f p R)
    .rw[h3] at J;cases J
  .rw[a.j] at f
   by_cases e:b.base+c=k
   .rw[e];exact a.rel c f e.symm I
   .rw[(a.BO c f e).1] at I;obtain⟨r,R,J⟩:=h.rel c f I;exact⟨r,R,J.app (J.1.appOther (λH S=>(hu H S).1) (dG e)) λH S hg=>ar (hg.symm.trans (hu H S).1) e⟩
end
def Ez(w:World)(x:Nat)(o:Obj):World:={w with heap:=w.heap.setIfInBounds x o}
def oN{o:Obj}(h:n<w.heap.size):(Ez w n o).heap[n]?=some o:=by
 show(w.heap.setIfInBounds n o)[n]?=_;rw[oZ h]
def qu{o:Obj}(h:k≠n):(Ez w n o).heap[k]?=w.heap[k]?:=by
 show(w.heap.setIfInBounds n o)[k]?=_;rw[jI (dG h)]
def jE{a:Addr}{c:aK}{t:km}(h:w.heap[a.block]?=some (.cells c e t)):w.cell? a=if a.spot.isSome then none else c[a.off]?:=by
 unfold World.cell?;rw[h]
def bH.BQ(d:C.Ok D)(h:C.Φ n w){a:Addr}{v:Value}(o:∀w,C.Φ n w->w.cell? a=some v):a.block=C.X/\¬C.mu (.cell a):=by
 obtain⟨⟨s1,k,i⟩,⟨r,K,j⟩,⟨c,x⟩⟩:=id h;have b:=(iL.1 (i)).1;have l:=(iL.1 j).1;have I:=(iL.1 x).1;have f:=o w h
 by_cases e:a.block=C.X
 .refine⟨e,λJ=>?_⟩;obtain⟨c0,e0,R,t,S,T,B,m,_⟩:=d.xm r K;obtain⟨c1,p,F,g,_,E,_,q4,_⟩:=d.xm (r+1) (K+1);have q:=o (Ez w C.X (C.xo (r+1) (K+1))) ⟨⟨s1,k,(qu d.wx).trans i⟩,⟨_,_,oN l⟩,⟨c,(qu d.nx).trans x⟩⟩;rw[t] at j;have G:(Ez w C.X (C.xo (r+1) (K+1))).heap[a.block]?=some (.cells c1 p F):=by rw[e,oN l,g]
  rw[jE (by rwa[e])] at f;rw[jE G] at q;rcases J with J | J
  .cases J;rw[S] at f q;simp[Option.isSome_none,iM,if_false] at f q;rw[T] at f;rw[E] at q;cases f;simp at q;omega
  .cases J;rw[B] at f q;simp[Option.isSome_none,iM,if_false] at f q;rw[m] at f;rw[q4] at q;cases f;simp at q;omega
 .exfalso
  by_cases H:a.block=C.W
  .have q:=o (Ez w C.W (wgBlock C.ty (s1+1) (k+1))) ⟨⟨_,_,oN b⟩,⟨_,_,(qu (dG d.wx)).trans j⟩,⟨c,(qu (dG d.wn)).trans x⟩⟩;rw[jE (by rwa[H])] at f;rw[jE (by rw[H];exact oN b)] at q;obtain⟨bl,off,z⟩:=a;cases z with
   | some s=>simp at f
   | none=>
    match off,f,q with
    | 0,f,q=>simp at f q;rw[<-f] at q;simp at q;omega
    | 1,f,q=>simp at f q;rw[<-f] at q;simp at q;omega
    | off+2,f,q=>simp at f
  .by_cases Q:a.block=C.N
   .have q:=o (Ez w C.N (bH.cnt n (c+1))) ⟨⟨s1,k,(qu d.wn).trans i⟩,⟨_,_,(qu (dG d.nx)).trans j⟩,⟨_,oN I⟩⟩;rw[jE (by rw[Q];exact x)] at f;rw[jE (by rw[Q];exact oN I)] at q;obtain⟨bl,off,z⟩:=a;cases z with
    | some s=>simp at f
    | none=>
     match off,f,q with
     | 0,f,q=>simp at f q;rw[<-f] at q;simp at q;omega
     | off+1,f,q=>simp at f
   .have q:=o (Ez w a.block (.cells #[] 0 (0,0))) ⟨⟨s1,k,(qu (dG H)).trans i⟩,⟨_,_,(qu (dG e)).trans j⟩,⟨c,(qu (dG Q)).trans x⟩⟩;have hl:a.block<w.heap.size:=by
     unfold World.cell? at f;cases u:w.heap[a.block]? with
     | none=>rw[u] at f;cases f
     | some y=>exact(iL.1 u).1
    rw[jE (oN hl)] at q;cases hs:a.spot <;> simp[hs] at q
def GI.To{G:Gh}(h:GI C G)(d:eN)(t:dD)(p:bt)(u:bP):GI C {G with F:=d,Ls:=t,Sh:=p,q:=u}:=
 ⟨h.jn,h.n1,h.n6,h.jm,h.inv,h.LN,h.EM,h.pc,h.fresh,h.Qn,h.dn,h.ji,h.tk,h.fuel,h.mode⟩
def gO.Φ{q:dp}{p:cg}{c:dr}{G:Gh}(h:gO C n q u p D k c w Y G):C.Φ n w:=⟨⟨_,_,h.wg⟩,⟨_,_,h.nC⟩,⟨_,h.cat⟩⟩
def gO.lt_size{q:dp}{p:cg}{c:dr}{G:Gh}(h:gO C n q u p D m c w Y G)(f:k<G.j):C.base+k<c.size:=by rw[h.size];omega
def gO.J9{o:dp}{p:cg}{K:dr}{G:Gh}(h:gO C n o u p D k K w Y G)(f:0<m)(H:m<C.base)(b:gw)(I:K[m]?=some g)(v:g.status=.running):Bh C n o u p D k K w Y G b m:=by
  let⟨J,S⟩:=h.old m g f H I;let Q:(m==0)=false:=bU
  cases x:G.q m with
  | zero=>rw[x] at J;rw[J.1] at v;cases v
  | succ d=>
    rw[x] at J;rcases J with⟨hf,_⟩ | ⟨_,g',es,hm,wT,Mt⟩
    · rw[hf] at v;cases v
    let y:∀e∈es,(MemAct.ofEvent e).touch?=none:=λe z=>touch_mute (hm e z);let t:∀r∈MemOp.ofEvents m g.frame.fn g.frame.place es,r.act.touch?=none/\∀a,r.act≠.mark (.release a):=λr l=>by
      let⟨e,z,I⟩:=Go.Conc.mem_ofEvents l;rw[I];refine⟨y e z,λa s=>?_⟩;have:=hm e z;let⟨loc,wr,T⟩:=e;cases loc with
      | mark d=>cases d <;> simp_all [Event.mute,MemAct.ofEvent]
      | _=>simp[Event.mute] at this
    refine h.qL b I (by rw[Q];exact wT w) {G with F:=upd G.F m (Tree.num d),Ls:=G.Ls,Sh:=G.Sh,q:=upd G.q m d}
      {j:=rfl,gi:=h.gi.To _ _ _ _,En:=λi R=>⟨upd_ne _ _ R,rfl,upd_ne _ _ R⟩,BO:=λ_ _ _=>⟨rfl,rfl,rfl⟩,Eo:=λ_=>rfl,
        so:=λ_ _=>?_,sw:=λc _ e=>by omega,sm:=λe=>by omega,ti:=h.ti.mute h.ok (.refl _ _) (λr l=>(t r l).1) λr l=>⟨(t r l).2 _,(t r l).2 _⟩,same:=h.same,wg:=h.wg,nC:=h.nC,cat:=h.cat,nK:=h.nK,
        mv:=.inl id,sn:=.inl id,sb:=λH=>?_,rel:=λc _ e=>by omega,lt:=.inr ⟨rfl,.inl ?_⟩}
    · show QuitsD C.P (upd G.q m d m) _ g'/\upd G.F m (Tree.num d) m=Tree.num (upd G.q m d m)
      rw[upd_same,upd_same];exact⟨Mt,rfl⟩
    · have:=Mt.status
      rw[H] at this;rcases this with e | e <;> cases e
    · show Tree.sub (upd G.F m (Tree.num d) m) _
      rw[upd_same,S,x];exact Tree.Aa w d
def gO.wU{x:dp}{p:cg}{gs:dr}{G:Gh}(h:gO C n x u p D k gs w Y G)(sl:gw)(B:gs[m]?=some g)(r:C.Pt gs.size m){K:Tree->Goroutine->LH->Prop}
    (hs:RI C.P (m==0) (C.Φ n) g (G.Ls m) λl I=>∃s,K s l I/\Tree.sub s (G.F m))(hr:∀s l I,K s l I->l.status=.running)
    (H:∀c,c<G.j->m=C.base+c->G.st c=8/\∀s l I w',K s l I->BW C n (G.st c) (G.ws c) (G.fu c) s (Deaf Y m) l I w')
    (b:m=0->∀s l I,K s l I->HB C n x u p G.mt s (Deaf Y 0) l I):Bh C n x u p D k gs w Y G sl m:=by
  let Q:=h.ti.res;rcases hs with hs | ⟨a,v,l,es,E,Z3,d,s,T,J⟩
  · let⟨l,w',es,I,d,R,s,T,J⟩:=hs w (Q.sub m) h.Φ
    let hd:=R.deaf (Deaf Y m);let o:∀y,G.Sh y->w'.heap[y]?=w.heap[y]?:=λy X=>R.keep y (Q.ml y X) (Q.sh m y X);refine h.qL sl B d {G with F:=upd G.F m s,Ls:=upd G.Ls m I,Sh:=G.Sh,q:=G.q}
      {j:=rfl,gi:=h.gi.To _ _ _ _,En:=λi hi=>⟨upd_ne _ _ hi,upd_ne _ _ hi,rfl⟩,BO:=λ_ _ _=>⟨rfl,rfl,rfl⟩,Eo:=λ_=>rfl,
        so:=λh1 h2=>by unfold bH.Pt at r;omega,sw:=λc f e=>?_,sm:=λe=>?_,ti:=h.ti.own h.ok r R _ _,same:=h.same.tr R,
        wg:=(o _ h.ti.sO).trans h.wg,nC:=(o _ h.ti.EA).trans h.nC,cat:=(o _ h.ti.MB).trans h.cat,nK:=(o _ h.ti.KQ).trans h.nK,
        mv:=.inl id,sn:=.inl id,sb:=λhb=>(by rw[hr _ _ _ T] at hb;cases hb),rel:=λc f e h6=>(by have:=(H c f e).1;simp only at h6;omega),lt:=.inr ⟨rfl,.inl ?_⟩}
    · show BW C n (G.st c) (G.ws c) (G.fu c) (upd G.F m s m) _ l (upd G.Ls m I m) w'
      rw[upd_same,upd_same,hd];exact(H c f e).2 _ _ _ _ T
    · subst e
      show HB C n x u p G.mt (upd G.F 0 s 0) _ l (upd G.Ls 0 I 0);rw[upd_same,upd_same,hd];exact b rfl _ _ _ T
    · show Tree.sub (upd G.F m s m) _
      rwa[upd_same]
  · let⟨p1,p2⟩:=bH.BQ h.ok h.Φ Z3
    let d:=d w (Q.sub m) h.Φ;let hd:deafBehind (Deaf Y m) es=Deaf Y m:=deafBehind_still (λe z=>by rw[E e z];simp) _;let t:∀S∈MemOp.ofEvents m g.frame.fn g.frame.place es,S.g=m/\S.act=.ofEvent ⟨.cell a,false,false⟩:=λS W=>by
      obtain⟨e,z,B⟩:=Go.Conc.mem_ofEvents W;rw[E e z] at B;rw[B];exact⟨rfl,rfl⟩
    refine h.qL sl B d {G with F:=upd G.F m s,Ls:=G.Ls,Sh:=G.Sh,q:=G.q}
      {j:=rfl,gi:=h.gi.To _ _ _ _,En:=λi hi=>⟨upd_ne _ _ hi,rfl,rfl⟩,BO:=λ_ _ _=>⟨rfl,rfl,rfl⟩,Eo:=λ_=>rfl,
        so:=λh1 h2=>by unfold bH.Pt at r;omega,sw:=λc f e=>?_,sm:=λe=>?_,ti:=h.ti.app h.ok (.refl _ _) r (λS W=>(t S W).1) (λS W y X=>?_) (λS W=>?_),same:=h.same,
        wg:=h.wg,nC:=h.nC,cat:=h.cat,nK:=h.nK,
        mv:=.inl id,sn:=.inl id,sb:=λhb=>(by rw[hr _ _ _ T] at hb;cases hb),rel:=λc f e h6=>(by have:=(H c f e).1;simp only at h6;omega),lt:=.inr ⟨rfl,.inl ?_⟩}
    · show BW C n (G.st c) (G.ws c) (G.fu c) (upd G.F m s m) _ l (G.Ls m) w
      rw[upd_same,hd];exact(H c f e).2 _ _ _ _ T
    · subst e
      show HB C n x u p G.mt (upd G.F 0 s 0) _ l (G.Ls 0);rw[upd_same,hd];exact b rfl _ _ _ T
    · rw[(t S W).2] at X
      simp only[MemAct.ofEvent,MemAct.touch?,kR] at X;subst X;exact .inr (.inr ⟨rfl,rfl,by rw[<-p1];rfl,p2⟩)
    · rw[(t S W).2];simp[MemAct.ofEvent]
    · show Tree.sub (upd G.F m s m) _
      rw[upd_same];exact J
def gO.AF{I:dp}{p:cg}{n0:Nat}{gs:dr}{G:Gh}(h:gO C m I u p D n0 gs w Y G)(hk:k<G.j)(h8:G.st k=8){l:aT}{J:World}{q:gW}(sl:gw)(hx:gs[C.base+k]?=g)(d:stepG C.P false g w=.go l J q)
    {s':Ws}{S':Mu.Sh}{c':Nat}{K':aU}{o':bD}{f:Nat}{Ls':dD}{Sh':bt}
    (Q:Mu.Inv (G.ts.set k s'.T) S')(u4:Bu s')(u5:C.wi (G.ts.set k s'.T) S' c'+s'.ph.eY<C.wi G.ts G.S G.c+(G.ws k).ph.eY)(a:G.fu k=f+1)
    (hj:JI C (upd G.ws k s') c' K')(s:TK C (upd G.ws k s') o' K')(r:Way C.P false (C.Φ m) (vO C m f s') l (Ls' (C.base+k)))
    (u6:nV C D n0 gs.size Ls' Sh' o' J (Y++MemOp.ofEvents (C.base+k) g.frame.fn g.frame.place q))(z:∀i,i≠C.base+k->Ls' i=G.Ls i)
    (hd:deafBehind (Deaf Y (C.base+k)) q=s'.ph.deaf)(R:∀y,y≠C.X->y≠C.N->y≠C.B->G.Sh y->J.heap[y]?=w.heap[y]?)(H:mI u J)(W:C.yz J S')(b:J.heap[C.N]?=bH.cnt m c')(E:J.heap[C.B]?=C.ob K')
    (t:(G.S.n+G.S.h=0->S'.n+S'.h=0)\/oW C.P g l=true):Bh C m I u p D n0 gs w Y G sl (C.base+k):=by
  let hb:=h.eJ;let⟨T',r⟩:=r.at;let⟨u1,hμ⟩:=h.gi.YZ (F':=upd G.F (C.base+k) T') (Ls':=Ls') (Sh':=Sh') hk h8 Q u4 u5 a hj s;obtain⟨f2,u7⟩:=u1.ahj hk h8;have u8:f=f2+1:=by
    have:upd G.fu k f k=f2+1:=u7;rw[upd_same] at this;exact this
  subst u8;let u2:l.status=.running:=r.running λ_ _ x=>x.run;let u3:∀v,C.base+v≠C.base+k->v≠k:=λv e1 e2=>e1 (by rw[e2]);refine h.qL sl hx YF {G with ws:=upd G.ws k s',ts:=G.ts.set k s'.T,S:=S',c:=c',K:=K',o:=o',fu:=upd G.fu k (f2+1),F:=upd G.F (C.base+k) T',Ls:=Ls',Sh:=Sh'}
    {j:=rfl,gi:=u1,En:=λi hi=>⟨upd_ne _ _ hi,z i hi,rfl⟩,BO:=λv _ e=>⟨rfl,upd_ne _ _ (u3 v e),upd_ne _ _ (u3 v e)⟩,Eo:=λ_=>rfl,
      so:=λh1 h2=>by omega,sw:=λv u9 e=>?_,sm:=λe=>by omega,ti:=u6,same:=H,
      wg:=(R _ h.ok.wx h.ok.wn h.ok.wb h.ti.sO).trans h.wg,nC:=W,cat:=b,nK:=E,mv:=.inl id,sn:=t,sb:=λhb=>(by rw[u2] at hb;cases hb),rel:=λv u9 e h6=>?_,lt:=.inl hμ}
  · obtain rfl:v=k:=by omega
    show BW C m (G.st v) (upd G.ws v s' v) (upd G.fu v (f2+1) v) (upd G.F (C.base+v) T' (C.base+v)) _ l (Ls' (C.base+v)) J;rw[upd_same,upd_same,upd_same,hd,h8];exact .own r
  · obtain rfl:v=k:=by omega
    simp only at h6;omega
def M6(P:aV){l:aT}(q:mayWake P g=true)(z:l.status=.running):oW P g l=true:=by
 unfold oW;rw[q,z];rfl
def tY(x:Nat)(fn:FuncId)(pos:String)(m:Mark):MemOp.ofEvents x fn pos #[Go.ConcR.mk m]=#[{g:=x,fn,pos,act:=.mark m}]:=by
 rw[ofEvents_eq];simp[Go.ConcR.mk,MemAct.ofEvent]
def nV.mark{i:dD}{u:bt}(h:nV C D n k i u o w Y)(d:C.Ok D)(x:Nat)(q:bO)(s:ck){m:Mark}(v:(MemAct.mark m).touch?=none)(z:∀a,m≠.release a):nV C D n k i u o w (Y++MemOp.ofEvents x q s #[Go.ConcR.mk m]):=by
 rw[tY];refine h.mute d (.refl _ _) (λf j=>?_) λf j=>?_
 .simp at j;subst j;exact v
 .simp at j;subst j;simp[z]
def BV(a:Addr)(v:Value)(h:mI u w):mI u (w.setCell a v):=⟨h.tape,h.os,h.out⟩
def ui.same{c:World}(h:ui n w c)(a:mI u w):mI u c:=⟨h.tape.trans a.tape,a.os.trans h.os,h.out.trans a.out⟩
theorem gO.aa7{b:bH}{u8:dp}{W0:World}{u9:cg}{n0:Nat}{gs:dr}{G:Gh}(h:gO b m u8 W0 u9 D n0 gs w Y G)(hk:k<G.j)(h8:G.st k=8)(sl:gw)(hx:gs[b.base+k]?=some g){f:Nat}(hf:G.fu k=f+1)(hF:G.F (b.base+k)=.leaf)(hd:Deaf Y (b.base+k)=(G.ws k).ph.deaf)
    (C:vO b m (f+1) (G.ws k) g (G.Ls (b.base+k)))(u3:(G.ws k).ph≠.done):Bh b m u8 W0 u9 D n0 gs w Y G sl (b.base+k):=by
  let hb:=h.eJ;let Q:=lg hk h.gi.jn;let q0:b.Pt gs.size (b.base+k):=.inr ⟨M,h.lt_size hk⟩;let I:=h.gi.pc k Q;let u2:=h.gi.EM k Q;let⟨q4,C⟩:=C;let u4:∀s':Ws,s'.T=(G.ws k).T->Mu.Inv (G.ts.set k s'.T) G.S:=λs' e=>by rw[e,pE u2];exact h.gi.inv
  let q1:∀s':Ws,s'.T=(G.ws k).T->s'.ph.eY<(G.ws k).ph.eY->b.wi (G.ts.set k s'.T) G.S G.c+s'.ph.eY<b.wi G.ts G.S G.c+(G.ws k).ph.eY:=λs' e hl=>by rw[e,pE u2];omega
  -- a mark
  let mark:∀(d:Mark) (p:Ph),(MemAct.mark d).touch?=none->(∀a,d≠.release a)->p.eY<(G.ws k).ph.eY->p≠.done->(G.ws k).ph.owns=false->p.owns=false->deafBehind (G.ws k).ph.deaf #[Go.ConcR.mk d]=p.deaf->Bu {G.ws k with ph:=p}->
      b.OQ (λs' l L'=>Way b.P false (b.Φ m) (vO b m f s') l L') (G.ws k) g (G.Ls (b.base+k)) d p->Bh b m u8 W0 u9 D n0 gs w Y G sl (b.base+k):=by
    intro d p h1 h2 h3 h4 h5 h6 h7 v2 ⟨l,R,hw⟩;exact h.AF hk h8 sl hx (R w) (s':={G.ws k with ph:=p}) (K':=G.K) (o':=G.o) (Ls':=G.Ls) (Sh':=G.Sh) (u4 _ rfl) v2 (q1 _ rfl h3) hf (h.gi.ji.keep Q rfl h4 u3) (h.gi.tk.keep h5 h6) hw
      (h.ti.mark h.ok _ _ _ h1 h2) (λ_ _=>rfl) (by rw[hd];exact h7) (λ_ _ _ _ _=>rfl) h.same h.nC h.cat h.nK (.inl id)
  -- a step in C4 lock
  let mu:∀nx:Mu.Th->Ph,(∀T,(nx T).eY<=4/\nx T≠.done/\(nx T).owns=false/\(nx T).deaf=1/\∀J,Bu ⟨nx T,T,J⟩)->(G.ws k).ph.owns=false->(G.ws k).ph.deaf=1->
      b.SMu (λs' l L'=>Way b.P false (b.Φ m) (vO b m f s') l L') (G.ws k) g (G.Ls (b.base+k)) nx->Bh b m u8 W0 u9 D n0 gs w Y G sl (b.base+k):=by
    intro nx v4 u6 q7 ⟨x,s⟩;rcases s G.S w (h.gi.fits Q) h.nC (h.ti.res.sub _) with⟨vY,hpc,h0,R⟩ | ⟨T',S',l,w',es,W,R,sJ,has,⟨ZX,hbd⟩,ahq,hw⟩
    · -- it waits
      refine h.qL sl hx (by rw[show(b.base+k==0)=false by simp;omega];exact R) {G with F:=G.F,Ls:=G.Ls,Sh:=G.Sh,q:=G.q}
        {j:=rfl,gi:=h.gi.To _ _ _ _,En:=λi hi=>⟨rfl,rfl,rfl⟩,BO:=λ_ _ _=>⟨rfl,rfl,rfl⟩,Eo:=λ_=>rfl,
          so:=λh1 h2=>by omega,sw:=λk' v5 e=>?_,sm:=λe=>by omega,ti:=?_,same:=h.same,wg:=h.wg,nC:=h.nC,cat:=h.cat,nK:=h.nK,
          mv:=.inl id,sn:=.inl id,sb:=λ_=>⟨λe=>by omega,λ_=>h0⟩,rel:=λk' v5 e h6=>?_,lt:=.inr ⟨rfl,.inr ⟨rfl,q4,rfl⟩⟩}
      · obtain rfl:k'=k:=by omega
        show BW b m (G.st k') (G.ws k') (G.fu k') (G.F (b.base+k')) _ _ (G.Ls (b.base+k')) w;rw[h8,hf,hF,show deafBehind (Deaf Y (b.base+k')) #[]=Deaf Y (b.base+k') from rfl,hd,q7];exact .blk vY hpc ⟨q4,by rw[vY];refine⟨x,?_⟩;have:=C;rw[vY] at this;exact this.2⟩
      · have:=h.ti.mute (u:=MemOp.ofEvents (b.base+k) g.frame.fn g.frame.place #[]) h.ok (.refl _ _) (λop ho=>by obtain⟨e,he,_⟩:=Go.Conc.mem_ofEvents ho;simp at he) (λop ho=>by obtain⟨e,he,_⟩:=Go.Conc.mem_ofEvents ho;simp at he)
        exact this
      · obtain rfl:k'=k:=by omega
        let v9:G.st k'<=6:=h6;omega
    · obtain⟨n1,n2,n3,n4,n5⟩:=v4 T'
      let q2:=Mu.Bd h.gi.inv u2 W;let hm:=Wc (b:=b) (c:=G.c) (Mu.FH (h.gi.G4 Q) u2 W);let t:∀op∈MemOp.ofEvents (b.base+k) g.frame.fn g.frame.place es,op.g=b.base+k/\∃e∈es,op.act=.ofEvent e:=λop t=>by
        obtain⟨e,he,hx⟩:=Go.Conc.mem_ofEvents t;rw[hx];exact⟨rfl,e,he,rfl⟩
      refine h.AF hk h8 sl hx R (s':=⟨nx T',T',(G.ws k).J⟩) (S':=S') (c':=G.c) (K':=G.K) (o':=G.o) (Ls':=G.Ls) (Sh':=G.Sh) q2 (n5 _) xU hf (h.gi.ji.keep Q rfl n2 u3) (h.gi.tk.keep u6 n3) hw
        (h.ti.app h.ok ⟨has.size,λy hy=>has.block y λe=>hy (e▸h.ti.EA)⟩ q0 (λop ho=>(t op ho).1) (λop ho y hy=>?_) λop ho=>?_) (λ_ _=>rfl) (by rw[hd,q7,hbd];exact n4.symm) (λy h1 _ _ _=>has.block y h1) (has.same h.same) sJ
        ((has.block _ h.ok.nx).trans h.cat) ((has.block _ (dG h.ok.xb)).trans h.nK) (ahq.imp id λe=>M6 _ e.1 e.2)
      · obtain⟨_,e,he,q3⟩:=t op ho
        rw[q3] at hy;obtain⟨e1,e2⟩:=(ZX e he).1 y hy;exact .inl ⟨e1,.inr (.inr e2)⟩
      · obtain⟨_,e,he,q3⟩:=t op ho
        rw[q3];exact(ZX e he).2
  cases H:(G.ws k).ph with
  | done=>exact ar H u3
  | idle=>
    rw[H] at C;let u1:(G.ws k).T.pc=.out:=QV
    let u6:(G.ws k).ph.owns=false:=uS
    rcases C with⟨hJ,C⟩ | ⟨hl,⟨i,hi,q8⟩,l,R,hw⟩
    · obtain⟨l,R,v6,v7⟩:=C G.c h.gi.ji.bound
      let R:=R w h.cat;let r:∀y,y≠b.N->(w.setCell b.na (.int .i64 ((G.c:Int)+1))).heap[y]?=w.heap[y]?:=λy hy=>by rw[heap_setCell,A (show y≠b.na.block from hy)]
      let q5:(w.setCell b.na (.int .i64 ((G.c:Int)+1))).heap[b.N]?=some (bH.cnt m ((G.c+1:Nat):Int)):=by
        rw[heap_setCell,ax (show b.N=b.na.block from rfl),h.cat];simp[bH.cnt,ng,bH.na]
      let t:∀op∈MemOp.ofEvents (b.base+k) g.frame.fn g.frame.place #[rd b.na,wr b.na],op.g=b.base+k/\(op.act=.ofEvent (rd b.na)\/op.act=.ofEvent (wr b.na)):=λop t=>by
        obtain⟨e,he,hx⟩:=Go.Conc.mem_ofEvents t;rw[hx];simp at he;exact⟨rfl,he.imp (λe=>by rw[e]) λe=>by rw[e]⟩
      let X:nV b D n0 gs.size G.Ls G.Sh G.o (w.setCell b.na (.int .i64 ((G.c:Int)+1))) (Y++MemOp.ofEvents (b.base+k) g.frame.fn g.frame.place #[rd b.na,wr b.na]):=by
        refine h.ti.app h.ok ⟨by simp[World.setCell],λy hy=>r y λe=>hy (e▸h.ti.MB)⟩ q0 (λop ho=>(t op ho).1) (λop ho y hy=>?_) λop ho=>?_
        · rcases(t op ho).2 with e | e
          · rw[e] at hy
            simp only[rd,MemAct.ofEvent,MemAct.touch?,kR] at hy;subst hy;exact .inl ⟨U,.inr (.inl rfl)⟩
          · rw[e] at hy
            simp only[wr,MemAct.ofEvent,MemAct.touch?,kR] at hy;subst hy;exact .inl ⟨U,.inr (.inl rfl)⟩
        · rcases(t op ho).2 with e | e <;> rw[e] <;> simp[rd,wr,MemAct.ofEvent]
      let q9:deafBehind (Deaf Y (b.base+k)) #[rd b.na,wr b.na]=0:=by rw[hd,H];simp[Ph.deaf,deafBehind,rd,wr]
      let q6:b.yz (w.setCell b.na (.int .i64 ((G.c:Int)+1))) G.S:=(r _ (dG h.ok.nx)).trans h.nC
      by_cases hc:G.c<b.len
      · exact h.AF hk h8 sl hx R (s':=⟨.idle,{(G.ws k).T with left:=(G.ws k).T.left+1},some G.c⟩) (S':=G.S) (c':=G.c+1) (K':=G.K) (o':=G.o) (Ls':=G.Ls) (Sh':=G.Sh) (h.gi.inv.left u2 u1 _) u1
          (by have:=aaf (b:=b) (S:=G.S) h.gi.LN (Mu.Wa u2 u1) hc;rw[H];simp only;omega) hf (h.gi.ji.draw Q hJ hc rfl U u3) (h.gi.tk.keep u6 rfl) (v6 hc) X (λ_ _=>rfl) q9 (λy _ h2 _ _=>r y h2) (BV _ _ h.same) q6 q5 ((r _ (dG h.ok.nb)).trans h.nK) (.inl id)
      · exact h.AF hk h8 sl hx R (s':=⟨.done,(G.ws k).T,none⟩) (S':=G.S) (c':=G.c+1) (K':=G.K) (o':=G.o) (Ls':=G.Ls) (Sh':=G.Sh) (u4 _ rfl) u1
          (by rw[pE u2,H];simp only[bH.wi,Ph.eY];rw[show b.len - (G.c+1)=b.len - G.c by omega];omega) hf (h.gi.ji.over Q hJ M rfl rfl u3) (h.gi.tk.keep u6 rfl) (v7 M) X (λ_ _=>rfl) q9 (λy _ h2 _ _=>r y h2) (BV _ _ h.same) q6 q5 ((r _ (dG h.ok.nb)).trans h.nK) (.inl id)
    · let W:Mu.Step (G.ws k).T G.S {pc:=.l0,left:=(G.ws k).T.left - 1} G.S:=.out u1 hl
      let q2:=Mu.Bd h.gi.inv u2 W;let hm:=Wc (b:=b) (c:=G.c) (Mu.FH (h.gi.G4 Q) u2 W);exact h.AF hk h8 sl hx (R w) (s':=⟨.lk,{pc:=.l0,left:=(G.ws k).T.left - 1},(G.ws k).J⟩) (S':=G.S) (c':=G.c) (K':=G.K) (o':=G.o) (Ls':=G.Ls) (Sh':=G.Sh) q2 trivial (by simp only[Ph.eY];omega) hf (h.gi.ji.keep Q rfl U u3) (h.gi.tk.keep u6 rfl) hw
        (h.ti.mark h.ok _ _ _ rfl U) (λ_ _=>rfl) QA (λ_ _ _ _ _=>rfl) h.same h.nC h.cat h.nK (.inl id)
  | lk=>
    rw[H] at C;refine mu Ha (λT=>?_) uS uS C;unfold Ha
    split
    · rename_i e;exact⟨by simp[Ph.eY],U,rfl,rfl,λJ=>e⟩
    · exact⟨by simp[Ph.eY],U,rfl,rfl,λJ=>trivial⟩
  | ul=>
    rw[H] at C;refine mu EN (λT=>?_) uS uS C;unfold EN
    split
    · rename_i e;exact⟨by simp[Ph.eY],U,rfl,rfl,λJ=>e⟩
    · exact⟨by simp[Ph.eY],U,rfl,rfl,λJ=>trivial⟩
  | got=>
    rw[H] at C;exact mark .enable .Ea rfl U Lv U uS rfl QB (by unfold Bu at I ⊢;rw[H] at I;exact I) C
  | P9=>
    rw[H] at C;exact mark .disable .ul rfl U Lv U uS rfl QB trivial C
  | fin=>
    rw[H] at C;exact mark .enable .idle rfl U Lv U uS rfl QB (by unfold Bu at I ⊢;rw[H] at I;exact I) C
  | Ea=>
    rw[H] at C;let u1:(G.ws k).T.pc=.own:=QV
    let u6:(G.ws k).ph.owns=false:=uS
    let ho:=h.gi.free Q u1 u6;obtain⟨l,R,hw⟩:=C;let X:=h.ti;rw[ho] at X;let E:=h.gi.tk;rw[ho] at E;let hw:=hw G.K λi hi=>(h.gi.ji.kj k Q i hi).2.2.1;let v0:=X.acquire h.ok q0 (z:={g:=b.base+k,fn:=g.frame.fn,pos:=g.frame.place,act:=.mark (.acquire b.ma)}) rfl rfl (by rw[hd,H];rfl);rw[<-tY] at v0;exact h.AF hk h8 sl hx (R w) (s':={G.ws k with ph:=.hold G.K}) (S':=G.S) (c':=G.c) (K':=G.K) (o':=some (b.base+k)) (Ls':=G.Ls) (Sh':=G.Sh) (u4 _ rfl) u1 (q1 _ rfl Lv) hf (h.gi.ji.keep Q rfl U u3) (E.take Q rfl) hw
      v0 (λ_ _=>rfl) QA (λ_ _ _ _ _=>rfl) h.same h.nC h.cat h.nK (.inl id)
  | hold K=>
    rw[H] at C;let u1:(G.ws k).T.pc=.own:=QV
    let ho:=h.gi.tk.Gi k Q uS;obtain rfl:=h.gi.tk.tk1 k Q K H;obtain⟨i,hi,q8,hw⟩:=C;let X:=h.ti;rw[ho] at X;let E:=h.gi.tk;rw[ho] at E;let v8:G.Ls (b.base+k) b.B=none:=X.res.sh _ _ X.KQ;let v1:Sub ((G.Ls (b.base+k)).put b.B (b.ob G.K)) w:=by
      intro y v wr hv;rcases H9 hv with⟨rfl,e⟩ | ⟨_,e⟩
      · cases e;exact h.nK
      · exact h.ti.res.sub _ y v wr e
    obtain⟨l,w',es,R,u5,hw⟩:=hw w v8 v1;let u7:∀y,y≠b.B->G.Sh y->w'.heap[y]?=w.heap[y]?:=λy hy C=>u5.keep y (h.ti.res.ml y C) (by rw[aB _ _ hy];exact h.ti.res.sh _ y C);exact h.AF hk h8 sl hx R (s':=⟨.put,(G.ws k).T,none⟩) (S':=G.S) (c':=G.c) (K':=G.K++[i]) (o':=some (b.base+k)) (Ls':=G.Ls) (Sh':=G.Sh) (u4 _ rfl) u1 (q1 _ rfl Lv) hf (h.gi.ji.kept Q hi q8 rfl U u3) (E.qL Q rfl _) hw
      (X.qL h.ok h.nK u5 _ _) (λ_ _=>rfl) (by rw[hd,H,u5.deaf];rfl) (λy h1 h2 h3 h4=>u7 y h3 h4) (h.same.tr u5) ((u7 _ h.ok.xb h.ti.EA).trans h.nC) ((u7 _ h.ok.nb h.ti.MB).trans h.cat) (u5.sub b.B _ true (aj _ _ _)) (.inl id)
  | put=>
    rw[H] at C;let u1:(G.ws k).T.pc=.own:=QV
    let ho:=h.gi.tk.Gi k Q uS;obtain⟨l,R,hw⟩:=C;let X:=h.ti;rw[ho] at X;let E:=h.gi.tk;rw[ho] at E;let u5:=X.release h.ok (z:={g:=b.base+k,fn:=g.frame.fn,pos:=g.frame.place,act:=.mark (.releaseMerge b.ma)}) rfl rfl (by rw[hd,H];rfl);rw[<-tY] at u5;let W:Mu.Step (G.ws k).T G.S {(G.ws k).T with pc:=.u0} G.S:=.own u1;let q2:=Mu.Bd h.gi.inv u2 W;let hm:=Wc (b:=b) (c:=G.c) (Mu.FH (h.gi.G4 Q) u2 W);exact h.AF hk h8 sl hx (R w) (s':=⟨.P9,{(G.ws k).T with pc:=.u0},(G.ws k).J⟩) (S':=G.S) (c':=G.c) (K':=G.K) (o':=none) (Ls':=G.Ls) (Sh':=G.Sh) q2 rfl (lg (Nat.add_lt_add_left (show Ph.eY .P9<8 by decide) _) (lI hm (Nat.le_add_right _ _))) hf (h.gi.ji.keep Q rfl U u3) (E.give rfl _) hw
      u5 (λ_ _=>rfl) QA (λ_ _ _ _ _=>rfl) h.same h.nC h.cat h.nK (.inl id)
def GI.libs{G:Gh}(h:GI C G)(f:k<G.j)(x:1<=m)(I:m<=7)(y:m<=G.st k)(r:(G.ws k).ph=.done){F':eN}{v l:Int}(J:ConcN.Mode G.j (cB (upd G.st k m)) G.mt.wN v l):
  GI C {G with st:=upd G.st k m,F:=F',sv:=v,mv:=l}/\(m<G.st k->C.μ {G with st:=upd G.st k m,F:=F',sv:=v,mv:=l}<C.μ G)/\(m=G.st k->C.μ {G with st:=upd G.st k m,F:=F',sv:=v,mv:=l}=C.μ G):=by
 let K:=h.jn;let p:k<C.n:=M
 let e:wv {G with st:=upd G.st k m}=upd (wv G) k m:=by
  funext i
  by_cases e:i=k
  .subst e;simp only[wv,upd_same,f,if_true];rw[A M]
  .simp[wv,upd_ne _ _ e]
 let s:wv G k=if G.st k=8 then 20+(G.ws k).ph.eY else G.st k:=by simp[wv,f]
 let a:=sumTo_upd (wv G) m id p;let a:sumTo C.n (upd (wv G) k m)+wv G k=sumTo C.n (wv G)+m:=a;let D:G.mt.eY C.n (Vc G.j (cB (upd G.st k m)))<=G.mt.eY C.n (Vc G.j (cB G.st)):=R8 _ (LU f y) _;let g:C.μ {G with st:=upd G.st k m,F:=F',sv:=v,mv:=l}=C.wi G.ts G.S G.c+(sumTo C.n (upd (wv G) k m)+G.mt.eY C.n (Vc G.j (cB (upd G.st k m)))):=by
  rw[<-e];rfl
 let b:C.μ G=C.wi G.ts G.S G.c+(sumTo C.n (wv G)+G.mt.eY C.n (Vc G.j (cB G.st))):=rfl;let z:m<G.st k->C.μ {G with st:=upd G.st k m,F:=F',sv:=v,mv:=l}<C.μ G:=λo=>by
  rw[g,b]
  split at s <;> omega
 let q:m=G.st k->C.μ {G with st:=upd G.st k m,F:=F',sv:=v,mv:=l}=C.μ G:=λo=>by
  have:upd G.st k m=G.st:=Me o;rw[g,b,this];rw[A M] at s;omega
 let d:C.μ {G with st:=upd G.st k m,F:=F',sv:=v,mv:=l}<=C.μ G:=by
  rcases Cn m (G.st k) with e | e
  .exact Nat.le_of_lt (z e)
  .exact Nat.le_of_eq (q M)
 refine⟨⟨h.jn,h.n1,h.n6,h.jm,h.inv,h.LN,h.EM,h.pc,h.fresh,λi t=>?_,λi t u=>?_,h.ji,h.tk,λi t w=>?_,J⟩,z,q⟩
 .by_cases e:i=k
  .subst e;simp[upd_same];exact .inl ⟨x,I⟩
  .simp[upd_ne _ _ e];exact h.Qn i t
 .by_cases e:i=k
  .subst e;exact r
  .simp[upd_ne _ _ e] at u;exact h.dn i t u
 .by_cases e:i=k
  .subst e;simp[upd_same] at w;omega
  .simp[upd_ne _ _ e] at w;exact lI d (h.fuel i t w)
def gO.VV{K:dp}{p:cg}{gs:dr}{G:Gh}(h:gO C n K u p D m gs w Y G){s' m':Nat}(f:k<G.j)(h1:1<=s')(h7:s'<=7)(u2:s'<=G.st k)(u3:(G.ws k).ph=.done){R:aT}{Q:World}{q:gW}(b:gw)(hx:gs[C.base+k]?=g)(d:stepG C.P false g w=.go R Q q)
    (s:Aside C.W w Q){l:Int}(u4:WgAt C.ty C.W Q c l)(o:ConcN.Mode G.j (cB (upd G.st k s')) G.mt.wN c l)
    (H:∀e∈q,(∀y,(MemAct.ofEvent e).touch?=some y->y.kind=.atomic/\dQ y.loc=C.W)/\∀a,MemAct.ofEvent e≠.mark (.release a))
    (u5:BW C n s' (G.ws k) (G.fu k) (Tree.num m') (deafBehind (Deaf Y (C.base+k)) q) R (G.Ls (C.base+k)) Q)(u6:R.status≠.blocked)(u7:(G.mv=0->l=0)\/oW C.P g R=true)
    (S:s'<=6->∃r,m<=r/\MP C.W (Y++MemOp.ofEvents (C.base+k) g.frame.fn g.frame.place q) (C.base+k) r)(u8:s'<G.st k\/(s'=G.st k/\G.F (C.base+k)=Tree.num (m'+1))):Bh C n K u p D m gs w Y G b (C.base+k):=by
  let hb:=h.eJ;let T:C.Pt gs.size (C.base+k):=.inr ⟨M,h.lt_size f⟩;let⟨x,B,E⟩:=h.gi.libs (F':=upd G.F (C.base+k) (Tree.num m')) f h1 h7 u2 u3 o;let t:∀J∈MemOp.ofEvents (C.base+k) g.frame.fn g.frame.place q,J.g=C.base+k/\∃e∈q,J.act=.ofEvent e:=λJ t=>by
    let⟨e,z,hx⟩:=Go.Conc.mem_ofEvents t;rw[hx];exact⟨rfl,e,z,rfl⟩
  let u9:∀v,C.base+v≠C.base+k->v≠k:=λv e1 e2=>e1 (by rw[e2]);let u1:=s.block _ (dG h.ok.wx);refine h.qL b hx YF {G with st:=upd G.st k s',F:=upd G.F (C.base+k) (Tree.num m'),sv:=c,mv:=l}
    {j:=rfl,gi:=x,En:=λi hi=>⟨upd_ne _ _ hi,rfl,rfl⟩,BO:=λv _ e=>⟨upd_ne _ _ (u9 v e),rfl,rfl⟩,Eo:=λ_=>rfl,
      so:=λh1 h2=>by omega,sw:=λv q0 e=>?_,sm:=λe=>by omega,ti:=h.ti.app h.ok ⟨s.size,λy hy=>s.block y λe=>hy (e▸h.ti.sO)⟩ T (λJ ho=>(t J ho).1) (λJ ho y hy=>?_) (λJ ho=>?_),
      same:=⟨s.tape.trans h.same.tape,h.same.os.eq s.os,s.output.trans h.same.out⟩,
      wg:=u4,nC:=u1.trans h.nC,cat:=(s.block _ (dG h.ok.wn)).trans h.cat,nK:=(s.block _ (dG h.ok.wb)).trans h.nK,mv:=u7,sn:=.inl id,sb:=λhb=>ar hb u6,rel:=λv q0 e h6=>?_,lt:=?_}
  · obtain rfl:v=k:=by omega
    show BW C n (upd G.st v s' v) (G.ws v) (G.fu v) (upd G.F (C.base+v) (Tree.num m') (C.base+v)) _ R (G.Ls (C.base+v)) Q;rw[upd_same,upd_same];exact u5
  · obtain⟨_,e,z,I⟩:=t J ho
    rw[I] at hy;obtain⟨e1,e2⟩:=(H e z).1 y hy;exact .inl ⟨e1,.inl e2⟩
  · obtain⟨_,e,z,I⟩:=t J ho
    rw[I];exact⟨(H e z).2 _,(H e z).2 _⟩
  · obtain rfl:v=k:=by omega
    exact S (by have:upd G.st v s' v<=6:=h6;rw[upd_same] at this;exact this)
  · rcases u8 with e | ⟨e1,e2⟩
    · exact .inl (B e)
    · refine .inr ⟨E e1,.inl ?_⟩
      show Tree.sub (upd G.F (C.base+k) (Tree.num m') (C.base+k)) (G.F (C.base+k));rw[upd_same,e2];exact Tree.Aa w m'
def abT{e:Event}(h:Bk n e):(∀y,(MemAct.ofEvent e).touch?=some y->y.kind=.atomic/\dQ y.loc=n)/\∀a,MemAct.ofEvent e≠.mark (.release a):=by
 let⟨loc,wr,c⟩:=e;rcases h with q | q | ⟨a,wr,q,z⟩
 .subst q;exact⟨λy g=>by simp[MemAct.ofEvent,MemAct.touch?] at g,lX⟩
 .subst q;exact⟨λy g=>by simp[MemAct.ofEvent,MemAct.touch?] at g,lX⟩
 .cases q;refine⟨λy g=>?_,lX⟩;simp[MemAct.ofEvent,MemAct.touch?,kR] at g;subst g;exact⟨rfl,by rw[<-z];rfl⟩
def gO.XP{r:dp}{p:cg}{o:Nat}{K:dr}{G:Gh}(h:gO C n r u p D o K w Y G)(f:k<G.j)(c:(G.ws k).ph=.done)(b:gw)(H:K[C.base+k]?=some g)(a:Deaf Y (C.base+k)=0)
  (E:Goes C.P false (RW C.ty C.W C.X 1 0 0) DC0 (AtR0 C.P C.ty C.W C.X 1 0 1 C.v0) m g w)(Q:(G.st k=7/\G.F (C.base+k)=Tree.num m)\/G.st k=8):Bh C n r u p D o K w Y G b (C.base+k):=by
 let v:=h.gi.mode;let l:min (G.st k) 7=7:=by rcases Q with⟨e,_⟩ | e <;> omega
 rcases Goes.cases E with I | ⟨t,rfl,J⟩
 .let⟨_,R,S,d,s,q⟩:=I w (RW.refl w);let T:qC C.P C.ty C.W C.X C.v0 6 s 0 S w:=.k1 q;refine h.VV (s':=6) (m':=s) f M M M c b H d (.refl _ w) h.wg ?_ (λe B=>?_) ?_ (λe=>?_) (.inl id) (λ_=>⟨Y.size,h.ti.len,RelBy.new a _ _,λi op y hi ho _ _=>?_⟩) (.inl M)
  .rw[mr _ _ _ M];exact v.counted f (by simp[cB];omega) (.inl rfl) 0 0
  .simp at B;subst B;exact⟨λy hy=>by simp[Go.ConcR.mk,MemAct.ofEvent,MemAct.touch?] at hy,by simp[Go.ConcR.mk,MemAct.ofEvent]⟩
  .rw[a];exact .iC (dA _) (by simpa [deafBehind,Go.ConcR.mk] using T)
  .rcases WSit.status T with e2 | e2 <;> rw[e] at e2 <;> cases e2
  .have:=lt_size_of_getElem? ho;rw[tY] at this;simp at this;omega
 .obtain⟨S,w',es,d,⟨rfl,rfl⟩,z⟩:=J w (RW.refl w);refine h.VV (s':=7) (m':=t) f M M M c b H d (.refl _ _) h.wg ?_ U ?_ (λe=>?_) (.inl id) (λe=>by omega) ?_
  .rw[uh _ _ _ M];exact v
  .rw[a];exact .dn z
  .have:=Goes.running (λ_ _ x=>x.1) _ (RW.refl _) z;rw[e] at this;cases this
  .rcases Q with⟨e,e2⟩ | e
   .exact .inr ⟨e.symm,e2⟩
   .exact .inl M
def gO.zQ{a:dp}{p:cg}{n0:Nat}{c:dr}{G:Gh}(h:gO C n a u p D n0 c w Y G)(f:k<G.j)(h6:G.st k<=6)(sl:gw)(hx:c[C.base+k]?=some g)(K:g.status=.running)
  (hl:qC C.P C.ty C.W C.X C.v0 (G.st k) m (Deaf Y (C.base+k)) g w)(hF:G.F (C.base+k)=Tree.num m):Bh C n a u p D n0 c w Y G sl (C.base+k):=by
 let o:=h.gi.mode;let u2:=h.gi.jn;let u3:=h.gi.n6;let B:=h.gi.dn k f M;have z:(cB G.st k).stage=G.st k:=by simp[cB];omega
 let⟨g',w',es,b,m',u4,l,d,i,H,I⟩:=NN (dG h.ok.wx) hl K h.wg (λe=>NW o f F5 M) (λe=>qW o f F5) (λe=>A0 o f F5);let⟨Q,v⟩:=i.le7;let t:g'.status≠.blocked:=λe=>by rcases WSit.status i with q | q <;> rw[e] at q <;> cases q
 let⟨r,hr,x⟩:=h.rel k f h6;generalize E:G.st k=s at I z;generalize R:Deaf Y (C.base+k)=dd at I i;cases I with
 | zG=>omega
 | rel=>omega
 | book _ hAs ZX hbd h5=>
  let J:(G.mv=0->l=0)\/oW C.P g g'=true:=by
   rcases h5 with⟨_,_,_,e3⟩ | ⟨_,_,_,e4⟩ | ⟨_,_,e3,_⟩ | ⟨_,_,_,e4⟩ | ⟨_,_,_,e4⟩ | ⟨_,_,_,_,e5,e6⟩
   .exact .inl λe=>e3.trans e
   .exact .inl λe=>e4.trans e
   .exact .inl λe=>e3.trans e
   .exact .inl λe=>e4.trans e
   .exact .inl λe=>e4.trans e
   .exact .inr (M6 _ e5 e6)
  let u5:b<=s:=M
  refine h.VV f Q v M B sl hx d hAs H ?_ (λe he=>abT (ZX e he)) (.iC M (by rwa[R])) t J (λ_=>⟨r,hr,x.app (x.1.book R _ _ ZX hbd) λop ho _ y hy=>?_⟩) ?_
  .rcases h5 with⟨e1,_,q,e3⟩ | ⟨e1,q,e3,e4⟩ | ⟨e1,q,e3,e4⟩ | ⟨e1,q,e3,e4⟩ | ⟨e1,q,e3,e4⟩ | ⟨e1,q,e3,e4,e5,e6⟩
   .rwa[q,e3,uh G.st k b M]
   .rw[e3,e4,mr _ _ _ v,q];exact o.counted f M (.inr rfl) 0 0
   .rw[e3,mr _ _ _ v];let⟨d1,d2⟩:=NX o f M q;rcases e4 with⟨e4,e5⟩ | ⟨e4,e5⟩
    .rw[e5];exact d1 e4
    .rw[e5];exact d2 e4
   .let⟨S,T⟩:=qW o f M;rw[e3,e4,mr _ _ _ v,q,S,T];exact xC o f M (.inl rfl)
   .let⟨S,T⟩:=qW o f M;rw[e3,e4,mr _ _ _ v,q,T];exact xC o f M (.inr rfl)
   .let⟨S,T⟩:=A0 o f M;let t:G.mt.wN≠.blk:=by cases G.mt <;> simp[jl.wN]
    let⟨f1,f2⟩:=JQ o f M t;rwa[e3,e4,mr _ _ _ v,q,S,f1]
  .let⟨e,he,u1⟩:=Go.Conc.mem_ofEvents ho;rw[u1] at hy;exact((abT (ZX e he)).1 y hy).2
  .by_cases e:b=s
   .refine .inr ⟨e.trans E.symm,?_⟩;rw[hF];have:m'+1=m:=by omega
    rw[this]
   .exact .inl M
def gO.workerStep{r:dp}{p:cg}{X:Nat}{W:dr}{G:Gh}(h:gO C m r u p D X W w Y G)(I:k<G.j)(b:gw)(R:W[C.base+k]?=some g)(J:g.status=.running):Bh C m r u p D X W w Y G b (C.base+k):=by
 let d:=h.eJ;let u1:=lg I h.gi.jn;let⟨y,B,H⟩:=h.wk k I;rw[R] at B;cases B;generalize i:G.st k=s at H;generalize a:G.fu k=f at H;generalize o:G.F (C.base+k)=T0 at H;generalize t:Deaf Y (C.base+k)=d0 at H;generalize E:G.Ls (C.base+k)=L0 at H;generalize Q:G.ws k=sw at H;cases H with
 | @own s f T g L w dq=>
  rcases dq.HQ with⟨hs,hl⟩ | ⟨_,hs⟩
  .subst Q E
   by_cases hd:(G.ws k).ph=.done
   .let z:=hs.2;rw[hd] at z;let⟨c,hm⟩:=z;let S:=h.Φ;exact h.XP I hd b R (by rw[t,hd];rfl) (hm w ⟨S.1,(S.has h.ok).1⟩) (.inr i)
   .exact h.aa7 I i b R a (o.trans hl) t hs hd
  .subst E;refine h.wU (K:=λT' l v=>At C.P false (C.Φ m) (vO C m (f+1) sw) T' l v) b R (.inr ⟨M,h.lt_size I⟩) (by rwa[show(C.base+k==0)=false by simp;omega,o]) (λ_ _ _ x=>x.running λ_ _ x=>x.run) (λk' u2 e=>?_) (λe=>by omega);obtain rfl:k'=k:=by omega
   refine⟨i,λT' l v w' q=>?_⟩;rw[i,a,Q,t];exact .own q
 | blk=>cases J
 | dn hg=>
  subst Q;exact h.XP I (h.gi.dn k I M) b R t hg (.inl ⟨i,o⟩)
 | iC h6 hl=>
  exact h.zQ I M b R J (by rwa[i,t]) o
def GI.main{G:Gh}(h:GI C G){q:jl}{F':eN}{m l:Int}(v:q.ok C.n G.j)(o:ConcN.Mode G.j (cB G.st) q.wN m l)(b:q.eY C.n (Vc G.j (cB G.st))<G.mt.eY C.n (Vc G.j (cB G.st))):
  GI C {G with mt:=q,F:=F',sv:=m,mv:=l}/\C.μ {G with mt:=q,F:=F',sv:=m,mv:=l}<C.μ G:=by
 have g:C.μ {G with mt:=q,F:=F',sv:=m,mv:=l}<C.μ G:=by
  show C.wi G.ts G.S G.c+(sumTo C.n (wv G)+q.eY C.n (Vc G.j (cB G.st)))<C.wi G.ts G.S G.c+(sumTo C.n (wv G)+G.mt.eY C.n (Vc G.j (cB G.st)));omega
 exact⟨⟨h.jn,h.n1,h.n6,v,h.inv,h.LN,h.EM,h.pc,h.fresh,h.Qn,h.dn,h.ji,h.tk,λk f u=>lI (Nat.le_of_lt g) (h.fuel k f u),o⟩,g⟩
def EvB(W:Nat)(es:gW):Prop:=∀e∈es,(∀x,(MemAct.ofEvent e).touch?=some x->x.kind≠.plain/\dQ x.loc=W/\(x.kind=.said->x.loc=.cell (smA W)))/\∀a,MemAct.ofEvent e≠.mark (.release a)
theorem HT(W:Nat):EvB W #[rd (stA W)]:=λe z=>⟨(Jm W e z).1,by simp at z;subst z;simp[rd,MemAct.ofEvent]⟩
theorem Pn(W:Nat):EvB W #[rd (stA W),wr (stA W)]:=λe z=>⟨(Po W e z).1,by simp at z;rcases z with rfl | rfl <;> simp[rd,wr,MemAct.ofEvent]⟩
theorem acz(W:Nat):EvB W (semEvents (smA W)):=λe z=>⟨(XU W e z).1,by simp[semEvents] at z;rcases z with rfl | rfl | rfl | rfl <;> simp[MemAct.ofEvent]⟩
theorem AT{m:Mark}(W:Nat)(q:∀a,m≠.release a)(u:(∀a,m≠.read a/\m≠.write a)\/m=.write (smA W)\/m=.read (smA W)):EvB W #[Go.ConcR.mk m]:=λe z=>⟨(zA W q u e z).1,by simp at z;subst z;simpa [Go.ConcR.mk,MemAct.ofEvent] using q⟩
theorem acy(W:Nat):EvB W #[]:=λe z=>by simp at z
theorem gO.ti0{i:dp}{p:cg}{b:dr}{G:Gh}(h:gO C n i u p D k b w Y G){l:World}(a:Aside C.W w l){q:gW}(c:EvB C.W q)(x:bO)(s:ck):nV C D k b.size G.Ls G.Sh G.o l (Y++MemOp.ofEvents 0 x s q):=by
 let t:∀d∈MemOp.ofEvents 0 x s q,d.g=0/\∃e∈q,d.act=.ofEvent e:=λd t=>by
  let⟨e,z,I⟩:=Go.Conc.mem_ofEvents t;rw[I];exact⟨rfl,e,z,rfl⟩
 refine h.ti.app h.ok ⟨a.size,λy m=>a.block y λe=>m (e▸h.ti.sO)⟩ (.inl rfl) (λd j=>(t d j).1) (λd j y m=>?_) λd j=>?_
 .let⟨_,e,z,v⟩:=t d j;rw[v] at m;let⟨J,K,r⟩:=(c e z).1 y m;cases f:y.kind with
  | plain=>exact ar f J
  | atomic=>exact .inl ⟨f,.inl K⟩
  | said=>exact .inr (.inl ⟨f,r f,rfl⟩)
 .let⟨_,e,z,v⟩:=t d j;rw[v];exact⟨(c e z).2 _,(c e z).2 _⟩
def gO.lr{f:dp}{p:cg}{I:dr}{G:Gh}(h:gO C k f u p D m I w Y G){s:aT}{J:World}{q:gW}(b:gw)(X:I[0]?=some g)(K:stepG C.P true g w=.go s J q)(z:Aside C.W w J)(H:EvB C.W q)
    {mt':jl}{l:Int}(B:nD C k (mt'.stop C k f u p) s (G.Ls 0))(a:deafBehind (Deaf Y 0) q=mt'.deaf)(y:WgAt C.ty C.W J c l)(v:mt'.ok C.n G.j)
    (o:ConcN.Mode G.j (cB G.st) mt'.wN c l)(Q:G.mv=0->l=0)(E:mt'.eY C.n (Vc G.j (cB G.st))<G.mt.eY C.n (Vc G.j (cB G.st))):Bh C k f u p D m I w Y G b 0:=by
  let hb:=h.eJ;let⟨R,t⟩:=Way.at B;let⟨S,T⟩:=h.gi.main (F':=upd G.F 0 R) v o E;let r:=t.running λ_ _ x=>x.1;refine h.qL b X K {G with mt:=mt',F:=upd G.F 0 R,sv:=c,mv:=l}
    {j:=rfl,gi:=S,En:=λi hi=>⟨upd_ne _ _ hi,rfl,rfl⟩,BO:=λ_ _ _=>⟨rfl,rfl,rfl⟩,Eo:=λe=>ar rfl e,
      so:=λh1 _=>ar h1 M,sw:=λd _ e=>by omega,sm:=λ_=>?_,ti:=h.ti0 z H _ _,same:=⟨z.tape.trans h.same.tape,h.same.os.eq z.os,z.output.trans h.same.out⟩,
      wg:=y,nC:=(z.block _ (dG h.ok.wx)).trans h.nC,cat:=(z.block _ (dG h.ok.wn)).trans h.cat,nK:=(z.block _ (dG h.ok.wb)).trans h.nK,mv:=.inl Q,sn:=.inl id,sb:=λe=>(by rw[r] at e;cases e),rel:=λd _ e=>by omega,lt:=.inl T}
  show HB C k f u p mt' (upd G.F 0 R 0) _ s (G.Ls 0);rw[upd_same];exact .inl ⟨t,a⟩
def gO.ahD{H:dp}{p:cg}{S0:bt}{gs:dr}{G:Gh}(hA:∀g L,p g L->nD C n (Y4 C n H u p) g L)(h:gO C n H u p S0 k gs w Y G)(b:gw)(Q:gs[0]?=some g)(u4:g.status=.running)(hF:G.F 0=.leaf)(a:Deaf Y 0=G.mt.deaf)(J:G.mt.stop C n H u p g (G.Ls 0))
    (I:∀r,G.mt≠.go r)(z:G.mt≠.acq):Bh C n H u p S0 k gs w Y G b 0:=by
  let o:=h.gi.mode;let v:=h.gi.jm;let y:=h.wg;let hV:=Vc_le G.j (cB G.st);let u6:=h.gi.jn;let u7:=h.gi.n6;cases t:G.mt with
  | go r=>exact ar t (I r)
  | acq=>exact ar t z
  | kd r=>
    rw[t] at J a o v;obtain⟨l,d,R⟩:=J;exact h.lr (mt':=.add r) b Q (d w) (.refl _ w) (AT _ U (.inl U)) R F7 y v o id qx
  | add r=>
    rw[t] at J a o v;have s:ConcN.Mode G.j (cB G.st) (.sp r 5) G.sv G.mv:=o;generalize f:G.sv=sv at s;generalize K:G.mv=mv at s;cases s with
    | reg I=>exact I.elim
    | last L I=>exact I.elim
    | fin I=>exact I.elim
    | opn I z h3=>
      rw[f,K] at y;simp only[pend,Nat.not_succ_le_self,if_false,pT,show¬(5<=3) by omega] at y;obtain⟨l,d,hn⟩:=J (Vc G.j (cB G.st)) M;let S:ConcN.Mode G.j (cB G.st) (.sp r 3) ((((Vc G.j (cB G.st):Nat):Int)+1) *KK) 0:=by
        have:=ConcN.Mode.opn (tag:=.sp r 3) (j:=G.j) (D:=cB G.st) trivial z U;simp only[pend,dA,if_true] at this;rw[show((Vc G.j (cB G.st)+1:Nat):Int)=(Vc G.j (cB G.st):Int)+1 by omega] at this;exact this
      rcases hn with hn | hn
      · exact h.lr (mt':=.said r) b Q (d w y) (aside_setCell w (stA C.W) _) (Pn _) hn QC (y.setSt _) v S (λ_=>rfl) qx
      · exact h.lr (mt':=.en r) b Q (d w y) (aside_setCell w (stA C.W) _) (Pn _) hn QC (y.setSt _) v S (λ_=>rfl) qx
  | said r=>
    rw[t] at J a o v;obtain⟨l,d,R⟩:=J;exact h.lr (mt':=.en r) b Q (d w) (.refl _ w) (AT _ U (.inr (.inr rfl))) R F7 y v o id qx
  | en r=>
    rw[t] at J a o v;obtain⟨l,d,R⟩:=J;exact h.lr (mt':=.go r) b Q (d w) (.refl _ w) (AT _ U (.inl U)) R F7 y v o id qx
  | Ms=>
    rw[t] at J a o v;obtain⟨l,d,R⟩:=J;refine h.lr (mt':=.ld) b Q (d w) (.refl _ w) (AT _ U (.inl U)) R F7 y v ?_ id qx;have s:ConcN.Mode G.j (cB G.st) .kd G.sv G.mv:=o;generalize G.sv=sv at s ⊢;generalize G.mv=mv at s ⊢;cases s with
    | opn I z h3=>exact ConcN.Mode.opn (tag:=.w1) trivial z U
    | reg I=>exact I.elim
    | last L I=>exact I.elim
    | fin I=>exact I.elim
  | ld=>
    rw[t] at J a o v;obtain⟨⟨qJ,T,u1⟩,hv⟩:=J;have s:ConcN.Mode G.j (cB G.st) .w1 G.sv G.mv:=o;generalize f:G.sv=sv at s;generalize K:G.mv=mv at s;cases s with
    | reg I=>exact I.elim
    | last L I=>exact I.elim
    | fin I=>exact I.elim
    | opn I z h3=>
      rw[f,K] at y;simp only[pend,pT] at y;rcases pU (Vc G.j (cB G.st)) with e0 | e0
      · rw[e0] at y
        have E:WgAt C.ty C.W w 0 0:=by simpa using y
        exact h.lr (mt':=.Jd) b Q (T w E) (.refl _ w) (HT _) u1 QW E v (.fin trivial (allQuit_of z e0)) (λ_=>rfl) qx
      · obtain⟨l,d,hn⟩:=hv (Vc G.j (cB G.st)) e0 M
        refine h.lr (mt':=.O8 (Vc G.j (cB G.st))) b Q (d w y) (.refl _ w) (HT _) hn QW y v ?_ (λ_=>rfl) qx;have:=ConcN.Mode.opn (tag:=.w2 (Vc G.j (cB G.st))) (j:=G.j) (D:=cB G.st) trivial z (λvs e=>by cases e;exact⟨dA _,e0⟩)
        simpa [pend,jl.wN] using this
  | O8 vs=>
    rw[t] at J a o v;obtain⟨⟨acJ,X,u2⟩,⟨kF,B,u3⟩⟩:=J;have s:ConcN.Mode G.j (cB G.st) (.w2 vs) G.sv G.mv:=o;generalize f:G.sv=sv at s;generalize K:G.mv=mv at s;cases s with
    | reg I=>exact I.elim
    | last L I=>exact I.elim
    | fin I=>exact I.elim
    | opn I z h3=>
      rw[f,K] at y;simp only[pend,pT] at y;obtain⟨v1,v2⟩:=h3 vs rfl
      by_cases e:Vc G.j (cB G.st)=vs
      · rw[e] at y
        refine h.lr (mt':=.sdw) b Q (X w y) (aside_setCell w (stA C.W) _) (Pn _) u2 QC (y.setSt _) v ?_ (λ_=>rfl) qx;have:=ConcN.Mode.reg (tag:=.w3) (j:=G.j) (D:=cB G.st) trivial z M;rw[e] at this;exact this
      · refine h.lr (mt':=.ld) b Q (B w _ e M y) (.refl _ w) (HT _) (Way.bind u3 λg L x=>hA g L x.2) QW y v ?_ (λ_=>rfl) qx
        have:=ConcN.Mode.opn (tag:=.w1) (j:=G.j) (D:=cB G.st) trivial z U
        simpa [pend,jl.wN] using this
  | sdw=>
    rw[t] at J a o v;obtain⟨l,d,R⟩:=J;exact h.lr (mt':=.KD) b Q (d w) (.refl _ w) (AT _ U (.inr (.inl rfl))) R F7 y v o id qx
  | KD=>
    rw[t] at J a o v;obtain⟨_,_,u5,l,d,hn⟩:=id J;have s:ConcN.Mode G.j (cB G.st) .w3 G.sv G.mv:=o;have m:G.mv=0->Bh C n H u p S0 k gs w Y G b 0:=by
      intro e;rw[e] at y;refine h.qL b Q (u5 w _ y) {G with F:=G.F,Ls:=G.Ls,Sh:=G.Sh,q:=G.q}
        {j:=rfl,gi:=h.gi.To _ _ _ _,En:=λi hi=>⟨rfl,rfl,rfl⟩,BO:=λ_ _ _=>⟨rfl,rfl,rfl⟩,Eo:=λe=>ar rfl e,
          so:=λI _=>ar I M,sw:=λc _ e=>(by have:=h.eJ;omega),sm:=λ_=>?_,ti:=h.ti0 (.refl _ w) (acy _) _ _,same:=h.same,wg:=h.wg,nC:=h.nC,cat:=h.cat,nK:=h.nK,
          mv:=.inl id,sn:=.inl id,sb:=λ_=>⟨λ_=>e,λh=>ar rfl h⟩,rel:=λc _ e=>(by have:=h.eJ;omega),lt:=.inr ⟨rfl,.inr ⟨rfl,u4,rfl⟩⟩}
      show HB C n H u p G.mt (G.F 0) (deafBehind (Deaf Y 0) #[]) _ (G.Ls 0);rw[t,hF,show deafBehind (Deaf Y 0) #[]=Deaf Y 0 from rfl,a];exact .inr ⟨rfl,rfl,rfl,g,rfl,J⟩
    generalize f:G.sv=sv at s;generalize K:G.mv=mv at s m;cases s with
    | opn I=>exact I.elim
    | reg I z h3=>exact m rfl
    | last L I z h3 h4=>exact m rfl
    | sema z=>
      rw[f,K] at y;exact h.lr (mt':=.l4) b Q (d w y) (aside_setCell w (smA C.W) _) (acz _) hn (by rw[a];simp[jl.deaf,deafBehind,semEvents]) (y.setSm 0) v (.fin trivial z) (λ_=>rfl) qx
    | fin I=>exact I.elim
  | l4=>
    rw[t] at J a o v;obtain⟨l,d,R⟩:=J;have s:ConcN.Mode G.j (cB G.st) .w4 G.sv G.mv:=o;generalize f:G.sv=sv at s;generalize K:G.mv=mv at s;cases s with
    | opn I=>exact I.elim
    | reg I=>exact I.elim
    | last L I=>exact I.elim
    | fin I z=>
      rw[f,K] at y;exact h.lr (mt':=.Jd) b Q (d w y) (.refl _ w) (HT _) R QW y v (.fin trivial z) (λ_=>rfl) qx
  | Jd=>
    rw[t] at J a o v;obtain⟨l,d,R⟩:=J;have s:ConcN.Mode G.j (cB G.st) .ke G.sv G.mv:=o;generalize f:G.sv=sv at s;generalize K:G.mv=mv at s;cases s with
    | opn I=>exact I.elim
    | reg I=>exact I.elim
    | last L I=>exact I.elim
    | fin I z=>
      rw[f,K] at y;exact h.lr (mt':=.acq) b Q (d w) (.refl _ w) (AT _ U (.inl U)) R F7 y v (.fin trivial z) (λ_=>rfl) qx
def gO.Py{Q:dp}{p:cg}{S0:bt}{J:dr}{G:Gh}(h:gO C k Q u p S0 m J w Y G){r:Nat}(u7:G.mt=.go r)(sl:gw)(hx:J[0]?=some g)(q1:Deaf Y 0=0)(hs:BGo C k (B5 C k Q u p r) g (G.Ls 0)):Bh C k Q u p S0 m J w Y G sl 0:=by
 let hb:=h.eJ;let q2:=h.gi.jm;rw[u7] at q2;let t:G.j+(r+1)=C.n:=q2;have u3:=h.size;have hm:ConcN.Mode G.j (cB G.st) (.sp r 3) G.sv G.mv:=by have:=h.gi.mode;rw[u7] at this;exact this
 obtain⟨g',I,Lm,Lc,u8,v4,v5,v6,v7,v8,hn⟩:=hs;have u8:stepG C.P (0==0) g w=.spawn g' I w #[]:=u8 w (h.ti.res.sub 0);have u4:0<J.size:=(iL.1 hx).1
 -- where C4 first goes on
 obtain⟨K,v9,z1,z2,q3,H⟩:∃K:jl,nD C k (K.stop C k Q u p) g' Lm/\K.deaf=0/\(∀v v',K.eY C.n v<(jl.go r).eY C.n v')/\K.ok C.n (G.j+1)/\ConcN.Mode (G.j+1) (cB (upd G.st G.j 8)) K.wN G.sv G.mv:=by
  have H:∀tg,isOpen tg->pend tg=0->(∀vs,tg≠.w2 vs)->ConcN.Mode (G.j+1) (cB (upd G.st G.j 8)) tg G.sv G.mv:=by
   intro tg ho hp z3;generalize G.sv=sv at hm ⊢;generalize G.mv=mv at hm ⊢;cases hm with
   | reg R=>exact R.elim
   | last L R=>exact R.elim
   | fin R=>exact R.elim
   | opn R z h3=>
    have:=ConcN.Mode.opn (tag:=tg) (j:=G.j+1) (D:=cB (upd G.st G.j 8)) ho (λa s=>by
     by_cases e:a=G.j
     .subst e;simp[cB,upd_same]
     .simp only[cB,upd_ne _ _ e];exact z a M) (λvs e=>ar e (z3 vs))
    have hv:Vc (G.j+1) (cB (upd G.st G.j 8))=Vc G.j (cB G.st)+1:=by
     simp only[Vc,sumTo];have e1:(sumTo G.j λi=>cnt (cB (upd G.st G.j 8) i))=sumTo G.j λi=>cnt (cB G.st i):=sumTo_congr λa s=>by simp only[cB,upd_ne _ _ (show a≠G.j by omega)]
     rw[e1];simp[cB,upd_same,cnt]
    rw[hv,hp] at this
    simpa [pend] using this
  cases r with
  | zero=>exact⟨.Ms,hn,rfl,λv v'=>by simp only[jl.eY];omega,(show G.j+1=C.n by omega),H _ trivial rfl (by simp[jl.wN])⟩
  | succ r=>exact⟨.kd r,hn,rfl,λv v'=>by simp only[jl.eY];omega,(show G.j+1+(r+1)=C.n by omega),H _ trivial rfl (by simp[jl.wN])⟩
 obtain⟨Tm,q4⟩:=Way.at v9;have B:=runT_crowd_spawn (P:=C.P) (sl:=sl) (i:=0) hx u8;have q5:((MemOp.ofEvents 0 g.frame.fn g.frame.place #[]).push {g:=0,fn:=g.frame.fn,pos:=g.frame.place,act:=.go J.size} |>.push {g:=J.size,fn:=I.frame.fn,pos:=g.frame.place,act:=.start})=
   #[{g:=0,fn:=g.frame.fn,pos:=g.frame.place,act:=.go J.size},{g:=J.size,fn:=I.frame.fn,pos:=g.frame.place,act:=.start}]:=rfl
 rw[q5] at B;generalize hX:({g:=0,fn:=g.frame.fn,pos:=g.frame.place,act:=.go J.size}:MemOp)=X at B;generalize hY:({g:=J.size,fn:=I.frame.fn,pos:=g.frame.place,act:=.start}:MemOp)=d at B;have q6:X.g=0/\X.act=.go J.size:=Qu
 have q7:d.g=J.size/\d.act=.start:=Lt
 have u9:∀op∈(#[X,d]:Array MemOp),op.act.touch?=none/\∀o,op.act≠.mark o:=by
  intro op ho;simp only[zh,eP,kB,or_false] at ho;rcases ho with rfl | rfl
  .rw[q6.2];exact⟨rfl,U⟩
  .rw[q7.2];exact⟨rfl,U⟩
 have u1:∀i,Deaf (Y++#[X,d]) i=Deaf Y i:=oX λop ho=>(u9 op ho).2;have get:∀i,i≠0->i<J.size->((J.setIfInBounds 0 g').push I)[i]?=J[i]?:=λi hi hl=>by
  rw[GC,A bU,jI (dG hi)]
 have u5:((J.setIfInBounds 0 g').push I)[0]?=g':=by
  rw[GC,A bU,oZ u4]
 have u6:((J.setIfInBounds 0 g').push I)[J.size]?=I:=by
  rw[GC,ax U]
 have u2:((J.setIfInBounds 0 g').push I).size=J.size+1:=U
 have z4:=h.ti.spawn h.ok M u4 q6 q7 q1 (h.above _ (dA _)) v4 v5 v6 v7;have q0:G.j<C.n:=M
 -- C4 measure
 obtain⟨f,hf⟩:∃f,f=C.μ G:=⟨_,rfl⟩;obtain⟨Tc,q8⟩:=Way.at (v8 (f+1));obtain⟨T,W⟩:∃T:Gh,T={G with j:=G.j+1,st:=upd G.st G.j 8,fu:=upd G.fu G.j (f+1),F:=upd (upd G.F 0 Tm) J.size Tc,Ls:=upd (upd G.Ls 0 Lm) J.size Lc,mt:=K}:=⟨_,rfl⟩;have q9:G.ws G.j=Xp:=h.gi.fresh _ (dA _) q0;have z7:sumTo C.n (wv T)<sumTo C.n (wv G):=by
  have e:wv T=upd (wv G) G.j 23:=by
   funext i
   rw[W]
   by_cases e:i=G.j
   .subst e;simp only[wv,upd_same];rw[ax M,ax trivial,q9]
    rfl
   .simp only[wv,upd_ne _ _ e]
    by_cases e2:i<G.j
    .rw[ax M,ax e2]
    .rw[A M,A e2]
  have R:sumTo C.n (upd (wv G) G.j 23)+wv G G.j=sumTo C.n (wv G)+23:=sumTo_upd (wv G) 23 id q0;have z:wv G G.j=40:=by simp[wv]
  rw[e];omega
 have hμ:C.μ T<C.μ G:=by
  have R:C.μ T=C.wi G.ts G.S G.c+(sumTo C.n (wv T)+K.eY C.n (Vc (G.j+1) (cB (upd G.st G.j 8)))):=by
   unfold bH.μ;rw[W]
  have z:C.μ G=C.wi G.ts G.S G.c+(sumTo C.n (wv G)+(jl.go r).eY C.n (Vc G.j (cB G.st))):=by unfold bH.μ;rw[u7]
  have:=z2 (Vc (G.j+1) (cB (upd G.st G.j 8))) (Vc G.j (cB G.st));omega
 have v0:GI C T:=by
  have z6:∀l,l<G.j->upd G.st G.j 8 l=G.st l:=λl E=>upd_ne _ _ M;have v1:∀l,l<G.j+1->T.st l=8->C.μ T<=T.fu l:=by
   intro l E h8
   by_cases e:l=G.j
   .subst e;have:T.fu G.j=f+1:=by rw[W];show upd G.fu G.j (f+1) G.j=_;rw[upd_same]
    rw[this];omega
   .have e1:T.fu l=G.fu l:=by rw[W];exact upd_ne _ _ e
    have e2:T.st l=G.st l:=by rw[W];exact upd_ne _ _ e
    rw[e2] at h8;rw[e1];have:=h.gi.fuel l M h8;omega
  rw[W] at v1 ⊢;refine⟨q0,h.gi.n1,h.gi.n6,q3,h.gi.inv,h.gi.LN,h.gi.EM,h.gi.pc,λl E=>h.gi.fresh l (by simp only at E;omega),λl E=>?_,λl E h7=>?_,h.gi.ji,h.gi.tk,v1,H⟩
  .by_cases e:l=G.j
   .subst e;simp only[upd_same];exact .inr trivial
   .simp only at E;simp only[upd_ne _ _ e];exact h.gi.Qn l M
  .by_cases e:l=G.j
   .subst e;simp only[upd_same] at h7;omega
   .simp only at E;simp only[upd_ne _ _ e] at h7;exact h.gi.dn l M h7
 have z5:∀i,i≠0->i≠J.size->upd (upd G.Ls 0 Lm) J.size Lc i=G.Ls i:=λi R z=>by rw[upd_ne _ _ z,upd_ne _ _ R]
 have v2:∀i,i≠0->i≠J.size->upd (upd G.F 0 Tm) J.size Tc i=G.F i:=λi R z=>by rw[upd_ne _ _ z,upd_ne _ _ R]
 refine⟨_,_,_,B,?_,_,w,sl,T,rfl,?_,rfl⟩
 .unfold O5 pO;exact Prod.Lex.left _ _ (Prod.Lex.left _ _ hμ)
 .rw[W] at v0 ⊢;refine{ok:=h.ok,gi:=v0,size:=by rw[u2,u3];rfl,eJ:=hb,old:=λi y R z hy=>?_,wk:=λl E=>?_,mn:=⟨g',u5,?_⟩,above:=λi hi=>?_,ti:=by rw[u2];exact z4,same:=h.same,wg:=h.wg,nC:=h.nC,cat:=h.cat,nK:=h.nK,bm:=λy hy hb=>?_,bw:=λl y E hy hb=>?_,rel:=λl E hs=>?_}
  .rw[get i M M] at hy;show QuitsD C.P (G.q i) _ y/\upd (upd G.F 0 Tm) J.size Tc i=_;rw[u1,v2 i M M];exact h.old i y R z hy
  .show ∃y,_/\BW C k (upd G.st G.j 8 l) (G.ws l) (upd G.fu G.j (f+1) l) (upd (upd G.F 0 Tm) J.size Tc (C.base+l)) _ y (upd (upd G.Ls 0 Lm) J.size Lc (C.base+l)) w
   by_cases e:l=G.j
   .subst e;refine⟨I,by rw[<-u3];exact u6,?_⟩;rw[u1,<-u3,upd_same,upd_same,upd_same,upd_same,h.above _ (dA _),q9];exact .own q8
   .have b:l<G.j:=by simp only at E;omega
    rw[upd_ne _ _ e,upd_ne _ _ e,u1,z5 _ M M,v2 _ M M,get _ M M];exact h.wk l b
  .show HB C k Q u p K (upd (upd G.F 0 Tm) J.size Tc 0) _ g' (upd (upd G.Ls 0 Lm) J.size Lc 0);rw[u1,q1,upd_ne _ _ M,upd_same,upd_ne _ _ M,upd_same];exact .inl ⟨q4,z1.symm⟩
  .rw[u1];rw[u2] at hi;exact h.above i M
  .rw[u5] at hy;cases hy;have:=q4.running λ_ _ x=>x.1;rw[hb] at this;cases this
  .by_cases e:l=G.j
   .subst e;rw[<-u3,u6] at hy;cases hy;have:=q8.running λ_ _ x=>x.run;rw[hb] at this;cases this
   .have b:l<G.j:=by simp only at E;omega
    rw[get _ M M] at hy;exact h.bw l y b hy hb
  .have hs:upd G.st G.j 8 l<=6:=hs
   by_cases e:l=G.j
   .subst e;rw[upd_same] at hs;omega
   .have b:l<G.j:=by simp only at E;omega
    rw[upd_ne _ _ e] at hs;obtain⟨r',R,z⟩:=h.rel l b hs;refine⟨r',R,z.app (Ad z.1 λop ho=>(u9 op ho).1) λop ho _ y hy=>?_⟩;rw[(u9 op ho).1] at hy;cases hy
def gO.at{q:dp}{p:cg}{v:dr}{G:Gh}(h:gO C n q u p D k v w Y G)(d:Nat):gO C n q u p D k v (w.at d) Y G:=
  {h with
    wk:=λc f=>let⟨g,z,a⟩:=h.wk c f;⟨g,z,a.rely h.ok h.Φ h.Φ⟩
    ti:={h.ti with res:=⟨h.ti.res.sub,h.ti.res.apart,h.ti.res.sh,h.ti.res.ml,h.ti.res.qm,h.ti.res.seen,h.ti.res.clean,h.ti.res.qH,h.ti.res.atomic⟩}
    same:=h.same.at d
    wg:=h.wg
    nC:=h.nC
    cat:=h.cat
    nK:=h.nK}
def BW.adT{s:Ws}{T:Tree}{d:Nat}(h:BW C n k s m T d g L w):g.status=.running\/g.status=.finished\/g.status=.blocked:=by
 cases h with
 | own h=>exact .inl (h.running λ_ _ x=>x.run)
 | blk=>exact .inr (.inr rfl)
 | dn h=>exact .inl (Goes.running (λ_ _ x=>x.1) _ (RW.refl _) h)
 | iC _ h=>exact(WSit.status h).imp id .inl
def BW.afs{s:Ws}{T:Tree}{d:Nat}(h:BW C n k s m T d g L w)(z:2<=k)(u:k<=7):g.status=.running:=by
 cases h with
 | own h=>omega
 | blk=>omega
 | dn h=>exact Goes.running (λ_ _ x=>x.1) _ (RW.refl _) h
 | iC _ h=>exact WSit.running_of h M
def BW.work{s:Ws}{T:Tree}{d:Nat}(h:BW C n k s m T d g L w)(u:k=8):g.status=.running\/(g.status=.blocked/\s.T.pc=.s1):=by
 cases h with
 | own h=>exact .inl (h.running λ_ _ x=>x.run)
 | blk _ h _=>exact .inr ⟨rfl,h⟩
 | dn h=>omega
 | iC _ h=>omega
def BW.quits{s:Ws}{T:Tree}(h:BW C n 1 s k T m g L w):∃q,QuitsD C.P q m g:=by
 generalize u:1=r at h;cases h with
 | own h=>omega
 | blk=>omega
 | dn h=>omega
 | iC _ hl=>
  cases hl with
  | quit hq=>exact⟨_,hq⟩
  | _=>omega
def gO.awake{v:dp}{p:cg}{c:dr}{G:Gh}(h:gO C n v u p D k c w Y G):∀g∈c,Go.Conc.awake g:=by
 intro g m f;let⟨i,z⟩:=IM.1 m;let j:=(iL.1 z).1;let r:=h.size;let d:=h.eJ;rcases pU i with rfl | b
 .let⟨a,s,o⟩:=h.mn;rw[z] at s;cases s;rcases o with⟨q,_⟩ | ⟨_,_,_,g0,rfl,_⟩
  .rw[q.running λ_ _ x=>x.1];simp
  .simp
 by_cases q:i<C.base
 .let⟨l,_⟩:=h.old i g b q z;rcases l.status with e | e <;> rw[e] <;> simp
 .let⟨y,t,o⟩:=h.wk (i - C.base) M;rw[show C.base+(i - C.base)=i by omega] at t o;rw[z] at t;cases t;rcases o.adT with e | e | e <;> rw[e] <;> simp
def gO.K0{J:dp}{p:cg}{R:dr}{G:Gh}(h:gO C k J u p D m R w Y G):∃(i:Nat) (g:aT),R[i]?=g/\g.status=.running:=by
 let⟨a,E,hs⟩:=h.mn;rcases hs with⟨h1,_⟩ | ⟨PI,_,_,g0,rfl,_⟩
 .exact⟨0,a,E,h1.running λ_ _ x=>x.1⟩
 .have q:=h.bm _ E rfl;have I:=h.gi.mode;rw[PI] at I;have I:ConcN.Mode G.j (cB G.st) .w3 G.sv G.mv:=I;generalize G.sv=sv at I;generalize G.mv=mv at I q
  -- one ajm is at its end,bT not gone
  have iC:∀c,c<G.j->2<=G.st c->G.st c<=7->∃(i:Nat) (g:aT),R[i]?=g/\g.status=.running:=by
   intro c f z K;let⟨y,Q,S⟩:=h.wk c f;exists _,y,Q;exact S.afs z K
  cases I with
  | opn h1=>exact h1.elim
  | fin h1=>exact h1.elim
  | sema=>cases q
  | last L h1 z h3 h4=>
   simp[cB] at h3;exact iC L z M M
  | reg h1 z h3=>
   let⟨c,f,h5⟩:=exists_counted h3;simp[cB] at h5;rcases h.gi.Qn c f with⟨_,K⟩ | h8
   .exact iC c f M K
   .let⟨y,Q,S⟩:=h.wk c f;rcases S.work h8 with b | ⟨d,T⟩
    .exact⟨_,y,Q,b⟩
    .-- afC can go on bT one in C4 lock
     have h0:=h.bw c _ f Q d;have W:=lg f h.gi.jn;let⟨az,hU,l,X⟩:=h.gi.inv.live (fZ (h.gi.EM c W)) T M M;let⟨v,F⟩:=vr.1 hU;have t:v<C.n:=by
      have:=(eO.1 F).1;rw[h.gi.LN] at this;exact this
     have hT:=h.gi.EM v t;rw[F] at hT;cases hT;have r:v<G.j:=by
      rcases Cn v G.j with e | e
      .exact e
      .rw[h.gi.fresh v e t] at X;exact ar rfl X
     have o:G.st v=8:=by
      rcases h.gi.Qn v r with⟨_,K⟩ | o
      .have H:=h.gi.pc v t;unfold Bu at H;rw[h.gi.dn v r K] at H;exact ar H X
      .exact o
     let⟨y',B,s⟩:=h.wk v r;exists _,y',B;rcases s.work o with b | ⟨_,H⟩
     .exact b
     .exact ar H l
def gO.Jg{b:bH}{nt:Nat}{Post:Value->World->Prop}{W0:World}{Anch:Goroutine->LH->Prop}{S0:Nat->Prop}{n0:Nat}{gs:Array Goroutine}{w:World}{t:Trace}{G:Gh}(h:gO b nt Post W0 Anch S0 n0 gs w t G)(PI:G.mt=.acq){g:Goroutine}(sl:Option (Nat×Nat))(hx:gs[0]?=g)(hd0:Deaf t 0=0)(hs:Xs b Post W0 g (G.Ls 0)):
  ∃m' ops,runT b.P (crowd gs w sl) 0=(.next m',ops)/\fM b.P Post m' (t++ops):=by
 obtain⟨g',hgo,hF⟩:=hs;have hgo:=hgo w;have hb:=h.eJ;have hsz:=h.size;have hok:=h.gi.jm;rw[PI] at hok;have hjn:G.j=b.n:=hok;have h0lt:0<gs.size:=(Array.getElem?_eq_some_iff.1 hx).1;have oe:∀k,k<G.j->G.st k=1:=by
  have hm:=h.gi.mode;rw[PI] at hm;have hm:ConcN.Mode G.j (cB G.st) .acq G.sv G.mv:=hm;generalize G.sv=sv at hm;generalize G.mv=mv at hm;cases hm with
  | opn h1=>exact h1.elim
  | reg h1=>exact h1.elim
  | last L h1=>exact h1.elim
  | fin h1 h2=>intro k hk;have:=h2 k hk;simp only[cB] at this;omega
 have hdn:∀k,k<b.n->(G.ws k).ph=.done:=λk hk=>h.gi.dn k (by omega) (by have:=oe k (by omega);omega);have ho:G.o=none:=by
  cases ho:G.o with
  | none=>rfl
  | some y=>
   obtain⟨k,hk,_,hp⟩:=h.gi.tk.W9 y ho;rw[hdn k hk] at hp;cases hp
 have hK:=h.gi.ji.end h.gi.n1 hdn;have hX:=h.nC;have hB:=h.nK;have hFG:=hF G.K (Mu.enc G.S.w) ((G.S.n+G.S.h:Nat):Int) hK (h.ti.res.sh 0 b.X h.ti.EA) (h.ti.res.sh 0 b.B h.ti.KQ);have hrun:=runT_crowd_go (P:=b.P) (sl:=sl) (i:=0) hx (show stepG b.P (0==0) g w=_ from hgo);refine⟨_,_,hrun,?_⟩;have hti:=h.ti.mark h.ok 0 g.frame.fn g.frame.place (m:=.acquire (stA b.W)) rfl (by simp);rw[tY] at hti ⊢;generalize hY:({g:=0,fn:=g.frame.fn,pos:=g.frame.place,act:=.mark (.acquire (stA b.W))}:MemOp)=Y at hti;have hYa:Y.g=0/\Y.act=.mark (.acquire (stA b.W)):=by rw[<-hY];exact⟨rfl,rfl⟩
 have hnt:∀op∈(#[Y]:Array MemOp),op.act.touch?=none:=by
  intro op ho;simp only[List.mem_toArray,List.mem_cons,List.not_mem_nil,or_false] at ho;subst ho;rw[hYa.2];rfl
 have hdf:∀i,Deaf (t++#[Y]) i=Deaf t i:=by
  intro i
  by_cases e:i=0
  .subst e;have:=Deaf_own t 0 g.frame.fn g.frame.place #[Go.ConcR.mk (.acquire (stA b.W))];rw[tY,hY] at this;rw[this];simp[deafBehind,Go.ConcR.mk]
  .exact Deaf_other t (Ne.symm e) _ λop ho=>by simp at ho;rw[ho];exact hYa.1
 have old:∀{idx:Nat} {a:Touch},touchAt (t++#[Y]) idx=some a->touchAt t idx=some a:=nk hnt;have hYp:(t++#[Y])[t.size]?=Y:=by rw[Array.getElem?_append_right (Nat.le_refl _)];simp
 have hYh:(t++#[Y]).heard t.size:=⟨0,by rw[Trace.g?,hYp];simp[hYa.1],by rw[deaf_old (Nat.le_refl _)];exact hd0⟩;have hrR:∀k r,n0<=r->RelBy (stA b.W) t (b.base+k) r->HappensBefore (t++#[Y]) r t.size:=by
  intro k r hn hr;have hrt:=lt_of_act? hr.act;refine .single (.inr ⟨.marked hrt (.inr (by rw[act?_old hrt];exact hr.act)) (by rw[act?_of hYp,hYa.2]) (λi hi1 hi2=>?_),(heard_old hrt).2 hr.heard,hYh⟩);rw[act?_old (by omega)];exact h.ti.norel i (by omega)
 -- ajy a YZ did SW before this,or counts for nothing
 have hmem:∀i op y,n0<=i->t[i]?=some op->op.g≠0->op.act.touch?=some y->HappensBefore (t++#[Y]) i t.size\/(¬t.counts i/\dQ y.loc=b.W):=by
  intro i op y hi ho CC hy;have PG:=lt_size_of_getElem? ho;have hgi:t.g? i=op.g:=by simp[Trace.g?,ho]
  rcases h.ti.rv i op hi ho (by rw[hy];simp) with e | ⟨e1,e2⟩
  .exact absurd e CC
  .have hk:op.g - b.base<G.j:=by omega
   obtain⟨r,hn,hr,hr2⟩:=h.rel (op.g - b.base) hk (by have:=oe _ hk;omega);rw[show b.base+(op.g - b.base)=op.g by omega] at hr hr2;have hrt:=lt_of_act? hr.act;have hrr:=hrR (op.g - b.base) r hn (by rw[show b.base+(op.g - b.base)=op.g by omega];exact hr);rcases Nat.lt_trichotomy i r with SY | rfl | hgt
   .left
    exact .trans (.single (.inl ⟨SY,op.g,by rw[g?_old PG];exact hgi,by rw[g?_old hrt];exact hr.g⟩)) hrr
   .exact .inl hrr
   .exact .inr ⟨hr.after i hgt hgi,hr2 i op y hgt ho rfl hy⟩
 have hLv:∀i,∃n,∀y,0<i->gs[i]?=some y->QuitsD b.P n (Deaf t i) y:=by
  intro i
  by_cases hi:0<i/\i<gs.size
  .by_cases h1:i<b.base
   .exact⟨G.q i,λy _ hy=>(h.old i y hi.1 h1 hy).1⟩
   .obtain⟨y,hy,hw⟩:=h.wk (i - b.base) (by omega);rw[show b.base+(i - b.base)=i by omega] at hy hw;rw[oe (i - b.base) (by omega)] at hw;obtain⟨q,hq⟩:=hw.quits;exact⟨q,λy' _ JA=>by rw[hy] at JA;cases JA;exact hq⟩
  .exact⟨0,λy h0 hy=>absurd ⟨h0,(Array.getElem?_eq_some_iff.1 hy).1⟩ hi⟩
 have hput:∀y v,(((G.Ls 0).put b.X (b.xo (Mu.enc G.S.w) ((G.S.n+G.S.h:Nat):Int))).put b.B (b.ob G.K)) y=some v->(y=b.B/\v=(b.ob G.K,true))\/(y=b.X/\v=(b.xo (Mu.enc G.S.w) ((G.S.n+G.S.h:Nat):Int),true))\/G.Ls 0 y=v:=by
  intro y v hv;rcases H9 hv with⟨e1,e2⟩ | ⟨_,e2⟩
  .exact .inl ⟨e1,e2⟩
  .rcases H9 e2 with⟨e3,e4⟩ | ⟨_,e4⟩
   .exact .inr (.inl ⟨e3,e4⟩)
   .exact .inr (.inr e4)
 have hSS:∀y,(S0 y\/y=b.W\/y=b.N)->G.Sh y:=λy hy=>hy.elim (h.ti.CX y) λhy=>hy.elim (λe=>e▸h.ti.sO) (λe=>e▸h.ti.MB);refine hFG _ w sl _ (λi=>(hLv i).choose) (λy=>S0 y\/y=b.W\/y=b.N) (by rw[Array.getElem?_setIfInBounds_self_of_lt (by simpa using h0lt)]) (λy v wr hv=>?_) h.same ⟨λi y hi hy=>?_,λi hi=>?_⟩
  ⟨λsaid=>hti.res.clean said,λi a y ha hyb=>?_,λi gg hg CC hc=>?_,by rw[hdf];exact hd0,λi a y ha hyb=>hti.res.seen i a y ha hyb⟩ λy hy=>⟨h.ti.res.ml y (hSS y hy),?_⟩
 .rcases hput y _ hv with⟨e,e2⟩ | ⟨e,e2⟩ | e
  .cases e2;rw[e];exact hB
  .cases e2;rw[e];exact hX
  .exact h.ti.res.sub 0 y v wr e
 .rw[Array.getElem?_setIfInBounds_ne (by omega),Array.getElem?_map] at hy;obtain⟨z,hz,rfl⟩:=Option.map_eq_some_iff.1 hy;have:=(hLv i).choose_spec z hi hz;rw[woken_quitsD this,hdf];exact this
 .rw[hdf];exact h.above i (by simpa using hi)
 .have ha':=old ha;obtain⟨op,ho,hoa⟩:=touch_of ha';have PG:=lt_size_of_getElem? ho
  by_cases hi:i<n0
  .exact(h.ti.known i a y hi ha' hyb).imp (·.app _) λx=>⟨.inl x.1,x.2⟩
  .by_cases hg0:op.g=0
   .left
    have:=knows_own (t:=t++#[Y]) (i:=i) (z:=op) (by rw[getElem?_append_old PG];exact ho);rw[hg0] at this;exact this
   .rcases hmem i op a (by omega) ho hg0 hoa with hh | ⟨hh,hw⟩
    .exact .inl ⟨t.size,Y,hYp,hYa.1,.inr hh⟩
    .right
     rw[hyb] at hw;cases hw;refine⟨.inr (.inl rfl),Classical.byContradiction λhk=>hh ⟨a,ha',by cases hl:a.loc <;> rw[hl] at hyb <;> simp[dQ] at hyb <;> rfl,.inl hk⟩⟩
 .have hc':(t++#[Y]).counts i:=hc;obtain⟨x,sJ,hm',CB⟩:=hc';have ha':=old (idx:=i) (a:=x) sJ;obtain⟨op,ho,hoa⟩:=touch_of ha';have PG:=lt_size_of_getElem? ho;have hct':t.counts i:=(counts_old PG).1 hc;rw[g?_old PG] at hg;have hgo':op.g=gg:=by simpa [Trace.g?,ho] using hg
  by_cases hi:i<n0
  .obtain⟨j',hj',PE⟩:=h.ti.over i gg hi hg CC hct';have hjl:j'<t.size:=by
    unfold Trace.g? at hj';obtain⟨z,hz,_⟩:=Option.map_eq_some_iff.1 hj';exact lt_size_of_getElem? hz
   exact⟨j',by rw[g?_old hjl];exact hj',hb_app _ PE⟩
  .rcases hmem i op x (by omega) ho (by rw[hgo'];exact CC) hoa with hh | hh
   .exact⟨t.size,by rw[Trace.g?,hYp];simp[hYa.1],hh⟩
   .exact absurd hct' hh.1
 .cases hp:(((G.Ls 0).put b.X (b.xo (Mu.enc G.S.w) ((G.S.n+G.S.h:Nat):Int))).put b.B (b.ob G.K)) y with
  | none=>rfl
  | some v=>
   exfalso
   rcases hput y v hp with⟨e,_⟩ | ⟨e,_⟩ | e
   .rcases hy with hy | hy | hy
    .exact h.ok.s0 (e▸hy)
    .exact h.ok.wb (hy.symm.trans e)
    .exact h.ok.nb (hy.symm.trans e)
   .rcases hy with hy | hy | hy
    .exact h.ok.s0X (e▸hy)
    .exact h.ok.wx (hy.symm.trans e)
    .exact h.ok.nx (hy.symm.trans e)
   .rw[h.ti.res.sh 0 y (hSS y hy)] at e;cases e
def Vl{b:bH}{u:dp}{p:cg}{S0:bt}{n0:Nat}(S:∀g L,p g L->nD b k (Y4 b k u w p) g L):∀μ m t,BInv b k u w p S0 n0 μ m t->fM b.P u m t:=by
 intro μ
 induction μ using (pO.wf (b.base+b.n)).induction with
 | _ μ ih=>
 intro m t T;obtain⟨D,j,sl,G,rfl,h,rfl⟩:=T;let⟨i,g,d,f,I,J,y⟩:=crowd_pick (P:=b.P) (w:=j) (sl:=sl) h.awake h.K0;have h:=h.at d;have done:Bh b k u w p S0 n0 D (j.at d) t G f i->fM b.P u (crowd D j sl) t:=by
  rintro⟨H,F,vd,q,z,h3⟩;exact fM.next (y.trans q) (ih vd z H _ h3)
 have W:=(iL.1 I).1;have X:=h.size;have hb:=h.eJ;rcases pU i with rfl | hp
 .let⟨a,s,o⟩:=h.mn;rw[I] at s;cases s;rcases o with⟨dq,hd⟩ | ⟨_,_,_,g0,rfl,_⟩
  .rcases dq.HQ with⟨⟨_,hs⟩,hl⟩ | ⟨_,hs⟩
   .by_cases q:∃r,G.mt=.go r
    .let⟨r,Q⟩:=q;rw[Q] at hs hd;exact done (h.Py Q f I hd hs)
    .by_cases z:G.mt=.acq
     .rw[z] at hs hd;let⟨H,F,C,B⟩:=h.Jg z f I hd hs;exact fM.next (y.trans C) B
     .exact done (h.ahD S f I J hl hd hs (λr e=>q ⟨r,e⟩) z)
   .exact done (h.wU (K:=λR l v=>At b.P true (b.Φ k) (λg L=>g.status=.running/\G.mt.stop b k u w p g L) R l v) f I (.inl rfl) hs (λ_ _ _ x=>x.running λ_ _ x=>x.1) (λc _ e=>by omega) (λ_ R l v E=>.inl ⟨E,hd⟩))
  .cases J
 by_cases q:i<b.base
 .exact done (h.J9 hp q f I J)
 .have:=h.workerStep (k:=i - b.base) M f (by rw[show b.base+(i - b.base)=i by omega];exact I) J;rw[show b.base+(i - b.base)=i by omega] at this;exact done this
def pJ.aiA{nt:Nat}{Q:dp}{Anch:cg}(b:bH)(n1:1<=b.n)(n6:b.n<=6)(I:∀S0,¬S0 b.B->¬S0 b.X->b.Ok S0)
  (hW:L b.W=some (wgBlock b.ty 0 0,true))(hX:L b.X=some (b.xo 0 0,true))(hN:L b.N=some (bH.cnt nt 0,true))(hB:L b.B=some (b.ob [],true))
  (hA:∀k g L,Anch g L->nD {b with base:=k} nt (Y4 {b with base:=k} nt Q w Anch) g L)
  (hM:∀k m,b.n=m->B5 {b with base:=k} nt Q w Anch m g (λy=>if y=b.W\/y=b.X\/y=b.N\/y=b.B then none else L y)):pJ b.P Q w g L:=by
 intro C d sl t q S h0 hs hS u6 hP u4;have u7:0<C.size:=(iL.1 h0).1;have u5:∀y,L y≠none->¬S y:=λy H hs=>H (u4 y hs).2;have p:∀i a y,touchAt t i=some a->dQ a.loc=some y->L y≠none->Knows t 0 i:=λi a y s hb hl=>(hP.known i a y s hb).resolve_right λx=>u5 y hl x.1;have I:=I S (u5 _ (by rw[hB];simp)) (u5 _ (by rw[hX];simp));have u8:({b with base:=C.size}:bH).Ok S:=⟨I.wn,I.wx,I.wb,I.nx,I.nb,I.xb,I.ma,I.ms,I.s0,I.s0X,I.xm⟩;have u2:∀y,L y≠none->y<d.heap.size:=λy H=>hs.lt H;obtain⟨r,hr⟩:∃r,b.n=r+1:=⟨b.n - 1,M⟩;obtain⟨T,h⟩:=Way.at (show nD {b with base:=C.size} nt (BKd {b with base:=C.size} nt (B5 {b with base:=C.size} nt Q w Anch r)) g (λy=>if y=b.W\/y=b.X\/y=b.N\/y=b.B then none else L y) from hM C.size (r+1) hr);have u9:∀y v,(λy=>if y=b.W\/y=b.X\/y=b.N\/y=b.B then none else L y) y=some v->L y=v/\¬(y=b.W\/y=b.X\/y=b.N\/y=b.B):=by
  intro y v R;simp only at R
  split at R
  .cases R
  .exact⟨R,by assumption⟩
 have q1:∀l,({b with base:=C.size}:bH).mu l->dQ l=b.X:=λl hm=>by
  rcases hm with rfl | rfl
  .rw[<-I.ma];rfl
  .rw[<-I.ms];rfl
 have z:∀i,({b with base:=C.size}:bH).Pt C.size i->i=0:=λi G=>by
  unfold bH.Pt at G;simp only at G;omega
 have q0:oD (upd (λ_=>LH.nil) 0 (λy=>if y=b.W\/y=b.X\/y=b.N\/y=b.B then none else L y)) (λy=>y=b.W\/y=b.X\/y=b.N\/y=b.B\/S y) (λx=>x=b.W\/x=b.N) (({b with base:=C.size}:bH).Pt C.size) d t:=by
  refine⟨λi=>?_,λi j y v q2 R=>?_,λi y H=>?_,λy H=>?_,λi J a y v wr s H R hw=>?_,hP.seen,hP.clean,λy H=>?_,λJ a y s H hA hp i G=>?_⟩
  .by_cases e:i=0
   .subst e;rw[upd_same];exact λy v wr R=>hs y v wr (u9 y _ R).1
   .rw[upd_ne _ _ e];intro y v wr R;cases R
  .by_cases e:i=0
   .subst e;rw[upd_ne _ _ (dG q2)];rfl
   .rw[upd_ne _ _ e] at R;cases R
  .by_cases e:i=0
   .subst e;rw[upd_same];show(if y=b.W\/y=b.X\/y=b.N\/y=b.B then none else L y)=none
    split
    .rfl
    .rename_i hh;rcases H with e | e | e | e | e
     .exact ar (.inl e) hh
     .exact ar (.inr (.inl e)) hh
     .exact ar (.inr (.inr (.inl e))) hh
     .exact ar (.inr (.inr (.inr e))) hh
     .exact(u4 y e).2
   .rw[upd_ne _ _ e];rfl
  .rcases H with e | e | e | e | e
   .subst e;exact u2 _ (by rw[hW];simp)
   .subst e;exact u2 _ (by rw[hX];simp)
   .subst e;exact u2 _ (by rw[hN];simp)
   .subst e;exact u2 _ (by rw[hB];simp)
   .exact(u4 y e).1
  .by_cases e:i=0
   .subst e;rw[upd_same] at R;exact p J a y s H (by rw[(u9 y _ R).1];simp)
   .rw[upd_ne _ _ e] at R;cases R
  .rcases H with e | e
   .exact .inl e
   .exact .inr (.inr (.inl e))
  .rw[z i G];refine p J a y s H ?_;rcases hA with e | e
   .subst e;rw[hW];simp
   .subst e;rw[hN];simp
 refine Vl (b:={b with base:=C.size}) (S0:=S) (n0:=t.size) (hA C.size) _ _ t ⟨C,d,sl,{j:=0,st:=λ_=>0,ws:=λ_=>Xp,fu:=λ_=>0,F:=λi=>if i=0 then T else Tree.num (q i),q:=q,mt:=.kd r,Ls:=upd (λ_=>LH.nil) 0 (λy=>if y=b.W\/y=b.X\/y=b.N\/y=b.B then none else L y),Sh:=λy=>y=b.W\/y=b.X\/y=b.N\/y=b.B\/S y,o:=none,ts:=List.replicate b.n N3,S:=⟨Mu.Wd.zero,0,0⟩,c:=0,K:=[],sv:=0,mv:=0},rfl,?_,rfl⟩;have u3:∀T'∈List.replicate b.n N3,T'=N3:=λT' u1=>(List.mem_replicate.1 u1).2;have hz:∀f:Mu.Th->Nat,f N3=0->Mu.sum f (List.replicate b.n N3)=0:=λf hf=>Mu.FY λT' u1=>by rw[u3 T' u1];exact hf
 refine{ok:=u8,gi:=?_,size:=U,eJ:=u7,old:=λi y h1 h2 H=>⟨u6.old i y h1 H,by show(if i=0 then T else Tree.num (q i))=_;rw[A M]⟩,wk:=λk E=>ar E (nW _),mn:=⟨g,h0,?_⟩,above:=u6.above,ti:=?_,same:=hS,wg:=hs _ _ _ hW,nC:=?_,cat:=hs _ _ _ hN,nK:=hs _ _ _ hB,bm:=λ_ _ _=>rfl,bw:=λk _ E=>ar E (nW _),rel:=λk E=>ar E (nW _)}
 .refine{jn:=fj _,n1:=n1,n6:=n6,jm:=(show 0+(r+1)=b.n by omega),inv:=⟨λT' u1=>?_,?_,?_,?_,?_,λe=>eA,λ_ _ _ e=>eA⟩,LN:=by simp,EM:=λk E=>?_,pc:=λk _=>rfl,fresh:=λ_ _ _=>rfl,Qn:=λk E=>ar E (nW _),dn:=λk E=>ar E (nW _),ji:=⟨List.nodup_nil,λi G=>(by cases G),λi G=>ar G (nW _),λk _ i G=>(by cases G),λk _ hp=>(by cases hp),fj _⟩,tk:=⟨λk _ hp=>(by cases hp),λk _ K' hp=>(by cases hp),λg hg=>(by cases hg)⟩,fuel:=λk E=>ar E (nW _),mode:=?_}
  .rw[u3 T' u1];exact Mu.fS rfl lY (fj _) (λe=>by cases e) (λe=>by rcases e with e | e <;> cases e)
  .exact hz _ rfl
  .simp only;rw[hz Mu.fN rfl];rfl
  .simp only;rw[hz Mu.fH rfl];rfl
  .simp only;rw[hz Mu.fQ rfl,hz Mu.gE rfl,hz Mu.iQ rfl]
  .simp only[IN];rw[ax E]
  .have:=ConcN.Mode.opn (tag:=.sp r 5) (j:=0) (D:=cB λ_=>0) trivial (λa s=>ar s (nW _)) U
   simpa [Vc,sumTo,pend,jl.wN] using this
 .show HB _ nt Q w Anch (.kd r) (if(0:Nat)=0 then T else Tree.num (q 0)) (Deaf t 0) g (upd (λ_=>LH.nil) 0 _ 0);rw[ax rfl,upd_same,hP.hears];exact .inl ⟨h,rfl⟩
 .refine{res:=q0,EA:=.inr (.inl rfl),sO:=.inl rfl,MB:=.inr (.inr (.inl rfl)),CX:=λy H=>.inr (.inr (.inr (.inr H))),KQ:=.inr (.inr (.inr (.inl rfl))),B0:=λg hg=>(by cases hg),xmu:=λJ a s hm hp i G=>?_,xro:=λJ a s u _ _ i G=>?_,tok:=λ_ J a s u=>.inl λi G=>?_,said:=λJ a s hl _=>?_,len:=dA _,known:=λi a y _ s H=>hP.known i a y s H,over:=λi g _ hg q3 hc=>hP.over i g hg q3 hc,rv:=λi op G ho=>(by have:=lt_size_of_getElem? ho;omega),norel:=λi G s=>(by have:=lt_of_act? s;omega),A1:=λi G s=>(by have:=lt_of_act? s;omega),xk:=λi a y G s=>?_}
  .rw[z i G];exact p J a b.X s (q1 _ hm) (by rw[hX];simp)
  .rw[z i G];exact p J a b.X s u (by rw[hX];simp)
  .rw[z i G];exact p J a b.B s u (by rw[hB];simp)
  .exact p J a b.W s (by rw[hl];rfl) (by rw[hW];simp)
  .obtain⟨x,u,_⟩:=touch_of s;have:=lt_size_of_getElem? u;omega
 .exact hs _ _ _ hX
end
end Go.Mz
