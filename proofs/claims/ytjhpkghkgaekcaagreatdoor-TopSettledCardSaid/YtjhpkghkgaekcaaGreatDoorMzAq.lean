/- Lemmas on which the claim leans. -/
import Derived.Test.YtjhpkghkgaekcaaGreatDoorMzAp
import Derived.Laws.Entries
namespace Go.Mz
namespace Mu
open Go
def bi(b:Bool):Int:=if b then 1 else 0
def enc(w:Wd):Int:=bi w.l+2 *bi w.w+4 *bi w.s+8 *w.c
theorem lU(b:Bool):0≤bi b∧bi b≤1:=by cases b <;> decide
theorem DG{a b:Bool}(h:bi a=bi b):a=b:=by revert h;cases a <;> cases b <;> decide
theorem FL{w w':Wd}(h:enc w=enc w'):w=w':=by
 obtain⟨a,b,s,c⟩:=w;obtain⟨a',b',s',c'⟩:=w';unfold enc at h;dsimp only at h;have:=lU a;have:=lU b;have:=lU s;have:=lU a';have:=lU b';have:=lU s';obtain rfl:=DG (show bi a=bi a' by omega);obtain rfl:=DG (show bi b=bi b' by omega);obtain rfl:=DG (show bi s=bi s' by omega);obtain rfl:c=c':=by omega
 rfl
theorem DZ(w:Wd):8 * (w.c:Int)≤enc w∧enc w≤8 *w.c+7:=by
 have:=lU w.l;have:=lU w.w;have:=lU w.s;unfold enc
 constructor <;> omega
theorem Pq{w:Wd}:enc w=0↔w=Wd.zero:=⟨fun h=>FL (h.trans (by decide)),fun h=>by rw[h];decide⟩
theorem aa4:∀(l w s:Bool) (c:Fin 7),bits .and .i32 (enc ⟨l,w,s,c⟩) 1=bi l:=by decide+kernel
theorem aa5:∀(l w s:Bool) (c:Fin 7),bits .and .i32 (enc ⟨l,w,s,c⟩) 2=2 *bi w:=by decide+kernel
theorem aa6:∀(l w s:Bool) (c:Fin 7),bits .and .i32 (enc ⟨l,w,s,c⟩) 3=bi l+2 *bi w:=by decide+kernel
theorem aa7:∀(l w s:Bool) (c:Fin 7),bits .and .i32 (enc ⟨l,w,s,c⟩) 4=4 *bi s:=by decide+kernel
theorem aa8:∀(l w s:Bool) (c:Fin 7),bits .and .i32 (enc ⟨l,w,s,c⟩) 5=bi l+4 *bi s:=by decide+kernel
theorem aa9:∀(l w s:Bool) (c:Fin 7),bits .and .i32 (enc ⟨l,w,s,c⟩) 7=bi l+2 *bi w+4 *bi s:=by decide+kernel
theorem or1:∀(l w s:Bool) (c:Fin 7),bits .or .i32 (enc ⟨l,w,s,c⟩) 1=enc ⟨true,w,s,c⟩:=by decide+kernel
theorem or2:∀(l w s:Bool) (c:Fin 7),bits .or .i32 (enc ⟨l,w,s,c⟩) 2=enc ⟨l,true,s,c⟩:=by decide+kernel
theorem aa1(w:Wd):enc w+8=enc {w with c:=w.c+1}:=by unfold enc;dsimp only;omega
theorem acY{w:Wd}(h:w.c≠0):enc w - 8=enc {w with c:=w.c - 1}:=by unfold enc;dsimp only;omega
theorem acW{w:Wd}(h:w.l=true):enc w - 1=enc {w with l:=false}:=by unfold enc;rw[h];simp[bi];omega
theorem acX{w:Wd}(hl:w.l=false)(h:w.c≠0):enc w - 7=enc {w with l:=true,c:=w.c - 1}:=by unfold enc;rw[hl];simp[bi];omega
theorem aaz{w:Wd}(hl:w.l=false)(hs:w.s=true)(h:w.c≠0):enc w - 11=enc {w with l:=true,s:=false,c:=w.c - 1}:=by unfold enc;rw[hl,hs];simp[bi];omega
end Mu
end Go.Mz
namespace Go.Mz
open Go.Conc Go.ConcN
open Go.ConcR (KK wgBlock WgAt stA smA rd wr mk Payload Aside2 DC0 Bk bk_of_mute)
namespace Mu
def Fits(T:Th)(S:Sh):Prop:=∃l,Inv l S∧T∈l∧l.length≤6
theorem Inv.left{l:List Th}{S:Sh}(h:Inv l S){k:Nat}{T:Th}(hk:l[k]?=some T)(hp:T.pc=.out)(x:Nat):Inv (l.set k {T with left:=x}) S:=by
 have e1:=dG fO {T with left:=x} hk;have e2:=dG fN {T with left:=x} hk;have e3:=dG fH {T with left:=x} hk;have e4:=dG fQ {T with left:=x} hk;have e5:=dG dC {T with left:=x} hk;have e6:=dG dZ {T with left:=x} hk;have e7:=dG fU {T with left:=x} hk;have d1:fO {T with left:=x}=fO T:=rfl;have d2:fN {T with left:=x}=fN T:=rfl;have d3:fH {T with left:=x}=fH T:=rfl;have d4:fQ {T with left:=x}=fQ T:=rfl;have d5:dC {T with left:=x}=dC T:=rfl;have d6:dZ {T with left:=x}=dZ T:=rfl;have d7:fU {T with left:=x}=fU T:=rfl;obtain⟨g,i1,i2,i3,i4,i5,i6⟩:=h;refine⟨fun U hU=>?_,by omega,by omega,by omega,by omega,i5,fun a1 a2 a3 a4=>by have:=i6 a1 a2 a3 a4;omega⟩;rcases List.mem_or_eq_of_mem_set hU with hU | rfl
 ·exact g U hU
 ·have gT:=g T (List.mem_of_getElem? hk);exact⟨gT.lp,gT.sq,gT.c1,gT.aw,gT.it,gT.r1,gT.uc,gT.fr,gT.sl⟩
theorem Jh{l:List Th}{S:Sh}{k:Nat}{T:Th}(hk:l[k]?=some T)(hp:T.pc=.out):meas (l.set k {T with left:=T.left+1}) S=meas l S+7 * (64+16 *l.length+1):=by
 have e1:=dG v {T with left:=T.left+1} hk;have e2:=dG (loc S.w) {T with left:=T.left+1} hk;have d1:v {T with left:=T.left+1}=v T+7:=by simp only[v];omega
 have d2:loc S.w {T with left:=T.left+1}=loc S.w T:=by simp only[loc,hp]
 unfold meas;rw[List.length_set,show sum v (l.set k {T with left:=T.left+1})=sum v l+7 by omega,show sum (loc S.w) (l.set k {T with left:=T.left+1})=sum (loc S.w) l by omega];rw[show sum v l+7+(S.n+S.h)=(sum v l+(S.n+S.h))+7 by omega,Nat.mul_add,Nat.mul_comm _ 7];omega
end Mu
inductive Ph where
 | idle | lk | got | uX | hold (K:List Nat) | put | EJ | ul | fin | done
structure Ws where
 ph:Ph
 T:Mu.Th
 J:Option Nat
def Ph.deaf:Ph→Nat
 | .lk | .got | .ul | .fin=>1
 | _=>0
def Ph.bN:Ph→Nat
 | .idle=>3
 | .got=>3
 | .uX=>2
 | .hold _=>1
 | .EJ=>1
 | .fin=>4
 | .done=>2
 | _=>0
def Ph.dz:Ph→Nat
 | .done=>1
 | _=>0
def oC(s:Ws):Prop:=match s.ph with
 | .idle | .fin | .done=>s.T.pc=.out
 | .got | .uX | .hold _ | .put=>s.T.pc=.own
 | .EJ=>s.T.pc=.u0
 | _=>True
def xL(T:Mu.Th):Ph:=if T.pc=.own then .got else .lk
def vR(T:Mu.Th):Ph:=if T.pc=.out then .fin else .ul
abbrev CQ:Mu.Th:={pc:=.out}
abbrev Ke:Ws:=⟨.idle,CQ,none⟩
variable (b:aQ)
def aQ.qm(w:World)(S:Mu.Sh):Prop:=w.heap[b.X]?=some (b.xo (Mu.enc S.w) ((S.n+S.h:Nat):Int))
def aQ.cnt(nt:Nat)(c:Int):Obj:=.cells #[.int .i64 c] nt
def aQ.na:Addr:=⟨b.N,0,none⟩
def aQ.Φ(nt:Nat)(w:World):Prop:=WgLive b.ty b.W w∧(∃st sm,w.heap[b.X]?=some (b.xo st sm))∧∃c,w.heap[b.N]?=some (aQ.cnt nt c)
def aQ.OD(K:List Nat):Prop:=K.Nodup∧∀i,i∈K↔i<b.len∧b.keep i=true
structure mN(X:Nat)(w w':World):Prop where
 size:w'.heap.size=w.heap.size
 block:∀k,k≠X→w'.heap[k]?=w.heap[k]?
 tape:w'.tape=w.tape
 out:w'.output=w.output
 os:yd w.os w'.os
def aQ.LX(es:Array Event):Prop:=
 (∀e∈es,(∀y,(MemAct.ofEvent e).touch?=some y→y.kind=.atomic∧b.mu y.loc)∧MemAct.ofEvent e≠.mark (.release (stA b.W))∧MemAct.ofEvent e≠.mark (.release b.ma))∧deafBehind 1 es=1
section
variable (Nx:Ws→Goroutine→LH→Prop)(s:Ws)(g:Goroutine)(L:LH)
def aQ.X5(nt:Nat):Prop:=(∀i,s.J=some i→b.keep i=false)∧∀c:Nat,c≤b.len+b.n→∃g',(∀w,w.heap[b.N]?=some (aQ.cnt nt c)→stepG b.P false g w=.go g' (w.setCell b.na (.int .i64 ((c:Int)+1))) #[rd b.na,wr b.na])∧
 (c<b.len→Nx ⟨.idle,{s.T with left:=s.T.left+1},some c⟩ g' L)∧(b.len≤c→Nx ⟨.done,s.T,none⟩ g' L)
def aQ.aaX:Prop:=0<s.T.left∧(∃i,s.J=some i∧b.keep i=true)∧∃g',(∀w,stepG b.P false g w=.go g' w #[Go.ConcR.mk .disable])∧Nx ⟨.lk,{pc:=.l0,left:=s.T.left - 1},s.J⟩ g' L
def aQ.TM(nx:Mu.Th→Ph):Prop:=g.offers=none∧∀S w,Mu.Fits s.T S→b.qm w S→Sub L w→
 (s.ph=.lk∧s.T.pc=.s1∧S.n+S.h=0∧stepG b.P false g w=.go {g with status:=.blocked} w #[])∨
 ∃T' S' g' w' es,Mu.Step s.T S T' S'∧stepG b.P false g w=.go g' w' es∧b.qm w' S'∧mN b.X w w'∧b.LX es∧((S.n+S.h=0→S'.n+S'.h=0)∨(mayWake b.P g=true∧g'.status=.running))∧Nx ⟨nx T',T',s.J⟩ g' L
def aQ.Dq(m:Mark)(p:Ph):Prop:=∃g',(∀w,stepG b.P false g w=.go g' w #[Go.ConcR.mk m])∧Nx {s with ph:=p} g' L
def aQ.aaV:Prop:=∃g',(∀w,stepG b.P false g w=.go g' w #[Go.ConcR.mk (.acquire b.ma)])∧∀K,(∀i,s.J=some i→i∉K)→Nx {s with ph:=.hold K} g' L
def aQ.aaZ(K:List Nat):Prop:=∃i,s.J=some i∧b.keep i=true∧∀w,L b.B=none→Sub (L.put b.B (b.ob K)) w→∃g' w' es,stepG b.P false g w=.go g' w' es∧Tr (L.put b.B (b.ob K)) (L.put b.B (b.ob (K++[i]))) w w' es∧Nx ⟨.put,s.T,none⟩ g' L
def aQ.aaY:Prop:=∃g',(∀w,stepG b.P false g w=.go g' w #[Go.ConcR.mk (.releaseMerge b.ma)])∧Nx ⟨.EJ,{s.T with pc:=.u0},s.J⟩ g' L
def aQ.Ot:Prop:=∃m,∀w,WgLive b.ty b.W w∧Has b.X 0 b.v0 w→Goes b.P false (RW b.ty b.W b.X 1 0 0) DC0 (AtR0 b.P b.ty b.W b.X 1 0 1 b.v0) m g w
def aQ.aaW(nt:Nat):Prop:=g.status=.running∧match s.ph with
 | .idle=>b.X5 Nx s g L nt∨b.aaX Nx s g L
 | .lk=>b.TM Nx s g L xL
 | .got=>b.Dq Nx s g L .enable .uX
 | .uX=>b.aaV Nx s g L
 | .hold K=>b.aaZ Nx s g L K
 | .put=>b.aaY Nx s g L
 | .EJ=>b.Dq Nx s g L .disable .ul
 | .ul=>b.TM Nx s g L vR
 | .fin=>b.Dq Nx s g L .enable .idle
 | .done=>b.Ot g
end
def nW(b:aQ)(nt:Nat):Nat→Ws→Goroutine→LH→Prop
 | 0,_,_,_=>True
 | f+1,s,g,L=>b.aaW (fun s' g' L'=>Way b.P false (b.Φ nt) (nW b nt f s') g' L') s g L nt
section
variable (nt:Nat)(Post:Value→World→Prop)(W0:World)(Anch:Goroutine→LH→Prop)
def Kg(g:Goroutine)(L:LH):Prop:=∃g',(∀w,stepG b.P true g w=.go g' w #[Go.ConcR.mk (.acquire (stA b.W))])∧∀K st sm,b.OD K→L b.X=none→L b.B=none→nV b.P Post W0 g' ((L.put b.X (b.xo st sm)).put b.B (b.ob K))
abbrev iU(S:Goroutine→LH→Prop):=Way b.P true (b.Φ nt) fun g L=>g.status=.running∧S g L
def Ki(g:Goroutine)(L:LH):Prop:=∃g',(∀w,stepG b.P true g w=.go g' w #[Go.ConcR.mk .enable])∧iU b nt (Kg b Post W0) g' L
def XU(g:Goroutine)(L:LH):Prop:=∃g',(∀w,WgAt b.ty b.W w 0 0→stepG b.P true g w=.go g' w #[rd (stA b.W)])∧iU b nt (Ki b nt Post W0) g' L
def Kj(g:Goroutine)(L:LH):Prop:=
 g.status=.running∧g.offers=none∧(∀w st,WgAt b.ty b.W w st 0→stepG b.P true g w=.go {g with status:=.blocked} w #[])∧
  ∃g',(∀w,WgAt b.ty b.W w 0 1→stepG b.P true g w=.go g' (w.setCell (smA b.W) (.int .u32 0)) (semEvents (smA b.W)))∧iU b nt (XU b nt Post W0) g' L
def HP(g:Goroutine)(L:LH):Prop:=∃g',(∀w,stepG b.P true g w=.go g' w #[Go.ConcR.mk (.write (smA b.W))])∧iU b nt (Kj b nt Post W0) g' L
def Ov(vs:Nat)(g:Goroutine)(L:LH):Prop:=
 (∃g',(∀w,WgAt b.ty b.W w ((vs:Int) *KK) 0→stepG b.P true g w=.go g' (w.setCell (stA b.W) (.int .u64 ((vs:Int) *KK+1))) #[rd (stA b.W),wr (stA b.W)])∧iU b nt (HP b nt Post W0) g' L)∧
  ∃g',(∀w (v:Nat),v≠vs→v<2147483648→WgAt b.ty b.W w ((v:Int) *KK) 0→stepG b.P true g w=.go g' w #[rd (stA b.W)])∧iU b nt Anch g' L
def LV(g:Goroutine)(L:LH):Prop:=
 (∃g',(∀w,WgAt b.ty b.W w 0 0→stepG b.P true g w=.go g' w #[rd (stA b.W)])∧iU b nt (Ki b nt Post W0) g' L)∧
  ∀v:Nat,0<v→v<2147483648→∃g',(∀w,WgAt b.ty b.W w ((v:Int) *KK) 0→stepG b.P true g w=.go g' w #[rd (stA b.W)])∧iU b nt (Ov b nt Post W0 Anch v) g' L
def Kh(g:Goroutine)(L:LH):Prop:=∃g',(∀w,stepG b.P true g w=.go g' w #[Go.ConcR.mk .disable])∧iU b nt (LV b nt Post W0 Anch) g' L
def Ow(Nx:Goroutine→LH→Prop)(g:Goroutine)(L:LH):Prop:=
 ∃g' child Lm Lc,(∀w,Sub L w→stepG b.P true g w=.spawn g' child w #[])∧
  (∀y o wr,Lm y=some (o,wr)→∃ep,L y=some (o,ep)∧(wr=true→ep=true))∧(∀y o wr,Lc y=some (o,wr)→∃ep,L y=some (o,ep)∧(wr=true→ep=true))∧
  (∀y o,Lm y=some (o,true)→Lc y=none)∧(∀y o,Lc y=some (o,true)→Lm y=none)∧(∀f,Way b.P false (b.Φ nt) (nW b nt f Ke) child Lc)∧Nx g' Lm
def Tx(Nx:Goroutine→LH→Prop)(g:Goroutine)(L:LH):Prop:=∃g',(∀w,stepG b.P true g w=.go g' w #[Go.ConcR.mk .enable])∧iU b nt (Ow b nt Nx) g' L
def XV(Nx:Goroutine→LH→Prop)(g:Goroutine)(L:LH):Prop:=∃g',(∀w,stepG b.P true g w=.go g' w #[Go.ConcR.mk (.read (smA b.W))])∧iU b nt (Tx b nt Nx) g' L
def Ou(Nx:Goroutine→LH→Prop)(g:Goroutine)(L:LH):Prop:=
 ∀v:Nat,v<2147483647→∃g',(∀w,WgAt b.ty b.W w ((v:Int) *KK) 0→stepG b.P true g w=.go g' (w.setCell (stA b.W) (.int .u64 (((v:Int)+1) *KK))) #[rd (stA b.W),wr (stA b.W)])∧
  (iU b nt (XV b nt Nx) g' L∨iU b nt (Tx b nt Nx) g' L)
def Ox(Nx:Goroutine→LH→Prop)(g:Goroutine)(L:LH):Prop:=∃g',(∀w,stepG b.P true g w=.go g' w #[Go.ConcR.mk .disable])∧iU b nt (Ou b nt Nx) g' L
def sT:Nat→Goroutine→LH→Prop
 | 0=>iU b nt (Kh b nt Post W0 Anch)
 | r+1=>iU b nt (Ox b nt (sT r))
inductive cB where
 | kd (r:Nat) | add (r:Nat) | said (r:Nat) | en (r:Nat) | go (r:Nat) | MC | ld | O9 (vs:Nat) | Sx | NR | l4 | MG | acq
def cB.oG:cB→CTag
 | .kd r | .add r=>.sp r 5
 | .said r | .en r | .go r=>.sp r 3
 | .MC=>.kd
 | .ld=>.w1
 | .O9 vs=>.w2 vs
 | .Sx | .NR=>.w3
 | .l4=>.w4
 | .MG=>.ke
 | .acq=>.acq
def cB.deaf:cB→Nat
 | .kd _ | .go _ | .MC | .acq=>0
 | _=>1
def cB.stop:cB→Goroutine→LH→Prop
 | .kd r=>Ox b nt (sT b nt Post W0 Anch r)
 | .add r=>Ou b nt (sT b nt Post W0 Anch r)
 | .said r=>XV b nt (sT b nt Post W0 Anch r)
 | .en r=>Tx b nt (sT b nt Post W0 Anch r)
 | .go r=>Ow b nt (sT b nt Post W0 Anch r)
 | .MC=>Kh b nt Post W0 Anch
 | .ld=>LV b nt Post W0 Anch
 | .O9 vs=>Ov b nt Post W0 Anch vs
 | .Sx=>HP b nt Post W0
 | .NR=>Kj b nt Post W0
 | .l4=>XU b nt Post W0
 | .MG=>Ki b nt Post W0
 | .acq=>Kg b Post W0
end
def cB.bN(n v:Nat):cB→Nat
 | .kd r=>8 *n+6 * (r+1)+34
 | .add r=>8 *n+6 * (r+1)+33
 | .said r=>8 *n+6 * (r+1)+32
 | .en r=>8 *n+6 * (r+1)+31
 | .go r=>8 *n+6 * (r+1)+30
 | .MC=>8 *n+20
 | .ld=>8 *v+13
 | .O9 vs=>8 *vs+12
 | .Sx=>7
 | .NR=>6
 | .l4=>5
 | .MG=>4
 | .acq=>3
def cB.ok(n j:Nat):cB→Prop
 | .kd r | .add r | .said r | .en r | .go r=>j+(r+1)=n
 | _=>j=n
structure Gh where
 j:Nat
 st:Nat→Nat
 ws:Nat→Ws
 fu:Nat→Nat
 F:Nat→Tree
 q:Nat→Nat
 mt:cB
 Ls:Nat→LH
 Sh:Nat→Prop
 o:Option Nat
 ts:List Mu.Th
 S:Mu.Sh
 c:Nat
 K:List Nat
 sv:Int
 mv:Int
structure JI(ws:Nat→Ws)(c:Nat)(K:List Nat):Prop where
 kn:K.Nodup
 ki:∀i∈K,i<c∧i<b.len∧b.keep i=true
 vp:∀i,i<c→i<b.len→b.keep i=true→i∈K∨∃k,k<b.n∧(ws k).J=some i
 kj:∀k,k<b.n→∀i,(ws k).J=some i→i<c∧i<b.len∧i∉K∧∀k',k'<b.n→(ws k').J=some i→k'=k
 dl:∀k,k<b.n→(ws k).ph=.done→b.len≤c∧(ws k).J=none
 cb:c≤b.len+sumTo b.n fun k=>(ws k).ph.dz
def Ph.owns:Ph→Bool
 | .hold _ | .put=>true
 | _=>false
structure TK(ws:Nat→Ws)(o:Option Nat)(K:List Nat):Prop where
 xi:∀k,k<b.n→(ws k).ph.owns=true→o=some (b.base+k)
 N7:∀k,k<b.n→∀K',(ws k).ph=.hold K'→K'=K
 J5:∀g,o=some g→∃k,k<b.n∧g=b.base+k∧(ws k).ph.owns=true
def wv(G:Gh)(k:Nat):Nat:=if k<G.j then(if G.st k=8 then 20+(G.ws k).ph.bN else G.st k) else 40
def aQ.A:Nat:=8 * (7 * (64+16 *b.n+1))+8
def aQ.ox(ts:List Mu.Th)(S:Mu.Sh)(c:Nat):Nat:=8 *Mu.meas ts S+b.A * (b.len - c)
def aQ.μ(G:Gh):Nat:=b.ox G.ts G.S G.c+(sumTo b.n (wv G)+G.mt.bN b.n (Vc G.j (cJ G.st)))
structure GI(G:Gh):Prop where
 jn:G.j≤b.n
 n1:1≤b.n
 n6:b.n≤6
 jm:G.mt.ok b.n G.j
 inv:Mu.Inv G.ts G.S
 A3:G.ts.length=b.n
 vQ:∀k,k<b.n→G.ts[k]?=some (G.ws k).T
 pc:∀k,k<b.n→oC (G.ws k)
 fresh:∀k,G.j≤k→k<b.n→G.ws k=Ke
 EZ:∀k,k<G.j→(1≤G.st k∧G.st k≤7)∨G.st k=8
 dn:∀k,k<G.j→G.st k≤7→(G.ws k).ph=.done
 ji:JI b G.ws G.c G.K
 tk:TK b G.ws G.o G.K
 fuel:∀k,k<G.j→G.st k=8→b.μ G≤G.fu k
 mode:ConcN.Mode G.j (cJ G.st) G.mt.oG G.sv G.mv
end Go.Mz
namespace Go.Mz
open Go.Conc Go.ConcN
open Go.ConcR (KK wgBlock WgAt stA smA rd wr Payload Aside2 DC0 Bk bk_of_mute)
variable {b:aQ}{G:Gh}
theorem FD(n:Nat){v v':Nat}(h:v'≤v)(m:cB):m.bN n v'≤m.bN n v:=by
 cases m <;> simp only[cB.bN] <;> omega
theorem Wr{k:Nat}{s':Ws}(hk:k<G.j)(h8:G.st k=8)(hn:G.j≤b.n):sumTo b.n (wv {G with ws:=upd G.ws k s'})+(G.ws k).ph.bN=sumTo b.n (wv G)+s'.ph.bN:=by
 have e:wv {G with ws:=upd G.ws k s'}=upd (wv G) k (20+s'.ph.bN):=by
  funext i
  by_cases e:i=k
  ·subst e;simp[wv,upd_same,hk,h8]
  ·simp only[wv,upd_ne _ _ e]
 have h1:sumTo b.n (upd (wv G) k (20+s'.ph.bN))+wv G k=sumTo b.n (wv G)+(20+s'.ph.bN):=sumTo_upd (wv G) (20+s'.ph.bN) id (show k<b.n by omega);have h2:wv G k=20+(G.ws k).ph.bN:=by simp[wv,hk,h8]
 rw[e];omega
theorem GI.LP(h:GI b G){k:Nat}(hk:k<G.j)(h8:G.st k=8){s':Ws}{S':Mu.Sh}{c':Nat}{K':List Nat}{o':Option Nat}{f:Nat}{F':Nat→Tree}{Ls':Nat→LH}{Sh':Nat→Prop}
  (F3:Mu.Inv (G.ts.set k s'.T) S')(qS:oC s')(UX:b.ox (G.ts.set k s'.T) S' c'+s'.ph.bN<b.ox G.ts G.S G.c+(G.ws k).ph.bN)(hf:G.fu k=f+1)
  (hj:JI b (upd G.ws k s') c' K')(ht:TK b (upd G.ws k s') o' K'):
  GI b {G with ws:=upd G.ws k s',ts:=G.ts.set k s'.T,S:=S',c:=c',K:=K',o:=o',fu:=upd G.fu k f,F:=F',Ls:=Ls',Sh:=Sh'}∧
  b.μ {G with ws:=upd G.ws k s',ts:=G.ts.set k s'.T,S:=S',c:=c',K:=K',o:=o',fu:=upd G.fu k f,F:=F',Ls:=Ls',Sh:=Sh'}<b.μ G:=by
 have BA:=h.jn;have eD:k<b.n:=by omega
 have wL:b.μ {G with ws:=upd G.ws k s',ts:=G.ts.set k s'.T,S:=S',c:=c',K:=K',o:=o',fu:=upd G.fu k f,F:=F',Ls:=Ls',Sh:=Sh'}<b.μ G:=by
  have h1:=Wr (b:=b) (s':=s') hk h8 BA;have h2:wv {G with ws:=upd G.ws k s',ts:=G.ts.set k s'.T,S:=S',c:=c',K:=K',o:=o',fu:=upd G.fu k f,F:=F',Ls:=Ls',Sh:=Sh'}=wv {G with ws:=upd G.ws k s'}:=rfl;unfold aQ.μ;rw[h2];show b.ox (G.ts.set k s'.T) S' c'+(sumTo b.n (wv {G with ws:=upd G.ws k s'})+G.mt.bN b.n (Vc G.j (cJ G.st)))<_;omega
 refine⟨{jn:=h.jn,n1:=h.n1,n6:=h.n6,jm:=h.jm,inv:=F3,A3:=by simpa using h.A3,vQ:=fun i hi=>?_,pc:=fun i hi=>?_,fresh:=fun i h1 h2=>?_,EZ:=h.EZ,dn:=fun i h1 h2=>?_,ji:=hj,tk:=ht,fuel:=fun i h1 h2=>?_,mode:=h.mode},wL⟩
 ·by_cases e:i=k
  ·subst e;simp only[upd_same];rw[List.getElem?_set_self (by rw[h.A3];exact hi)]
  ·simp only[upd_ne _ _ e];rw[List.getElem?_set_ne (Ne.symm e)];exact h.vQ i hi
 ·by_cases e:i=k
  ·subst e;simp only[upd_same];exact qS
  ·simp only[upd_ne _ _ e];exact h.pc i hi
 ·have e:i≠k:=by simp only at h1;omega
  simp only[upd_ne _ _ e];exact h.fresh i h1 h2
 ·have e:i≠k:=by intro e;subst e;simp only at h2;omega
  simp only[upd_ne _ _ e];exact h.dn i h1 h2
 ·by_cases e:i=k
  ·subst e;simp only[upd_same];have:=h.fuel i hk h8;omega
  ·simp only[upd_ne _ _ e];have:=h.fuel i h1 h2;omega
section
variable {ws:Nat→Ws}{c:Nat}{K:List Nat}{k:Nat}{s':Ws}
theorem yI(hk:k<b.n):sumTo b.n (fun i=>(upd ws k s' i).ph.dz)+(ws k).ph.dz=sumTo b.n (fun i=>(ws i).ph.dz)+s'.ph.dz:=by
 have h1:=sumTo_upd (fun i=>(ws i).ph.dz) s'.ph.dz id hk;simp only[id] at h1;rw[←h1]
 congr 2
 funext i
 by_cases e:i=k
 ·subst e;simp only[upd_same]
 ·simp only[upd_ne _ _ e]
theorem JI.keep(h:JI b ws c K)(hk:k<b.n)(hJ:s'.J=(ws k).J)(hd:s'.ph≠.done)(se:(ws k).ph≠.done):JI b (upd ws k s') c K where
 kn:=h.kn
 ki:=h.ki
 vp:=fun i h1 h2 h3=>(h.vp i h1 h2 h3).imp id fun⟨k',h4,h5⟩=>⟨k',h4,by
  by_cases e:k'=k
  ·subst e;rw[upd_same,hJ];exact h5
  ·rw[upd_ne _ _ e];exact h5⟩
 kj:=fun k' gq i hi=>by
  have e1:∀x,(upd ws k s' x).J=(ws x).J:=fun x=>by
   by_cases e:x=k
   ·subst e;rw[upd_same,hJ]
   ·rw[upd_ne _ _ e]
  rw[e1] at hi;obtain⟨h1,h2,h3,h4⟩:=h.kj k' gq i hi;exact⟨h1,h2,h3,fun x hx ou=>h4 x hx (by rw[←e1];exact ou)⟩
 dl:=fun k' gq mV=>by
  by_cases e:k'=k
  ·subst e;rw[upd_same] at mV;exact absurd mV hd
  ·rw[upd_ne _ _ e] at mV ⊢;exact h.dl k' gq mV
 cb:=by
  have h1:=yI (b:=b) (ws:=ws) (s':=s') hk;have h2:=h.cb;have e1:s'.ph.dz=0:=by cases hp:s'.ph <;> first | rfl | exact absurd hp hd
  have e2:(ws k).ph.dz=0:=by cases hp:(ws k).ph <;> first | rfl | exact absurd hp se
  omega
theorem JI.draw(h:JI b ws c K)(hk:k<b.n)(ja:∀i,(ws k).J=some i→b.keep i=false)(hc:c<b.len)(hJ:s'.J=some c)(hd:s'.ph≠.done)(se:(ws k).ph≠.done):JI b (upd ws k s') (c+1) K where
 kn:=h.kn
 ki:=fun i hi=>by obtain⟨h1,h2⟩:=h.ki i hi;exact⟨by omega,h2⟩
 vp:=fun i h1 h2 h3=>by
  by_cases e:i=c
  ·subst e;exact .inr ⟨k,hk,by rw[upd_same,hJ]⟩
  ·refine(h.vp i (by omega) h2 h3).imp id fun⟨k',h4,h5⟩=>⟨k',h4,?_⟩;rw[upd_ne _ _ (fun e=>by subst e;rw[ja i h5] at h3;cases h3)];exact h5
 kj:=fun k' gq i hi=>by
  by_cases e:k'=k
  ·subst e;rw[upd_same,hJ] at hi;cases hi;refine⟨by omega,hc,fun hi=>by have:=(h.ki _ hi).1;omega,fun x hx ou=>?_⟩
   by_cases e2:x=k'
   ·exact e2
   ·rw[upd_ne _ _ e2] at ou;have:=(h.kj x hx _ ou).1;omega
  ·rw[upd_ne _ _ e] at hi;obtain⟨h1,h2,h3,h4⟩:=h.kj k' gq i hi;refine⟨by omega,h2,h3,fun x hx ou=>?_⟩
   by_cases e2:x=k
   ·subst e2;rw[upd_same,hJ] at ou;cases ou;omega
   ·rw[upd_ne _ _ e2] at ou;exact h4 x hx ou
 dl:=fun k' gq mV=>by
  by_cases e:k'=k
  ·subst e;rw[upd_same] at mV;exact absurd mV hd
  ·rw[upd_ne _ _ e] at mV ⊢;have:=h.dl k' gq mV;omega
 cb:=by
  have h1:=yI (b:=b) (ws:=ws) (s':=s') hk;omega
theorem JI.over(h:JI b ws c K)(hk:k<b.n)(ja:∀i,(ws k).J=some i→b.keep i=false)(hc:b.len≤c)(hJ:s'.J=none)(hd:s'.ph=.done)(se:(ws k).ph≠.done):JI b (upd ws k s') (c+1) K where
 kn:=h.kn
 ki:=fun i hi=>by obtain⟨h1,h2⟩:=h.ki i hi;exact⟨by omega,h2⟩
 vp:=fun i h1 h2 h3=>by
  refine(h.vp i (by omega) h2 h3).imp id fun⟨k',h4,h5⟩=>⟨k',h4,?_⟩;rw[upd_ne _ _ (fun e=>by subst e;rw[ja i h5] at h3;cases h3)];exact h5
 kj:=fun k' gq i hi=>by
  by_cases e:k'=k
  ·subst e;rw[upd_same,hJ] at hi;cases hi
  ·rw[upd_ne _ _ e] at hi;obtain⟨h1,h2,h3,h4⟩:=h.kj k' gq i hi;refine⟨by omega,h2,h3,fun x hx ou=>?_⟩
   by_cases e2:x=k
   ·subst e2;rw[upd_same,hJ] at ou;cases ou
   ·rw[upd_ne _ _ e2] at ou;exact h4 x hx ou
 dl:=fun k' gq mV=>by
  by_cases e:k'=k
  ·subst e;rw[upd_same];exact⟨by omega,hJ⟩
  ·rw[upd_ne _ _ e] at mV ⊢;obtain⟨h1,h2⟩:=h.dl k' gq mV;exact⟨by omega,h2⟩
 cb:=by
  have h1:=yI (b:=b) (ws:=ws) (s':=s') hk;have h2:=h.cb;have e1:s'.ph.dz=1:=by rw[hd];rfl
  have e2:(ws k).ph.dz=0:=by cases hp:(ws k).ph <;> first | rfl | exact absurd hp se
  omega
theorem JI.kept(h:JI b ws c K)(hk:k<b.n){i:Nat}(hi:(ws k).J=some i)(ja:b.keep i=true)(hJ:s'.J=none)(hd:s'.ph≠.done)(se:(ws k).ph≠.done):JI b (upd ws k s') c (K++[i]) where
 kn:=by
  obtain⟨_,_,h3,_⟩:=h.kj k hk i hi;exact List.nodup_append.2 ⟨h.kn,by simp,fun x hx y hy=>by simp at hy;subst hy;intro e;exact h3 (e▸hx)⟩
 ki:=fun x hx=>by
  rcases List.mem_append.1 hx with hx | hx
  ·exact h.ki x hx
  ·simp at hx;subst hx;obtain⟨h1,h2,_,_⟩:=h.kj k hk x hi;exact⟨h1,h2,ja⟩
 vp:=fun x h1 h2 h3=>by
  rcases h.vp x h1 h2 h3 with h4 | ⟨k',h4,h5⟩
  ·exact .inl (List.mem_append_left _ h4)
  ·by_cases e:k'=k
   ·subst e;rw[hi] at h5;cases h5;exact .inl (by simp)
   ·exact .inr ⟨k',h4,by rw[upd_ne _ _ e];exact h5⟩
 kj:=fun k' gq x hx=>by
  by_cases e:k'=k
  ·subst e;rw[upd_same,hJ] at hx;cases hx
  ·rw[upd_ne _ _ e] at hx;obtain⟨h1,h2,h3,h4⟩:=h.kj k' gq x hx;refine⟨h1,h2,fun hm=>?_,fun y hy Vd=>?_⟩
   ·rcases List.mem_append.1 hm with hm | hm
    ·exact h3 hm
    ·simp at hm;subst hm;exact e (h4 k hk hi).symm
   ·by_cases e2:y=k
    ·subst e2;rw[upd_same,hJ] at Vd;cases Vd
    ·rw[upd_ne _ _ e2] at Vd;exact h4 y hy Vd
 dl:=fun k' gq mV=>by
  by_cases e:k'=k
  ·subst e;rw[upd_same] at mV;exact absurd mV hd
  ·rw[upd_ne _ _ e] at mV ⊢;exact h.dl k' gq mV
 cb:=by
  have h1:=yI (b:=b) (ws:=ws) (s':=s') hk;have h2:=h.cb;have e1:s'.ph.dz=0:=by cases hp:s'.ph <;> first | rfl | exact absurd hp hd
  have e2:(ws k).ph.dz=0:=by cases hp:(ws k).ph <;> first | rfl | exact absurd hp se
  omega
theorem JI.bound(h:JI b ws c K):c≤b.len+b.n:=by
 have h1:=h.cb;have h2:sumTo b.n (fun k=>(ws k).ph.dz)≤b.n:=by
  have:∀m,sumTo m (fun k=>(ws k).ph.dz)≤m:=by
   intro m
   induction m with
   | zero=>exact Nat.le_refl _
   | succ m ih=>
    have:(ws m).ph.dz≤1:=by cases(ws m).ph <;> simp[Ph.dz]
    simp only[sumTo];omega
  exact this _
 omega
theorem JI.end(h:JI b ws c K)(hn:1≤b.n)(hd:∀k,k<b.n→(ws k).ph=.done):b.OD K:=by
 have hlen:=(h.dl 0 (by omega) (hd 0 (by omega))).1;refine⟨h.kn,fun i=>⟨fun hi=>(h.ki i hi).2,fun⟨h1,h2⟩=>?_⟩⟩;rcases h.vp i (by omega) h1 h2 with h3 | ⟨k,hk,h3⟩
 ·exact h3
 ·rw[(h.dl k hk (hd k hk)).2] at h3;cases h3
variable {o:Option Nat}
theorem TK.keep(h:TK b ws o K)(h1:(ws k).ph.owns=false)(h2:s'.ph.owns=false):TK b (upd ws k s') o K where
 xi:=fun i hi hp=>by
  by_cases e:i=k
  ·subst e;rw[upd_same,h2] at hp;cases hp
  ·rw[upd_ne _ _ e] at hp;exact h.xi i hi hp
 N7:=fun i hi K' hp=>by
  by_cases e:i=k
  ·subst e;rw[upd_same] at hp;rw[hp] at h2;cases h2
  ·rw[upd_ne _ _ e] at hp;exact h.N7 i hi K' hp
 J5:=fun g hg=>by
  obtain⟨i,hi,e1,e2⟩:=h.J5 g hg;have e:i≠k:=fun e=>by subst e;rw[h1] at e2;cases e2
  exact⟨i,hi,e1,by rw[upd_ne _ _ e];exact e2⟩
theorem TK.take(h:TK b ws none K)(hk:k<b.n)(hs:s'.ph=.hold K):TK b (upd ws k s') (some (b.base+k)) K where
 xi:=fun i hi hp=>by
  by_cases e:i=k
  ·subst e;rfl
  ·rw[upd_ne _ _ e] at hp;have:=h.xi i hi hp;cases this
 N7:=fun i hi K' hp=>by
  by_cases e:i=k
  ·subst e;rw[upd_same,hs] at hp;cases hp;rfl
  ·rw[upd_ne _ _ e] at hp;have:=h.xi i hi (by rw[hp];rfl);cases this
 J5:=fun g hg=>by
  cases hg;exact⟨k,hk,rfl,by rw[upd_same,hs];rfl⟩
theorem TK.qk(h:TK b ws (some (b.base+k)) K)(hk:k<b.n)(hs:s'.ph=.put)(K2:List Nat):TK b (upd ws k s') (some (b.base+k)) K2 where
 xi:=fun i hi hp=>by
  by_cases e:i=k
  ·subst e;rfl
  ·rw[upd_ne _ _ e] at hp;exact h.xi i hi hp
 N7:=fun i hi K' hp=>by
  by_cases e:i=k
  ·subst e;rw[upd_same,hs] at hp;cases hp
  ·rw[upd_ne _ _ e] at hp;have:=h.xi i hi (by rw[hp];rfl);simp at this;exact absurd this.symm e
 J5:=fun g hg=>by
  cases hg;exact⟨k,hk,rfl,by rw[upd_same,hs];rfl⟩
theorem TK.give(h:TK b ws (some (b.base+k)) K)(hs:s'.ph.owns=false)(K2:List Nat):TK b (upd ws k s') none K2 where
 xi:=fun i hi hp=>by
  by_cases e:i=k
  ·subst e;rw[upd_same,hs] at hp;cases hp
  ·rw[upd_ne _ _ e] at hp;have:=h.xi i hi hp;simp at this;exact absurd this.symm e
 N7:=fun i hi K' hp=>by
  by_cases e:i=k
  ·subst e;rw[upd_same] at hp;rw[hp] at hs;cases hs
  ·rw[upd_ne _ _ e] at hp;have:=h.xi i hi (by rw[hp];rfl);simp at this;exact absurd this.symm e
 J5:=fun g hg=>by cases hg
end
theorem Jj{ts S8:List Mu.Th}{S S':Mu.Sh}{c:Nat}(h:Mu.meas S8 S'<Mu.meas ts S):b.ox S8 S' c+8≤b.ox ts S c:=by
 unfold aQ.ox;omega
theorem NI{ts S8:List Mu.Th}{S:Mu.Sh}{c:Nat}(hl:ts.length=b.n)(h:Mu.meas S8 S=Mu.meas ts S+7 * (64+16 *ts.length+1))(hc:c<b.len):b.ox S8 S (c+1)<b.ox ts S c:=by
 unfold aQ.ox;rw[h,hl];have e:b.len - c=(b.len - (c+1))+1:=by omega
 have e2:b.A * (b.len - (c+1)+1)=b.A * (b.len - (c+1))+b.A:=Nat.mul_succ _ _;have e3:b.A=8 * (7 * (64+16 *b.n+1))+8:=rfl;rw[e,e2];omega
theorem jK{α:Type}{l:List α}{k:Nat}{x:α}(h:l[k]?=some x):l.set k x=l:=by
 apply List.ext_getElem?;intro i
 by_cases e:k=i
 ·subst e;rw[List.getElem?_set_self (List.getElem?_eq_some_iff.1 h).1,h]
 ·rw[List.getElem?_set_ne e]
theorem GI.free(h:GI b G){k:Nat}(hk:k<b.n)(h1:(G.ws k).T.pc=.own)(h2:(G.ws k).ph.owns=false):G.o=none:=by
 cases ho:G.o with
 | none=>rfl
 | some g=>
  obtain⟨i,hi,_,hp⟩:=h.tk.J5 g ho;have e:i≠k:=fun e=>by subst e;rw[h2] at hp;cases hp
  have yy:=h.pc i hi;have qS:(G.ws i).T.pc=.own:=by
   unfold oC at yy;cases mV:(G.ws i).ph <;> rw[mV] at hp yy <;> first | (cases hp;done) | exact yy
  exact(h.inv.abv e (h.vQ i hi) (h.vQ k hk) (.inl qS) (.inl h1)).elim
theorem GI.fits(h:GI b G){k:Nat}(hk:k<b.n):Mu.Fits (G.ws k).T G.S:=⟨G.ts,h.inv,List.mem_of_getElem? (h.vQ k hk),by rw[h.A3];exact h.n6⟩
theorem GI.xF(h:GI b G){k:Nat}(hk:k<b.n):Mu.Good (G.ws k).T:=h.inv.xF _ (List.mem_of_getElem? (h.vQ k hk))
theorem GI.YA(h:GI b G){k:Nat}(hk:k<G.j)(h8:G.st k=8):∃f,G.fu k=f+1:=by
 have h1:=h.fuel k hk h8;have h2:20≤b.μ G:=by
  have h3:wv G k≤sumTo b.n (wv G):=le_sumTo (f:=wv G) (Nat.lt_of_lt_of_le hk h.jn);have h4:wv G k=20+(G.ws k).ph.bN:=by simp[wv,hk,h8]
  unfold aQ.μ;omega
 exact⟨G.fu k - 1,by omega⟩
section
variable (b:aQ)(nt:Nat)(Post:Value→World→Prop)(W0:World)(Anch:Goroutine→LH→Prop)
inductive BW:Nat→Ws→Nat→Tree→Nat→Goroutine→LH→World→Prop
 | own {s:Ws} {f:Nat} {T:Tree} {g:Goroutine} {L:LH} {w:World}:At b.P false (b.Φ nt) (nW b nt (f+1) s) T g L→BW 8 s (f+1) T s.ph.deaf g L w
 | blk {s:Ws} {f:Nat} {g:Goroutine} {L:LH} {w:World}:s.ph=.lk→s.T.pc=.s1→nW b nt (f+1) s g L→BW 8 s (f+1) .leaf 1 {g with status:=.blocked} L w
 | dn {s:Ws} {f m:Nat} {g:Goroutine} {L:LH} {w:World}:Goes b.P false (RW b.ty b.W b.X 1 0 0) DC0 (AtR0 b.P b.ty b.W b.X 1 0 1 b.v0) m g w→BW 7 s f (Tree.num m) 0 g L w
 | wN {st:Nat} {s:Ws} {f m d:Nat} {g:Goroutine} {L:LH} {w:World}:st≤6→uz b.P b.ty b.W b.X b.v0 st m d g w→BW st s f (Tree.num m) d g L w
def yb(m:cB)(T:Tree)(d:Nat)(g:Goroutine)(L:LH):Prop:=
 (At b.P true (b.Φ nt) (fun g L=>g.status=.running∧m.stop b nt Post W0 Anch g L) T g L∧d=m.deaf)∨(m=.NR∧T=.leaf∧d=1∧∃g0,g={g0 with status:=.blocked}∧Kj b nt Post W0 g0 L)
structure dH(S0:Nat→Prop)(n0:Nat)(gs:Array Goroutine)(w:World)(t:Trace)(G:Gh):Prop where
 ok:b.Ok S0
 gi:GI b G
 size:gs.size=b.base+G.j
 iW:1≤b.base
 old:∀i g,0<i→i<b.base→gs[i]?=some g→QuitsD b.P (G.q i) (Deaf t i) g∧G.F i=Tree.num (G.q i)
 wk:∀k,k<G.j→∃g,gs[b.base+k]?=some g∧BW b nt (G.st k) (G.ws k) (G.fu k) (G.F (b.base+k)) (Deaf t (b.base+k)) g (G.Ls (b.base+k)) w
 mn:∃g,gs[0]?=some g∧yb b nt Post W0 Anch G.mt (G.F 0) (Deaf t 0) g (G.Ls 0)
 above:∀i,gs.size≤i→Deaf t i=0
 ti:jd b S0 n0 gs.size G.Ls G.Sh G.o w t
 same:j5 W0 w
 wg:WgAt b.ty b.W w G.sv G.mv
 iT:b.qm w G.S
 cat:w.heap[b.N]?=some (aQ.cnt nt G.c)
 iX:w.heap[b.B]?=some (b.ob G.K)
 bm:∀g,gs[0]?=some g→g.status=.blocked→G.mv=0
 bw:∀k g,k<G.j→gs[b.base+k]?=some g→g.status=.blocked→G.S.n+G.S.h=0
 rel:∀k,k<G.j→G.st k≤6→∃r,n0≤r∧BS b.W t (b.base+k) r
end
def nb(gs:Array Goroutine)(i:Nat):Nat:=match gs[i]? with
 | some g=>if g.status==.blocked then 0 else 1
 | none=>0
def DJ(b:aQ)(G:Gh)(gs:Array Goroutine):Fj:=((b.μ G,G.F),sumTo gs.size (nb gs))
def BInv(b:aQ)(nt:Nat)(Post:Value→World→Prop)(W0:World)(Anch:Goroutine→LH→Prop)(S0:Nat→Prop)(n0:Nat)(μ:Fj)(m:Machine)(t:Trace):Prop:=
 ∃gs w sl G,m=crowd gs w sl∧dH b nt Post W0 Anch S0 n0 gs w t G∧μ=DJ b G gs
def r8(b:aQ)(nt:Nat)(Post:Value→World→Prop)(W0:World)(Anch:Goroutine→LH→Prop)(S0:Nat→Prop)(n0:Nat)(gs:Array Goroutine)(w:World)(t:Trace)(G:Gh)(sl:Option (Nat×Nat))(x:Nat):Prop:=
 ∃m' ops Ww,runT b.P (crowd gs w sl) x=(.next m',ops)∧Mh (b.base+b.n) Ww (DJ b G gs)∧BInv b nt Post W0 Anch S0 n0 Ww m' (t++ops)
variable {b:aQ}{nt:Nat}{Post:Value→World→Prop}{W0:World}{Anch:Goroutine→LH→Prop}{S0:Nat→Prop}{n0:Nat}{gs:Array Goroutine}{w:World}{t:Trace}{G:Gh}
theorem nW.run{f:Nat}{s:Ws}{g:Goroutine}{L:LH}(h:nW b nt (f+1) s g L):g.status=.running:=h.1
theorem nW.offers{f:Nat}{s:Ws}{g:Goroutine}{L:LH}(h:nW b nt (f+1) s g L)(hp:s.ph=.lk):g.offers=none:=by
 have:=h.2;rw[hp] at this;exact this.1
def jC(P:Program)(g g':Goroutine):Bool:=mayWake P g&&g'.status !=.blocked&&g'.status !=.waiting
theorem xj(P:Program)(g g':Goroutine)(w':World)(y:Goroutine):woken P g g' w' y=if jC P g g'=true then y.again w' else y:=rfl
theorem zg{g:Goroutine}(w:World)(hr:g.status=.running)(ho:g.offers=none):({g with status:=.blocked}:Goroutine).again w=g:=by
 cases g
 simp_all [Goroutine.again]
theorem BW.woken{st:Nat}{s:Ws}{f:Nat}{T:Tree}{d:Nat}{g:Goroutine}{L:LH}{w:World}(h:BW b nt st s f T d g L w)(a a':Goroutine)(w':World):
  BW b nt st s f T d (woken b.P a a' w' g) L w∧((woken b.P a a' w' g).status=.blocked→g.status=.blocked∧jC b.P a a'=false):=by
 have still:(g.status=.running∨g.status=.finished)→BW b nt st s f T d (Go.Conc.woken b.P a a' w' g) L w∧((Go.Conc.woken b.P a a' w' g).status=.blocked→g.status=.blocked∧jC b.P a a'=false):=by
  intro e;rw[vS e];exact⟨h,fun e2=>by rcases e with e | e <;> rw[e] at e2 <;> cases e2⟩
 cases h with
 | own h=>exact still (.inl (h.running fun _ _ x=>x.run))
 | @blk s f g L w hp hs hl=>
  rw[xj]
  by_cases e:jC b.P a a'=true
  ·rw[if_pos e,zg _ hl.run (hl.offers hp)];have:s.ph.deaf=1:=by rw[hp];rfl
   refine⟨?_,fun e2=>by rw[hl.run] at e2;cases e2⟩;have h2:=BW.own (b:=b) (nt:=nt) (w:=w) (At.G0 (P:=b.P) (mn:=false) (Φ:=b.Φ nt) hl);rw[this] at h2;exact h2
  ·rw[if_neg e];exact⟨.blk hp hs hl,fun _=>⟨rfl,by simpa using e⟩⟩
 | dn h=>exact still (.inl (Goes.running (fun _ _ x=>x.1) _ (RW.refl _) h))
 | wN _ h=>exact still (WSit.status h)
theorem yb.woken{m:cB}{T:Tree}{d:Nat}{g:Goroutine}{L:LH}(h:yb b nt Post W0 Anch m T d g L)(a a':Goroutine)(w':World):
  yb b nt Post W0 Anch m T d (woken b.P a a' w' g) L∧((woken b.P a a' w' g).status=.blocked→g.status=.blocked∧jC b.P a a'=false):=by
 rcases id h with⟨h1,h2⟩ | ⟨rfl,rfl,rfl,g0,rfl,hs⟩
 ·have e:=h1.running fun _ _ x=>x.1;rw[vS (.inl e)];exact⟨h,fun e2=>by rw[e] at e2;cases e2⟩
 ·rw[xj]
  by_cases e:jC b.P a a'=true
  ·rw[if_pos e,zg _ hs.1 hs.2.1];exact⟨.inl ⟨.G0 ⟨hs.1,hs⟩,rfl⟩,fun e2=>by rw[hs.1] at e2;cases e2⟩
  ·rw[if_neg e];exact⟨.inr ⟨rfl,rfl,rfl,g0,rfl,hs⟩,fun _=>⟨rfl,by simpa using e⟩⟩
theorem aQ.Φ.has(hb:b.Ok S0){w:World}(h:b.Φ nt w):Has b.X 0 b.v0 w∧¬PayAt b.X 1 w:=by
 obtain⟨_,⟨st,sm,hX⟩,_⟩:=h;obtain⟨c,e,fz,hx,_,_,_,_,h0,hs⟩:=hb.xm st sm;rw[hx] at hX;refine⟨?_,fun⟨cs,h1,h2⟩=>?_⟩
 ·unfold Has World.cell?;rw[show(⟨b.X,0,none⟩:Addr).block=b.X from rfl,hX];exact h0
 ·rw[hX] at h1;cases h1;omega
theorem aQ.Φ.rw(hb:b.Ok S0){w w':World}(h:b.Φ nt w)(h':b.Φ nt w'):RW b.ty b.W b.X 1 0 0 w w':=
 ⟨fun _ hb=>absurd hb (Nat.not_lt_zero _),fun _=>h'.1,fun hp=>absurd hp (h.has hb).2,(h'.has hb).1.trans (h.has hb).1.symm⟩
theorem BW.rely(hb:b.Ok S0){st:Nat}{s:Ws}{f:Nat}{T:Tree}{d:Nat}{g:Goroutine}{L:LH}{w w':World}(h:BW b nt st s f T d g L w)(hw:b.Φ nt w)(Nu:b.Φ nt w'):BW b nt st s f T d g L w':=by
 have tr:∀a c d,RW b.ty b.W b.X 1 0 0 a c→RW b.ty b.W b.X 1 0 0 c d→RW b.ty b.W b.X 1 0 0 a d:=fun _ _ _ h1 h2=>h1.trans h2;cases h with
 | own h=>exact .own h
 | blk h1 h2 h3=>exact .blk h1 h2 h3
 | dn h=>exact .dn (Goes.rely tr h (hw.rw hb Nu))
 | wN h6 h=>exact .wN h6 (WSit.rely h (hw.rw hb Nu))
structure XW(b:aQ)(nt:Nat)(Post:Value→World→Prop)(W0:World)(Anch:Goroutine→LH→Prop)(S0:Nat→Prop)(n0:Nat)(gs:Array Goroutine)(w:World)(t:Trace)(G:Gh)(x:Nat)(g g':Goroutine)(w':World)(es:Array Event)(G':Gh):Prop where
 j:G'.j=G.j
 gi:GI b G'
 wW:∀i,i≠x→G'.F i=G.F i∧G'.Ls i=G.Ls i∧G'.q i=G.q i
 sO:∀k,k<G.j→b.base+k≠x→G'.st k=G.st k∧G'.ws k=G.ws k∧G'.fu k=G.fu k
 vx:x≠0→G'.mt=G.mt
 so:0<x→x<b.base→QuitsD b.P (G'.q x) (deafBehind (Deaf t x) es) g'∧G'.F x=Tree.num (G'.q x)
 sw:∀k,k<G.j→x=b.base+k→BW b nt (G'.st k) (G'.ws k) (G'.fu k) (G'.F x) (deafBehind (Deaf t x) es) g' (G'.Ls x) w'
 sm:x=0→yb b nt Post W0 Anch G'.mt (G'.F 0) (deafBehind (Deaf t 0) es) g' (G'.Ls 0)
 ti:jd b S0 n0 gs.size G'.Ls G'.Sh G'.o w' (t++MemOp.ofEvents x g.frame.fn g.frame.place es)
 same:j5 W0 w'
 wg:WgAt b.ty b.W w' G'.sv G'.mv
 iT:b.qm w' G'.S
 cat:w'.heap[b.N]?=some (aQ.cnt nt G'.c)
 iX:w'.heap[b.B]?=some (b.ob G'.K)
 mv:(G.mv=0→G'.mv=0)∨jC b.P g g'=true
 sn:(G.S.n+G.S.h=0→G'.S.n+G'.S.h=0)∨jC b.P g g'=true
 sb:g'.status=.blocked→(x=0→G'.mv=0)∧(x≠0→G'.S.n+G'.S.h=0)
 rel:∀k,k<G.j→x=b.base+k→G'.st k≤6→∃r,n0≤r∧BS b.W (t++MemOp.ofEvents x g.frame.fn g.frame.place es) x r
 lt:b.μ G'<b.μ G∨(b.μ G'=b.μ G∧(Tree.sub (G'.F x) (G.F x)∨(G'.F x=G.F x∧g.status=.running∧g'.status=.blocked)))
theorem dH.qk(h:dH b nt Post W0 Anch S0 n0 gs w t G){x:Nat}{g g':Goroutine}{w':World}{es:Array Event}(sl:Option (Nat×Nat))(hx:gs[x]?=some g)(hgo:stepG b.P (x==0) g w=.go g' w' es)(G':Gh)
  (a:XW b nt Post W0 Anch S0 n0 gs w t G x g g' w' es G'):r8 b nt Post W0 Anch S0 n0 gs w t G sl x:=by
 have XJ:x<gs.size:=(Array.getElem?_eq_some_iff.1 hx).1;have cx:=runT_crowd_go (P:=b.P) (sl:=sl) (i:=x) hx hgo;have ed:=h.size;have BA:=h.gi.jn;have hu:∀op∈MemOp.ofEvents x g.frame.fn g.frame.place es,op.g=x∧∃e∈es,op.act=.ofEvent e:=fun op ho=>by
  obtain⟨e,he,hx⟩:=Go.Conc.mem_ofEvents ho;rw[hx];exact⟨rfl,e,he,rfl⟩
 have xG:((gs.map (woken b.P g g' w')).setIfInBounds x g').size=gs.size:=by simp
 have self:((gs.map (woken b.P g g' w')).setIfInBounds x g')[x]?=some g':=by rw[Array.getElem?_setIfInBounds_self_of_lt (by simpa using XJ)]
 have get:∀i,i≠x→((gs.map (woken b.P g g' w')).setIfInBounds x g')[i]?=(gs[i]?).map (woken b.P g g' w'):=fun i hi=>by
  rw[Array.getElem?_setIfInBounds_ne (Ne.symm hi),Array.getElem?_map]
 have T9:∀i,i≠x→Deaf (t++MemOp.ofEvents x g.frame.fn g.frame.place es) i=Deaf t i:=fun i hi=>Deaf_other t (Ne.symm hi) _ fun op ho=>(hu op ho).1;have Yq:Deaf (t++MemOp.ofEvents x g.frame.fn g.frame.place es) x=deafBehind (Deaf t x) es:=Deaf_own t x _ _ es;refine⟨_,_,_,cx,?_,_,w',sl,G',rfl,?_,rfl⟩
 ·unfold DJ Mh;rcases a.lt with aU | ⟨heq,aU | ⟨hFx,hr,hb⟩⟩
  ·exact Prod.Lex.left _ _ (Prod.Lex.left _ _ aU)
  ·rw[heq];exact Prod.Lex.left _ _ (Prod.Lex.right _ ⟨x,by omega,aU,fun i hi=>(a.wW i hi).1⟩)
  ·rw[heq];have e2:G'.F=G.F:=funext fun i=>by
    by_cases e:i=x
    ·rw[e];exact hFx
    ·exact(a.wW i e).1
   rw[e2];refine Prod.Lex.right _ ?_;rw[xG];have hw:jC b.P g g'=false:=by unfold jC;rw[hb];simp
   have pK:∀i,i≠x→((gs.map (woken b.P g g' w')).setIfInBounds x g')[i]?=gs[i]?:=fun i hi=>by
    rw[get i hi];cases gs[i]? with
    | none=>rfl
    | some y=>simp only[Option.map_some];rw[xj,hw];rfl
   refine xZ XJ (fun i _=>?_) ?_
   ·by_cases e:i=x
    ·subst e;unfold nb;rw[self,hx];simp[hb,hr]
    ·unfold nb;rw[pK i e];exact Nat.le_refl _
   ·unfold nb;rw[self,hx];simp[hb,hr]
 ·refine{ok:=h.ok,gi:=a.gi,size:=by rw[xG,a.j];exact ed,iW:=h.iW,old:=fun i y h0 h1 hy=>?_,wk:=fun k hk=>?_,mn:=?_,above:=fun i hi=>?_,ti:=by rw[xG];exact a.ti,same:=a.same,wg:=a.wg,iT:=a.iT,cat:=a.cat,iX:=a.iX,bm:=fun y hy hb=>?_,bw:=fun k y hk hy hb=>?_,rel:=fun k hk hs=>?_}
  ·by_cases e:i=x
   ·subst e;rw[self] at hy;cases hy;rw[Yq];exact a.so h0 h1
   ·rw[get i e] at hy;obtain⟨z,hz,rfl⟩:=Option.map_eq_some_iff.1 hy;obtain⟨h2,h3⟩:=h.old i z h0 h1 hz;obtain⟨e1,_,e3⟩:=a.wW i e;rw[woken_quitsD h2,T9 i e,e1,e3];exact⟨h2,h3⟩
  ·rw[a.j] at hk
   by_cases e:b.base+k=x
   ·refine⟨g',by rw[e];exact self,?_⟩;rw[e,Yq];exact a.sw k hk e.symm
   ·obtain⟨z,hz,hs⟩:=h.wk k hk;obtain⟨e1,e2,_⟩:=a.wW _ e;obtain⟨f1,f2,f3⟩:=a.sO k hk e;refine⟨_,by rw[get _ e,hz];rfl,?_⟩;rw[f1,f2,f3,e1,e2,T9 _ e];exact(hs.woken g g' w').1.rely h.ok ⟨⟨_,_,h.wg⟩,⟨_,_,h.iT⟩,⟨_,h.cat⟩⟩ ⟨⟨_,_,a.wg⟩,⟨_,_,a.iT⟩,⟨_,a.cat⟩⟩
  ·by_cases e:0=x
   ·subst e;refine⟨g',self,?_⟩;rw[Yq];exact a.sm rfl
   ·obtain⟨z,hz,hs⟩:=h.mn;obtain⟨e1,e2,_⟩:=a.wW _ e;refine⟨_,by rw[get _ e,hz];rfl,?_⟩;rw[a.vx (Ne.symm e),e1,e2,T9 _ e];exact(hs.woken g g' w').1
  ·rw[xG] at hi;rw[T9 i (by omega)];exact h.above i hi
  ·by_cases e:0=x
   ·subst e;rw[self] at hy;cases hy;exact(a.sb hb).1 rfl
   ·obtain⟨z,hz,hs⟩:=h.mn;rw[get _ e,hz] at hy;cases hy;obtain⟨h1,h2⟩:=(hs.woken g g' w').2 hb;rcases a.mv with h3 | h3
    ·exact h3 (h.bm z hz h1)
    ·rw[h3] at h2;cases h2
  ·rw[a.j] at hk
   by_cases e:b.base+k=x
   ·rw[e,self] at hy;cases hy;exact(a.sb hb).2 (by have:=h.iW;omega)
   ·obtain⟨z,hz,hs⟩:=h.wk k hk;rw[get _ e,hz] at hy;cases hy;obtain⟨h1,h2⟩:=(hs.woken g g' w').2 hb;rcases a.sn with h3 | h3
    ·exact h3 (h.bw k z hk hz h1)
    ·rw[h3] at h2;cases h2
  ·rw[a.j] at hk
   by_cases e:b.base+k=x
   ·rw[e];exact a.rel k hk e.symm hs
   ·rw[(a.sO k hk e).1] at hs;obtain⟨r,h1,h2⟩:=h.rel k hk hs;exact⟨r,h1,h2.app (h2.1.appOther (fun op ho=>(hu op ho).1) (Ne.symm e)) fun op ho hg=>absurd (hg.symm.trans (hu op ho).1) e⟩
def vG(w:World)(x:Nat)(o:Obj):World:={w with heap:=w.heap.setIfInBounds x o}
theorem jA{w:World}{x:Nat}{o:Obj}(h:x<w.heap.size):(vG w x o).heap[x]?=some o:=by
 show(w.heap.setIfInBounds x o)[x]?=_;rw[Array.getElem?_setIfInBounds_self_of_lt h]
theorem kr{w:World}{x y:Nat}{o:Obj}(h:y≠x):(vG w x o).heap[y]?=w.heap[y]?:=by
 show(w.heap.setIfInBounds x o)[y]?=_;rw[Array.getElem?_setIfInBounds_ne (Ne.symm h)]
theorem eP{w:World}{a:Addr}{c:Array Value}{e:TypeId}{fz:Nat×Nat}(h:w.heap[a.block]?=some (.cells c e fz)):w.cell? a=if a.spot.isSome then none else c[a.off]?:=by
 unfold World.cell?;rw[h]
theorem aQ.sP{b:aQ}{nt:Nat}{S0:Nat→Prop}(hb:b.Ok S0){w:World}(h:b.Φ nt w){a:Addr}{v:Value}(l7:∀w,b.Φ nt w→w.cell? a=some v):a.block=b.X∧¬b.mu (.cell a):=by
 obtain⟨⟨s1,s2,hW⟩,⟨st,sm,hX⟩,⟨c,hN⟩⟩:=id h;have ltW:b.W<w.heap.size:=(Array.getElem?_eq_some_iff.1 (show w.heap[b.W]?=_ from hW)).1;have ltX:b.X<w.heap.size:=(Array.getElem?_eq_some_iff.1 hX).1;have ltN:b.N<w.heap.size:=(Array.getElem?_eq_some_iff.1 hN).1;have h0:=l7 w h
 by_cases e:a.block=b.X
 ·refine⟨e,fun hm=>?_⟩;obtain⟨c0,e0,fz0,Gz,p1,p2,p3,p4,_⟩:=hb.xm st sm;obtain⟨c1,e1,fz1,U9,_,q2,_,q4,_⟩:=hb.xm (st+1) (sm+1);have h1:=l7 (vG w b.X (b.xo (st+1) (sm+1))) ⟨⟨s1,s2,(kr hb.wx).trans hW⟩,⟨_,_,jA ltX⟩,⟨c,(kr hb.nx).trans hN⟩⟩;rw[Gz] at hX;have hX1:(vG w b.X (b.xo (st+1) (sm+1))).heap[a.block]?=some (.cells c1 e1 fz1):=by rw[e,jA ltX,U9]
  rw[eP (by rw[e];exact hX)] at h0;rw[eP hX1] at h1;rcases hm with hm | hm
  ·cases hm;rw[p1] at h0 h1;simp only[Option.isSome_none,Bool.false_eq_true,if_false] at h0 h1;rw[p2] at h0;rw[q2] at h1;cases h0;simp at h1;omega
  ·cases hm;rw[p3] at h0 h1;simp only[Option.isSome_none,Bool.false_eq_true,if_false] at h0 h1;rw[p4] at h0;rw[q4] at h1;cases h0;simp at h1;omega
 ·exfalso
  by_cases eW:a.block=b.W
  ·have h1:=l7 (vG w b.W (wgBlock b.ty (s1+1) (s2+1))) ⟨⟨_,_,jA ltW⟩,⟨_,_,(kr (Ne.symm hb.wx)).trans hX⟩,⟨c,(kr (Ne.symm hb.wn)).trans hN⟩⟩;rw[eP (by rw[eW];exact hW)] at h0;rw[eP (by rw[eW];exact jA ltW)] at h1;obtain⟨bl,off,spot⟩:=a;cases spot with
   | some s=>simp at h0
   | none=>
    match off,h0,h1 with
    | 0,h0,h1=>simp at h0 h1;rw[←h0] at h1;simp at h1;omega
    | 1,h0,h1=>simp at h0 h1;rw[←h0] at h1;simp at h1;omega
    | off+2,h0,h1=>simp at h0
  ·by_cases eN:a.block=b.N
   ·have h1:=l7 (vG w b.N (aQ.cnt nt (c+1))) ⟨⟨s1,s2,(kr hb.wn).trans hW⟩,⟨_,_,(kr (Ne.symm hb.nx)).trans hX⟩,⟨_,jA ltN⟩⟩;rw[eP (by rw[eN];exact hN)] at h0;rw[eP (by rw[eN];exact jA ltN)] at h1;obtain⟨bl,off,spot⟩:=a;cases spot with
    | some s=>simp at h0
    | none=>
     match off,h0,h1 with
     | 0,h0,h1=>simp at h0 h1;rw[←h0] at h1;simp at h1;omega
     | off+1,h0,h1=>simp at h0
   ·have h1:=l7 (vG w a.block (.cells #[] 0 (0,0))) ⟨⟨s1,s2,(kr (Ne.symm eW)).trans hW⟩,⟨_,_,(kr (Ne.symm e)).trans hX⟩,⟨c,(kr (Ne.symm eN)).trans hN⟩⟩;have hl:a.block<w.heap.size:=by
     unfold World.cell? at h0;cases hx:w.heap[a.block]? with
     | none=>rw[hx] at h0;cases h0
     | some y=>exact(Array.getElem?_eq_some_iff.1 hx).1
    rw[eP (jA hl)] at h1;cases hs:a.spot <;> simp[hs] at h1
theorem GI.GO(h:GI b G)(F':Nat→Tree)(Ls':Nat→LH)(Sh':Nat→Prop)(q':Nat→Nat):GI b {G with F:=F',Ls:=Ls',Sh:=Sh',q:=q'}:=
 ⟨h.jn,h.n1,h.n6,h.jm,h.inv,h.A3,h.vQ,h.pc,h.fresh,h.EZ,h.dn,h.ji,h.tk,h.fuel,h.mode⟩
theorem dH.Φ(h:dH b nt Post W0 Anch S0 n0 gs w t G):b.Φ nt w:=⟨⟨_,_,h.wg⟩,⟨_,_,h.iT⟩,⟨_,h.cat⟩⟩
theorem dH.lt_size(h:dH b nt Post W0 Anch S0 n0 gs w t G){k:Nat}(hk:k<G.j):b.base+k<gs.size:=by rw[h.size];omega
theorem dH.R5(h:dH b nt Post W0 Anch S0 n0 gs w t G){x:Nat}(h0:0<x)(hb:x<b.base){g:Goroutine}(sl:Option (Nat×Nat))(hx:gs[x]?=some g)(cx:g.status=.running):r8 b nt Post W0 Anch S0 n0 gs w t G sl x:=by
  obtain⟨hq,hF⟩:=h.old x g h0 hb hx;have Gz:(x==0)=false:=by simp;omega
  cases ZP:G.q x with
  | zero=>rw[ZP] at hq;rw[hq.1] at cx;cases cx
  | succ m=>
    rw[ZP] at hq;rcases hq with⟨hf,_⟩ | ⟨_,g',es,hm,Gv,kS⟩
    · rw[hf] at cx;cases cx
    have hn:∀e∈es,(MemAct.ofEvent e).touch?=none:=fun e he=>touch_mute (hm e he);have aZ:∀op∈MemOp.ofEvents x g.frame.fn g.frame.place es,op.act.touch?=none∧∀a,op.act≠.mark (.release a):=fun op ho=>by
      obtain⟨e,he,hx⟩:=Go.Conc.mem_ofEvents ho;rw[hx];refine⟨hn e he,fun a ha=>?_⟩;have:=hm e he;obtain⟨loc,wr,sy⟩:=e;cases loc with
      | mark m=>cases m <;> simp_all [Event.mute,MemAct.ofEvent]
      | _=>simp[Event.mute] at this
    refine h.qk sl hx (by rw[Gz];exact Gv w) {G with F:=upd G.F x (Tree.num m),Ls:=G.Ls,Sh:=G.Sh,q:=upd G.q x m}
      {j:=rfl,gi:=h.gi.GO _ _ _ _,wW:=fun i hi=>⟨upd_ne _ _ hi,rfl,upd_ne _ _ hi⟩,sO:=fun _ _ _=>⟨rfl,rfl,rfl⟩,vx:=fun _=>rfl,
        so:=fun _ _=>?_,sw:=fun k _ e=>by omega,sm:=fun e=>by omega,ti:=h.ti.mute h.ok (.refl _ _) (fun op ho=>(aZ op ho).1) fun op ho=>⟨(aZ op ho).2 _,(aZ op ho).2 _⟩,same:=h.same,wg:=h.wg,iT:=h.iT,cat:=h.cat,iX:=h.iX,
        mv:=.inl id,sn:=.inl id,sb:=fun hb=>?_,rel:=fun k _ e=>by omega,lt:=.inr ⟨rfl,.inl ?_⟩}
    · show QuitsD b.P (upd G.q x m x) _ g'∧upd G.F x (Tree.num m) x=Tree.num (upd G.q x m x)
      rw[upd_same,upd_same];exact⟨kS,rfl⟩
    · have:=kS.status
      rw[hb] at this;rcases this with e | e <;> cases e
    · show Tree.sub (upd G.F x (Tree.num m) x) _
      rw[upd_same,hF,ZP];exact Tree.GX w m
theorem dH.G1(h:dH b nt Post W0 Anch S0 n0 gs w t G){x:Nat}{g:Goroutine}(sl:Option (Nat×Nat))(hx:gs[x]?=some g)(gm:b.Pt gs.size x){K:Tree→Goroutine→LH→Prop}
    (hs:Fl b.P (x==0) (b.Φ nt) g (G.Ls x) fun g' L'=>∃T',K T' g' L'∧Tree.sub T' (G.F x))(hr:∀T' g' L',K T' g' L'→g'.status=.running)
    (Gy:∀k,k<G.j→x=b.base+k→G.st k=8∧∀T' g' L' w',K T' g' L'→BW b nt (G.st k) (G.ws k) (G.fu k) T' (Deaf t x) g' L' w')
    (Nj:x=0→∀T' g' L',K T' g' L'→yb b nt Post W0 Anch G.mt T' (Deaf t 0) g' L'):r8 b nt Post W0 Anch S0 n0 gs w t G sl x:=by
  have U2:=h.ti.res;rcases hs with hs | ⟨a,v,g',es,wG,l7,hgo,T',hK,gB⟩
  · obtain⟨g',w',es,L',hgo,ot,T',hK,gB⟩:=hs w (U2.sub x) h.Φ
    have hd:=ot.deaf (Deaf t x);have ja:∀y,G.Sh y→w'.heap[y]?=w.heap[y]?:=fun y hy=>ot.keep y (U2.nQ y hy) (U2.sh x y hy);refine h.qk sl hx hgo {G with F:=upd G.F x T',Ls:=upd G.Ls x L',Sh:=G.Sh,q:=G.q}
      {j:=rfl,gi:=h.gi.GO _ _ _ _,wW:=fun i hi=>⟨upd_ne _ _ hi,upd_ne _ _ hi,rfl⟩,sO:=fun _ _ _=>⟨rfl,rfl,rfl⟩,vx:=fun _=>rfl,
        so:=fun h1 h2=>by unfold aQ.Pt at gm;omega,sw:=fun k hk e=>?_,sm:=fun e=>?_,ti:=h.ti.own h.ok gm ot _ _,same:=h.same.tr ot,
        wg:=(ja _ h.ti.AJ).trans h.wg,iT:=(ja _ h.ti.vH).trans h.iT,cat:=(ja _ h.ti.BM).trans h.cat,iX:=(ja _ h.ti.AI).trans h.iX,
        mv:=.inl id,sn:=.inl id,sb:=fun hb=>(by rw[hr _ _ _ hK] at hb;cases hb),rel:=fun k hk e h6=>(by have:=(Gy k hk e).1;simp only at h6;omega),lt:=.inr ⟨rfl,.inl ?_⟩}
    · show BW b nt (G.st k) (G.ws k) (G.fu k) (upd G.F x T' x) _ g' (upd G.Ls x L' x) w'
      rw[upd_same,upd_same,hd];exact(Gy k hk e).2 _ _ _ _ hK
    · subst e
      show yb b nt Post W0 Anch G.mt (upd G.F 0 T' 0) _ g' (upd G.Ls 0 L' 0);rw[upd_same,upd_same,hd];exact Nj rfl _ _ _ hK
    · show Tree.sub (upd G.F x T' x) _
      rw[upd_same];exact gB
  · obtain⟨p1,p2⟩:=aQ.sP h.ok h.Φ l7
    have hgo:=hgo w (U2.sub x) h.Φ;have hd:deafBehind (Deaf t x) es=Deaf t x:=deafBehind_still (fun e he=>by rw[wG e he];simp) _;have aZ:∀op∈MemOp.ofEvents x g.frame.fn g.frame.place es,op.g=x∧op.act=.ofEvent ⟨.cell a,false,false⟩:=fun op ho=>by
      obtain⟨e,he,hx⟩:=Go.Conc.mem_ofEvents ho;rw[wG e he] at hx;rw[hx];exact⟨rfl,rfl⟩
    refine h.qk sl hx hgo {G with F:=upd G.F x T',Ls:=G.Ls,Sh:=G.Sh,q:=G.q}
      {j:=rfl,gi:=h.gi.GO _ _ _ _,wW:=fun i hi=>⟨upd_ne _ _ hi,rfl,rfl⟩,sO:=fun _ _ _=>⟨rfl,rfl,rfl⟩,vx:=fun _=>rfl,
        so:=fun h1 h2=>by unfold aQ.Pt at gm;omega,sw:=fun k hk e=>?_,sm:=fun e=>?_,ti:=h.ti.app h.ok (.refl _ _) gm (fun op ho=>(aZ op ho).1) (fun op ho y hy=>?_) (fun op ho=>?_),same:=h.same,
        wg:=h.wg,iT:=h.iT,cat:=h.cat,iX:=h.iX,
        mv:=.inl id,sn:=.inl id,sb:=fun hb=>(by rw[hr _ _ _ hK] at hb;cases hb),rel:=fun k hk e h6=>(by have:=(Gy k hk e).1;simp only at h6;omega),lt:=.inr ⟨rfl,.inl ?_⟩}
    · show BW b nt (G.st k) (G.ws k) (G.fu k) (upd G.F x T' x) _ g' (G.Ls x) w
      rw[upd_same,hd];exact(Gy k hk e).2 _ _ _ _ hK
    · subst e
      show yb b nt Post W0 Anch G.mt (upd G.F 0 T' 0) _ g' (G.Ls 0);rw[upd_same,hd];exact Nj rfl _ _ _ hK
    · rw[(aZ op ho).2] at hy
      simp only[MemAct.ofEvent,MemAct.touch?,Option.some.injEq] at hy;subst hy;exact .inr (.inr ⟨rfl,rfl,by rw[←p1];rfl,p2⟩)
    · rw[(aZ op ho).2];simp[MemAct.ofEvent]
    · show Tree.sub (upd G.F x T' x) _
      rw[upd_same];exact gB
theorem dH.rF(h:dH b nt Post W0 Anch S0 n0 gs w t G){k:Nat}(hk:k<G.j)(h8:G.st k=8){g g':Goroutine}{w':World}{es:Array Event}(sl:Option (Nat×Nat))(hx:gs[b.base+k]?=some g)(hgo:stepG b.P false g w=.go g' w' es)
    {s':Ws}{S':Mu.Sh}{c':Nat}{K':List Nat}{o':Option Nat}{f:Nat}{Ls':Nat→LH}{Sh':Nat→Prop}
    (F3:Mu.Inv (G.ts.set k s'.T) S')(qS:oC s')(UX:b.ox (G.ts.set k s'.T) S' c'+s'.ph.bN<b.ox G.ts G.S G.c+(G.ws k).ph.bN)(hf:G.fu k=f+1)
    (hj:JI b (upd G.ws k s') c' K')(ht:TK b (upd G.ws k s') o' K')(cA:Way b.P false (b.Φ nt) (nW b nt f s') g' (Ls' (b.base+k)))
    (ns:jd b S0 n0 gs.size Ls' Sh' o' w' (t++MemOp.ofEvents (b.base+k) g.frame.fn g.frame.place es))(YQ:∀i,i≠b.base+k→Ls' i=G.Ls i)
    (hd:deafBehind (Deaf t (b.base+k)) es=s'.ph.deaf)(Ql:∀y,y≠b.X→y≠b.N→y≠b.B→G.Sh y→w'.heap[y]?=w.heap[y]?)(pK:j5 W0 w')(CE:b.qm w' S')(KQ:w'.heap[b.N]?=some (aQ.cnt nt c'))(abE:w'.heap[b.B]?=some (b.ob K'))
    (jg:(G.S.n+G.S.h=0→S'.n+S'.h=0)∨jC b.P g g'=true):r8 b nt Post W0 Anch S0 n0 gs w t G sl (b.base+k):=by
  have hb:=h.iW;obtain⟨T',cA⟩:=cA.at;obtain⟨lI,wL⟩:=h.gi.LP (F':=upd G.F (b.base+k) T') (Ls':=Ls') (Sh':=Sh') hk h8 F3 qS UX hf hj ht;obtain⟨f2,jT⟩:=lI.YA hk h8;have Ee:f=f2+1:=by
    have:upd G.fu k f k=f2+1:=jT;rw[upd_same] at this;exact this
  subst Ee;have cx:g'.status=.running:=cA.running fun _ _ x=>x.run;have aY:∀k',b.base+k'≠b.base+k→k'≠k:=fun k' e1 e2=>e1 (by rw[e2]);refine h.qk sl hx (by rw[show(b.base+k==0)=false by simp;omega];exact hgo) {G with ws:=upd G.ws k s',ts:=G.ts.set k s'.T,S:=S',c:=c',K:=K',o:=o',fu:=upd G.fu k (f2+1),F:=upd G.F (b.base+k) T',Ls:=Ls',Sh:=Sh'}
    {j:=rfl,gi:=lI,wW:=fun i hi=>⟨upd_ne _ _ hi,YQ i hi,rfl⟩,sO:=fun k' _ e=>⟨rfl,upd_ne _ _ (aY k' e),upd_ne _ _ (aY k' e)⟩,vx:=fun _=>rfl,
      so:=fun h1 h2=>by omega,sw:=fun k' gq e=>?_,sm:=fun e=>by omega,ti:=ns,same:=pK,
      wg:=(Ql _ h.ok.wx h.ok.wn h.ok.wb h.ti.AJ).trans h.wg,iT:=CE,cat:=KQ,iX:=abE,mv:=.inl id,sn:=jg,sb:=fun hb=>(by rw[cx] at hb;cases hb),rel:=fun k' gq e h6=>?_,lt:=.inl wL}
  · obtain rfl:k'=k:=by omega
    show BW b nt (G.st k') (upd G.ws k' s' k') (upd G.fu k' (f2+1) k') (upd G.F (b.base+k') T' (b.base+k')) _ g' (Ls' (b.base+k')) w';rw[upd_same,upd_same,upd_same,hd,h8];exact .own cA
  · obtain rfl:k'=k:=by omega
    simp only at h6;omega
theorem BU(P:Program){g g':Goroutine}(h1:mayWake P g=true)(h2:g'.status=.running):jC P g g'=true:=by
 unfold jC;rw[h1,h2];rfl
theorem mJ(x:Nat)(fn:FuncId)(pos:String)(m:Mark):MemOp.ofEvents x fn pos #[Go.ConcR.mk m]=#[{g:=x,fn,pos,act:=.mark m}]:=by
 rw[ofEvents_eq];simp[Go.ConcR.mk,MemAct.ofEvent]
theorem jd.mark{Ls:Nat→LH}{Sh:Nat→Prop}{o:Option Nat}{size:Nat}(h:jd b S0 n0 size Ls Sh o w t)(hb:b.Ok S0)(x:Nat)(fn:FuncId)(pos:String){m:Mark}(h1:(MemAct.mark m).touch?=none)(h2:∀a,m≠.release a):jd b S0 n0 size Ls Sh o w (t++MemOp.ofEvents x fn pos #[Go.ConcR.mk m]):=by
 rw[mJ];refine h.mute hb (.refl _ _) (fun op ho=>?_) fun op ho=>?_
 ·simp at ho;subst ho;exact h1
 ·simp at ho;subst ho;simp[h2]
theorem sR{W w:World}(a:Addr)(v:Value)(h:j5 W w):j5 W (w.setCell a v):=⟨h.tape,h.os,h.out⟩
theorem mN.same{W w w':World}{X:Nat}(h:mN X w w')(hs:j5 W w):j5 W w':=⟨h.tape.trans hs.tape,hs.os.trans h.os,h.out.trans hs.out⟩
theorem dH.Oi(h:dH b nt Post W0 Anch S0 n0 gs w t G){k:Nat}(hk:k<G.j)(h8:G.st k=8){g:Goroutine}(sl:Option (Nat×Nat))(hx:gs[b.base+k]?=some g){f:Nat}(hf:G.fu k=f+1)(hF:G.F (b.base+k)=.leaf)(hd:Deaf t (b.base+k)=(G.ws k).ph.deaf)
    (hs:nW b nt (f+1) (G.ws k) g (G.Ls (b.base+k)))(fZ:(G.ws k).ph≠.done):r8 b nt Post W0 Anch S0 n0 gs w t G sl (b.base+k):=by
  have hb:=h.iW;have eD:k<b.n:=Nat.lt_of_lt_of_le hk h.gi.jn;have gm:b.Pt gs.size (b.base+k):=.inr ⟨by omega,h.lt_size hk⟩;have kJ:=h.gi.pc k eD;have eI:=h.gi.vQ k eD;obtain⟨cx,hs⟩:=hs;have Ej:∀s':Ws,s'.T=(G.ws k).T→Mu.Inv (G.ts.set k s'.T) G.S:=fun s' e=>by rw[e,jK eI];exact h.gi.inv
  have QW:∀s':Ws,s'.T=(G.ws k).T→s'.ph.bN<(G.ws k).ph.bN→b.ox (G.ts.set k s'.T) G.S G.c+s'.ph.bN<b.ox G.ts G.S G.c+(G.ws k).ph.bN:=fun s' e hl=>by rw[e,jK eI];omega
  -- a mark
  have mark:∀(m:Mark) (p:Ph),(MemAct.mark m).touch?=none→(∀a,m≠.release a)→p.bN<(G.ws k).ph.bN→p≠.done→(G.ws k).ph.owns=false→p.owns=false→deafBehind (G.ws k).ph.deaf #[Go.ConcR.mk m]=p.deaf→oC {G.ws k with ph:=p}→
      b.Dq (fun s' g' L'=>Way b.P false (b.Φ nt) (nW b nt f s') g' L') (G.ws k) g (G.Ls (b.base+k)) m p→r8 b nt Post W0 Anch S0 n0 gs w t G sl (b.base+k):=by
    intro m p h1 h2 h3 h4 h5 h6 h7 PU ⟨g',hgo,hw⟩;exact h.rF hk h8 sl hx (hgo w) (s':={G.ws k with ph:=p}) (S':=G.S) (c':=G.c) (K':=G.K) (o':=G.o) (Ls':=G.Ls) (Sh':=G.Sh) (Ej _ rfl) PU (QW _ rfl h3) hf (h.gi.ji.keep eD rfl h4 fZ) (h.gi.tk.keep h5 h6) hw
      (h.ti.mark h.ok _ _ _ h1 h2) (fun _ _=>rfl) (by rw[hd];exact h7) (fun _ _ _ _ _=>rfl) h.same h.iT h.cat h.iX (.inl id)
  -- a step in N6 lock
  have mu:∀nx:Mu.Th→Ph,(∀T,(nx T).bN≤4∧nx T≠.done∧(nx T).owns=false∧(nx T).deaf=1∧∀J,oC ⟨nx T,T,J⟩)→(G.ws k).ph.owns=false→(G.ws k).ph.deaf=1→
      b.TM (fun s' g' L'=>Way b.P false (b.Φ nt) (nW b nt f s') g' L') (G.ws k) g (G.Ls (b.base+k)) nx→r8 b nt Post W0 Anch S0 n0 gs w t G sl (b.base+k):=by
    intro nx jf IT oQ ⟨ack,cz⟩;rcases cz G.S w (h.gi.fits eD) h.iT (h.ti.res.sub _) with⟨mV,qS,h0,hgo⟩ | ⟨T',S',g',w',es,dO,hgo,jZ,has,⟨Bv,yj⟩,I3,hw⟩
    · -- it waits
      refine h.qk sl hx (by rw[show(b.base+k==0)=false by simp;omega];exact hgo) {G with F:=G.F,Ls:=G.Ls,Sh:=G.Sh,q:=G.q}
        {j:=rfl,gi:=h.gi.GO _ _ _ _,wW:=fun i hi=>⟨rfl,rfl,rfl⟩,sO:=fun _ _ _=>⟨rfl,rfl,rfl⟩,vx:=fun _=>rfl,
          so:=fun h1 h2=>by omega,sw:=fun k' gq e=>?_,sm:=fun e=>by omega,ti:=?_,same:=h.same,wg:=h.wg,iT:=h.iT,cat:=h.cat,iX:=h.iX,
          mv:=.inl id,sn:=.inl id,sb:=fun _=>⟨fun e=>by omega,fun _=>h0⟩,rel:=fun k' gq e h6=>?_,lt:=.inr ⟨rfl,.inr ⟨rfl,cx,rfl⟩⟩}
      · obtain rfl:k'=k:=by omega
        show BW b nt (G.st k') (G.ws k') (G.fu k') (G.F (b.base+k')) _ _ (G.Ls (b.base+k')) w;rw[h8,hf,hF,show deafBehind (Deaf t (b.base+k')) #[]=Deaf t (b.base+k') from rfl,hd,oQ];exact .blk mV qS ⟨cx,by rw[mV];refine⟨ack,?_⟩;have:=hs;rw[mV] at this;exact this.2⟩
      · have:=h.ti.mute (u:=MemOp.ofEvents (b.base+k) g.frame.fn g.frame.place #[]) h.ok (.refl _ _) (fun op ho=>by obtain⟨e,he,_⟩:=Go.Conc.mem_ofEvents ho;simp at he) (fun op ho=>by obtain⟨e,he,_⟩:=Go.Conc.mem_ofEvents ho;simp at he)
        exact this
      · obtain rfl:k'=k:=by omega
        have h6':G.st k'≤6:=h6;omega
    · obtain⟨n1,n2,n3,n4,n5⟩:=jf T'
      have tJ:=Mu.r5 h.gi.inv eI dO;have hm:=Jj (b:=b) (c:=G.c) (Mu.wR (h.gi.xF eD) eI dO);have aZ:∀op∈MemOp.ofEvents (b.base+k) g.frame.fn g.frame.place es,op.g=b.base+k∧∃e∈es,op.act=.ofEvent e:=fun op aZ=>by
        obtain⟨e,he,hx⟩:=Go.Conc.mem_ofEvents aZ;rw[hx];exact⟨rfl,e,he,rfl⟩
      refine h.rF hk h8 sl hx hgo (s':=⟨nx T',T',(G.ws k).J⟩) (S':=S') (c':=G.c) (K':=G.K) (o':=G.o) (Ls':=G.Ls) (Sh':=G.Sh) tJ (n5 _) (by simp only;omega) hf (h.gi.ji.keep eD rfl n2 fZ) (h.gi.tk.keep IT n3) hw
        (h.ti.app h.ok ⟨has.size,fun y hy=>has.block y fun e=>hy (e▸h.ti.vH)⟩ gm (fun op ho=>(aZ op ho).1) (fun op ho y hy=>?_) fun op ho=>?_) (fun _ _=>rfl) (by rw[hd,oQ,yj];exact n4.symm) (fun y h1 _ _ _=>has.block y h1) (has.same h.same) jZ
        ((has.block _ h.ok.nx).trans h.cat) ((has.block _ (Ne.symm h.ok.xb)).trans h.iX) (I3.imp id fun e=>BU _ e.1 e.2)
      · obtain⟨_,e,he,cQ⟩:=aZ op ho
        rw[cQ] at hy;obtain⟨e1,e2⟩:=(Bv e he).1 y hy;exact .inl ⟨e1,.inr (.inr e2)⟩
      · obtain⟨_,e,he,cQ⟩:=aZ op ho
        rw[cQ];exact(Bv e he).2
  cases hp:(G.ws k).ph with
  | done=>exact absurd hp fZ
  | idle=>
    rw[hp] at hs;have mW:(G.ws k).T.pc=.out:=by unfold oC at kJ;rw[hp] at kJ;exact kJ
    have IT:(G.ws k).ph.owns=false:=by rw[hp];rfl
    rcases hs with⟨hJ,hs⟩ | ⟨hl,⟨i,hi,Nh⟩,g',hgo,hw⟩
    · obtain⟨g',hgo,jY,I2⟩:=hs G.c h.gi.ji.bound
      have hgo:=hgo w h.cat;have wH:∀y,y≠b.N→(w.setCell b.na (.int .i64 ((G.c:Int)+1))).heap[y]?=w.heap[y]?:=fun y hy=>by rw[heap_setCell,if_neg (show y≠b.na.block from hy)]
      have KQ:(w.setCell b.na (.int .i64 ((G.c:Int)+1))).heap[b.N]?=some (aQ.cnt nt ((G.c+1:Nat):Int)):=by
        rw[heap_setCell,if_pos (show b.N=b.na.block from rfl),h.cat];simp[aQ.cnt,iI,aQ.na]
      have aZ:∀op∈MemOp.ofEvents (b.base+k) g.frame.fn g.frame.place #[rd b.na,wr b.na],op.g=b.base+k∧(op.act=.ofEvent (rd b.na)∨op.act=.ofEvent (wr b.na)):=fun op aZ=>by
        obtain⟨e,he,hx⟩:=Go.Conc.mem_ofEvents aZ;rw[hx];simp at he;exact⟨rfl,he.imp (fun e=>by rw[e]) fun e=>by rw[e]⟩
      have ns:jd b S0 n0 gs.size G.Ls G.Sh G.o (w.setCell b.na (.int .i64 ((G.c:Int)+1))) (t++MemOp.ofEvents (b.base+k) g.frame.fn g.frame.place #[rd b.na,wr b.na]):=by
        refine h.ti.app h.ok ⟨by simp[World.setCell],fun y hy=>wH y fun e=>hy (e▸h.ti.BM)⟩ gm (fun op ho=>(aZ op ho).1) (fun op ho y hy=>?_) fun op ho=>?_
        · rcases(aZ op ho).2 with e | e
          · rw[e] at hy
            simp only[rd,MemAct.ofEvent,MemAct.touch?,Option.some.injEq] at hy;subst hy;exact .inl ⟨by simp,.inr (.inl rfl)⟩
          · rw[e] at hy
            simp only[wr,MemAct.ofEvent,MemAct.touch?,Option.some.injEq] at hy;subst hy;exact .inl ⟨by simp,.inr (.inl rfl)⟩
        · rcases(aZ op ho).2 with e | e <;> rw[e] <;> simp[rd,wr,MemAct.ofEvent]
      have gS:deafBehind (Deaf t (b.base+k)) #[rd b.na,wr b.na]=0:=by rw[hd,hp];simp[Ph.deaf,deafBehind,rd,wr]
      have CE:b.qm (w.setCell b.na (.int .i64 ((G.c:Int)+1))) G.S:=(wH _ (Ne.symm h.ok.nx)).trans h.iT
      by_cases hc:G.c<b.len
      · exact h.rF hk h8 sl hx hgo (s':=⟨.idle,{(G.ws k).T with left:=(G.ws k).T.left+1},some G.c⟩) (S':=G.S) (c':=G.c+1) (K':=G.K) (o':=G.o) (Ls':=G.Ls) (Sh':=G.Sh) (h.gi.inv.left eI mW _) mW
          (by have:=NI (b:=b) (S:=G.S) h.gi.A3 (Mu.Jh eI mW) hc;rw[hp];simp only;omega) hf (h.gi.ji.draw eD hJ hc rfl (by simp) fZ) (h.gi.tk.keep IT rfl) (jY hc) ns (fun _ _=>rfl) gS (fun y _ h2 _ _=>wH y h2) (sR _ _ h.same) CE KQ ((wH _ (Ne.symm h.ok.nb)).trans h.iX) (.inl id)
      · exact h.rF hk h8 sl hx hgo (s':=⟨.done,(G.ws k).T,none⟩) (S':=G.S) (c':=G.c+1) (K':=G.K) (o':=G.o) (Ls':=G.Ls) (Sh':=G.Sh) (Ej _ rfl) mW
          (by rw[jK eI,hp];simp only[aQ.ox,Ph.bN];rw[show b.len - (G.c+1)=b.len - G.c by omega];omega) hf (h.gi.ji.over eD hJ (by omega) rfl rfl fZ) (h.gi.tk.keep IT rfl) (I2 (by omega)) ns (fun _ _=>rfl) gS (fun y _ h2 _ _=>wH y h2) (sR _ _ h.same) CE KQ ((wH _ (Ne.symm h.ok.nb)).trans h.iX) (.inl id)
    · have dO:Mu.Step (G.ws k).T G.S {pc:=.l0,left:=(G.ws k).T.left - 1} G.S:=.out mW hl
      have tJ:=Mu.r5 h.gi.inv eI dO;have hm:=Jj (b:=b) (c:=G.c) (Mu.wR (h.gi.xF eD) eI dO);exact h.rF hk h8 sl hx (hgo w) (s':=⟨.lk,{pc:=.l0,left:=(G.ws k).T.left - 1},(G.ws k).J⟩) (S':=G.S) (c':=G.c) (K':=G.K) (o':=G.o) (Ls':=G.Ls) (Sh':=G.Sh) tJ trivial (by simp only[Ph.bN];omega) hf (h.gi.ji.keep eD rfl (by simp) fZ) (h.gi.tk.keep IT rfl) hw
        (h.ti.mark h.ok _ _ _ rfl (by simp)) (fun _ _=>rfl) (by rw[hd,hp];simp[Ph.deaf,deafBehind,Go.ConcR.mk]) (fun _ _ _ _ _=>rfl) h.same h.iT h.cat h.iX (.inl id)
  | lk=>
    rw[hp] at hs;refine mu xL (fun T=>?_) (by rw[hp];rfl) (by rw[hp];rfl) hs;unfold xL
    split
    · rename_i e;exact⟨by simp[Ph.bN],by simp,rfl,rfl,fun J=>e⟩
    · exact⟨by simp[Ph.bN],by simp,rfl,rfl,fun J=>trivial⟩
  | ul=>
    rw[hp] at hs;refine mu vR (fun T=>?_) (by rw[hp];rfl) (by rw[hp];rfl) hs;unfold vR
    split
    · rename_i e;exact⟨by simp[Ph.bN],by simp,rfl,rfl,fun J=>e⟩
    · exact⟨by simp[Ph.bN],by simp,rfl,rfl,fun J=>trivial⟩
  | got=>
    rw[hp] at hs;exact mark .enable .uX rfl (by simp) (by rw[hp];simp[Ph.bN]) (by simp) (by rw[hp];rfl) rfl (by rw[hp];simp[Ph.deaf,deafBehind,Go.ConcR.mk]) (by unfold oC at kJ ⊢;rw[hp] at kJ;exact kJ) hs
  | EJ=>
    rw[hp] at hs;exact mark .disable .ul rfl (by simp) (by rw[hp];simp[Ph.bN]) (by simp) (by rw[hp];rfl) rfl (by rw[hp];simp[Ph.deaf,deafBehind,Go.ConcR.mk]) trivial hs
  | fin=>
    rw[hp] at hs;exact mark .enable .idle rfl (by simp) (by rw[hp];simp[Ph.bN]) (by simp) (by rw[hp];rfl) rfl (by rw[hp];simp[Ph.deaf,deafBehind,Go.ConcR.mk]) (by unfold oC at kJ ⊢;rw[hp] at kJ;exact kJ) hs
  | uX=>
    rw[hp] at hs;have mW:(G.ws k).T.pc=.own:=by unfold oC at kJ;rw[hp] at kJ;exact kJ
    have IT:(G.ws k).ph.owns=false:=by rw[hp];rfl
    have ho:=h.gi.free eD mW IT;obtain⟨g',hgo,hw⟩:=hs;have ns:=h.ti;rw[ho] at ns;have xH:=h.gi.tk;rw[ho] at xH;have hw:=hw G.K fun i hi=>(h.gi.ji.kj k eD i hi).2.2.1;have hta:=ns.acquire h.ok gm (z:={g:=b.base+k,fn:=g.frame.fn,pos:=g.frame.place,act:=.mark (.acquire b.ma)}) rfl rfl (by rw[hd,hp];rfl);rw[←mJ] at hta;exact h.rF hk h8 sl hx (hgo w) (s':={G.ws k with ph:=.hold G.K}) (S':=G.S) (c':=G.c) (K':=G.K) (o':=some (b.base+k)) (Ls':=G.Ls) (Sh':=G.Sh) (Ej _ rfl) mW (QW _ rfl (by rw[hp];simp[Ph.bN])) hf (h.gi.ji.keep eD rfl (by simp) fZ) (xH.take eD rfl) hw
      hta (fun _ _=>rfl) (by rw[hd,hp];simp[Ph.deaf,deafBehind,Go.ConcR.mk]) (fun _ _ _ _ _=>rfl) h.same h.iT h.cat h.iX (.inl id)
  | hold K=>
    rw[hp] at hs;have mW:(G.ws k).T.pc=.own:=by unfold oC at kJ;rw[hp] at kJ;exact kJ
    have ho:=h.gi.tk.xi k eD (by rw[hp];rfl);obtain rfl:=h.gi.tk.N7 k eD K hp;obtain⟨i,hi,Nh,hw⟩:=hs;have ns:=h.ti;rw[ho] at ns;have xH:=h.gi.tk;rw[ho] at xH;have hLB:G.Ls (b.base+k) b.B=none:=ns.res.sh _ _ ns.AI;have gB:Sub ((G.Ls (b.base+k)).put b.B (b.ob G.K)) w:=by
      intro y v wr hv;rcases yP hv with⟨rfl,e⟩ | ⟨_,e⟩
      · cases e;exact h.iX
      · exact h.ti.res.sub _ y v wr e
    obtain⟨g',w',es,hgo,ot,hw⟩:=hw w hLB gB;have ja:∀y,y≠b.B→G.Sh y→w'.heap[y]?=w.heap[y]?:=fun y hy hs=>ot.keep y (h.ti.res.nQ y hs) (by rw[au _ _ hy];exact h.ti.res.sh _ y hs);exact h.rF hk h8 sl hx hgo (s':=⟨.put,(G.ws k).T,none⟩) (S':=G.S) (c':=G.c) (K':=G.K++[i]) (o':=some (b.base+k)) (Ls':=G.Ls) (Sh':=G.Sh) (Ej _ rfl) mW (QW _ rfl (by rw[hp];simp[Ph.bN])) hf (h.gi.ji.kept eD hi Nh rfl (by simp) fZ) (xH.qk eD rfl _) hw
      (ns.qk h.ok h.iX ot _ _) (fun _ _=>rfl) (by rw[hd,hp,ot.deaf];rfl) (fun y h1 h2 h3 h4=>ja y h3 h4) (h.same.tr ot) ((ja _ h.ok.xb h.ti.vH).trans h.iT) ((ja _ h.ok.nb h.ti.BM).trans h.cat) (ot.sub b.B _ true (aj _ _ _)) (.inl id)
  | put=>
    rw[hp] at hs;have mW:(G.ws k).T.pc=.own:=by unfold oC at kJ;rw[hp] at kJ;exact kJ
    have ho:=h.gi.tk.xi k eD (by rw[hp];rfl);obtain⟨g',hgo,hw⟩:=hs;have ns:=h.ti;rw[ho] at ns;have xH:=h.gi.tk;rw[ho] at xH;have ot:=ns.release h.ok (z:={g:=b.base+k,fn:=g.frame.fn,pos:=g.frame.place,act:=.mark (.releaseMerge b.ma)}) rfl rfl (by rw[hd,hp];rfl);rw[←mJ] at ot;have dO:Mu.Step (G.ws k).T G.S {(G.ws k).T with pc:=.u0} G.S:=.own mW;have tJ:=Mu.r5 h.gi.inv eI dO;have hm:=Jj (b:=b) (c:=G.c) (Mu.wR (h.gi.xF eD) eI dO);exact h.rF hk h8 sl hx (hgo w) (s':=⟨.EJ,{(G.ws k).T with pc:=.u0},(G.ws k).J⟩) (S':=G.S) (c':=G.c) (K':=G.K) (o':=none) (Ls':=G.Ls) (Sh':=G.Sh) tJ rfl (Nat.lt_of_lt_of_le (Nat.add_lt_add_left (show Ph.bN .EJ<8 by decide) _) (Nat.le_trans hm (Nat.le_add_right _ _))) hf (h.gi.ji.keep eD rfl (by simp) fZ) (xH.give rfl _) hw
      ot (fun _ _=>rfl) (by rw[hd,hp];simp[Ph.deaf,deafBehind,Go.ConcR.mk]) (fun _ _ _ _ _=>rfl) h.same h.iT h.cat h.iX (.inl id)
theorem GI.libs(h:GI b G){k s':Nat}(hk:k<G.j)(h1:1≤s')(h7:s'≤7)(hle:s'≤G.st k)(mw:(G.ws k).ph=.done){F':Nat→Tree}{fC l8:Int}(hm:ConcN.Mode G.j (cJ (upd G.st k s')) G.mt.oG fC l8):
  GI b {G with st:=upd G.st k s',F:=F',sv:=fC,mv:=l8}∧(s'<G.st k→b.μ {G with st:=upd G.st k s',F:=F',sv:=fC,mv:=l8}<b.μ G)∧(s'=G.st k→b.μ {G with st:=upd G.st k s',F:=F',sv:=fC,mv:=l8}=b.μ G):=by
 have BA:=h.jn;have eD:k<b.n:=by omega
 have e:wv {G with st:=upd G.st k s'}=upd (wv G) k s':=by
  funext i
  by_cases e:i=k
  ·subst e;simp only[wv,upd_same,hk,if_true];rw[if_neg (by omega)]
  ·simp only[wv,upd_ne _ _ e]
 have hv:wv G k=if G.st k=8 then 20+(G.ws k).ph.bN else G.st k:=by simp[wv,hk]
 have hs:=sumTo_upd (wv G) s' id eD;have hs:sumTo b.n (upd (wv G) k s')+wv G k=sumTo b.n (wv G)+s':=hs;have hr:G.mt.bN b.n (Vc G.j (cJ (upd G.st k s')))≤G.mt.bN b.n (Vc G.j (cJ G.st)):=FD _ (J9 hk hle) _;have wL:b.μ {G with st:=upd G.st k s',F:=F',sv:=fC,mv:=l8}=b.ox G.ts G.S G.c+(sumTo b.n (upd (wv G) k s')+G.mt.bN b.n (Vc G.j (cJ (upd G.st k s')))):=by
  rw[←e];rfl
 have XK:b.μ G=b.ox G.ts G.S G.c+(sumTo b.n (wv G)+G.mt.bN b.n (Vc G.j (cJ G.st))):=rfl;have aU:s'<G.st k→b.μ {G with st:=upd G.st k s',F:=F',sv:=fC,mv:=l8}<b.μ G:=fun hl=>by
  rw[wL,XK]
  split at hv <;> omega
 have heq:s'=G.st k→b.μ {G with st:=upd G.st k s',F:=F',sv:=fC,mv:=l8}=b.μ G:=fun hl=>by
  have:upd G.st k s'=G.st:=Kf hl;rw[wL,XK,this];rw[if_neg (by omega)] at hv;omega
 have ab9:b.μ {G with st:=upd G.st k s',F:=F',sv:=fC,mv:=l8}≤b.μ G:=by
  rcases Nat.lt_or_ge s' (G.st k) with e | e
  ·exact Nat.le_of_lt (aU e)
  ·exact Nat.le_of_eq (heq (by omega))
 refine⟨⟨h.jn,h.n1,h.n6,h.jm,h.inv,h.A3,h.vQ,h.pc,h.fresh,fun i hi=>?_,fun i hi hi7=>?_,h.ji,h.tk,fun i hi h8=>?_,hm⟩,aU,heq⟩
 ·by_cases e:i=k
  ·subst e;simp only[upd_same];exact .inl ⟨h1,h7⟩
  ·simp only[upd_ne _ _ e];exact h.EZ i hi
 ·by_cases e:i=k
  ·subst e;exact mw
  ·simp only[upd_ne _ _ e] at hi7;exact h.dn i hi hi7
 ·by_cases e:i=k
  ·subst e;simp only[upd_same] at h8;omega
  ·simp only[upd_ne _ _ e] at h8;exact Nat.le_trans ab9 (h.fuel i hi h8)
theorem dH.I7(h:dH b nt Post W0 Anch S0 n0 gs w t G){k s' m':Nat}(hk:k<G.j)(h1:1≤s')(h7:s'≤7)(hle:s'≤G.st k)(mw:(G.ws k).ph=.done){g g':Goroutine}{w':World}{es:Array Event}(sl:Option (Nat×Nat))(hx:gs[b.base+k]?=some g)(hgo:stepG b.P false g w=.go g' w' es)
    (n7:Aside b.W w w'){fC l8:Int}(ee:WgAt b.ty b.W w' fC l8)(hm:ConcN.Mode G.j (cJ (upd G.st k s')) G.mt.oG fC l8)
    (cN:∀e∈es,(∀y,(MemAct.ofEvent e).touch?=some y→y.kind=.atomic∧cU y.loc=some b.W)∧∀a,MemAct.ofEvent e≠.mark (.release a))
    (jR:BW b nt s' (G.ws k) (G.fu k) (Tree.num m') (deafBehind (Deaf t (b.base+k)) es) g' (G.Ls (b.base+k)) w')(sz:g'.status≠.blocked)(nn:(G.mv=0→l8=0)∨jC b.P g g'=true)
    (KX:s'≤6→∃r,n0≤r∧BS b.W (t++MemOp.ofEvents (b.base+k) g.frame.fn g.frame.place es) (b.base+k) r)(aU:s'<G.st k∨(s'=G.st k∧G.F (b.base+k)=Tree.num (m'+1))):r8 b nt Post W0 Anch S0 n0 gs w t G sl (b.base+k):=by
  have hb:=h.iW;have gm:b.Pt gs.size (b.base+k):=.inr ⟨by omega,h.lt_size hk⟩;obtain⟨lI,acD,acE⟩:=h.gi.libs (F':=upd G.F (b.base+k) (Tree.num m')) hk h1 h7 hle mw hm;have aZ:∀op∈MemOp.ofEvents (b.base+k) g.frame.fn g.frame.place es,op.g=b.base+k∧∃e∈es,op.act=.ofEvent e:=fun op aZ=>by
    obtain⟨e,he,hx⟩:=Go.Conc.mem_ofEvents aZ;rw[hx];exact⟨rfl,e,he,rfl⟩
  have aY:∀k',b.base+k'≠b.base+k→k'≠k:=fun k' e1 e2=>e1 (by rw[e2]);have CE:w'.heap[b.X]?=w.heap[b.X]?:=n7.block _ (Ne.symm h.ok.wx);refine h.qk sl hx (by rw[show(b.base+k==0)=false by simp;omega];exact hgo) {G with st:=upd G.st k s',F:=upd G.F (b.base+k) (Tree.num m'),sv:=fC,mv:=l8}
    {j:=rfl,gi:=lI,wW:=fun i hi=>⟨upd_ne _ _ hi,rfl,rfl⟩,sO:=fun k' _ e=>⟨upd_ne _ _ (aY k' e),rfl,rfl⟩,vx:=fun _=>rfl,
      so:=fun h1 h2=>by omega,sw:=fun k' gq e=>?_,sm:=fun e=>by omega,ti:=h.ti.app h.ok ⟨n7.size,fun y hy=>n7.block y fun e=>hy (e▸h.ti.AJ)⟩ gm (fun op ho=>(aZ op ho).1) (fun op ho y hy=>?_) (fun op ho=>?_),
      same:=⟨n7.tape.trans h.same.tape,h.same.os.eq n7.os,n7.output.trans h.same.out⟩,
      wg:=ee,iT:=CE.trans h.iT,cat:=(n7.block _ (Ne.symm h.ok.wn)).trans h.cat,iX:=(n7.block _ (Ne.symm h.ok.wb)).trans h.iX,mv:=nn,sn:=.inl id,sb:=fun hb=>absurd hb sz,rel:=fun k' gq e h6=>?_,lt:=?_}
  · obtain rfl:k'=k:=by omega
    show BW b nt (upd G.st k' s' k') (G.ws k') (G.fu k') (upd G.F (b.base+k') (Tree.num m') (b.base+k')) _ g' (G.Ls (b.base+k')) w';rw[upd_same,upd_same];exact jR
  · obtain⟨_,e,he,cQ⟩:=aZ op ho
    rw[cQ] at hy;obtain⟨e1,e2⟩:=(cN e he).1 y hy;exact .inl ⟨e1,.inl e2⟩
  · obtain⟨_,e,he,cQ⟩:=aZ op ho
    rw[cQ];exact⟨(cN e he).2 _,(cN e he).2 _⟩
  · obtain rfl:k'=k:=by omega
    exact KX (by have:upd G.st k' s' k'≤6:=h6;rw[upd_same] at this;exact this)
  · rcases aU with e | ⟨e1,e2⟩
    · exact .inl (acD e)
    · refine .inr ⟨acE e1,.inl ?_⟩
      show Tree.sub (upd G.F (b.base+k) (Tree.num m') (b.base+k)) (G.F (b.base+k));rw[upd_same,e2];exact Tree.GX w m'
theorem O2{W:Nat}{e:Event}(h:Bk W e):(∀y,(MemAct.ofEvent e).touch?=some y→y.kind=.atomic∧cU y.loc=some W)∧∀a,MemAct.ofEvent e≠.mark (.release a):=by
 obtain⟨loc,wr,sy⟩:=e;rcases h with h1 | h1 | ⟨a,wr,h1,h2⟩
 ·simp only at h1;subst h1;exact⟨fun y hy=>by simp[MemAct.ofEvent,MemAct.touch?] at hy,by simp[MemAct.ofEvent]⟩
 ·simp only at h1;subst h1;exact⟨fun y hy=>by simp[MemAct.ofEvent,MemAct.touch?] at hy,by simp[MemAct.ofEvent]⟩
 ·cases h1;refine⟨fun y hy=>?_,by simp[MemAct.ofEvent]⟩;simp only[MemAct.ofEvent,MemAct.touch?,Option.some.injEq] at hy;subst hy;exact⟨rfl,by rw[←h2];rfl⟩
theorem dH.KE(h:dH b nt Post W0 Anch S0 n0 gs w t G){k:Nat}(hk:k<G.j)(mw:(G.ws k).ph=.done){g:Goroutine}(sl:Option (Nat×Nat))(hx:gs[b.base+k]?=some g){m:Nat}(hd:Deaf t (b.base+k)=0)
  (hg:Goes b.P false (RW b.ty b.W b.X 1 0 0) DC0 (AtR0 b.P b.ty b.W b.X 1 0 1 b.v0) m g w)(hs:(G.st k=7∧G.F (b.base+k)=Tree.num m)∨G.st k=8):r8 b nt Post W0 Anch S0 n0 gs w t G sl (b.base+k):=by
 have om:=h.gi.mode;have adP:min (G.st k) 7=7:=by rcases hs with⟨e,_⟩ | e <;> omega
 rcases Goes.cases hg with kU | ⟨m',rfl,dO⟩
 ·obtain⟨_,ab3,g',hgo,m₂,hK⟩:=kU w (RW.refl w);have hl:uz b.P b.ty b.W b.X b.v0 6 m₂ 0 g' w:=.k1 hK;refine h.I7 (s':=6) (m':=m₂) hk (by omega) (by omega) (by omega) mw sl hx hgo (.refl _ w) h.wg ?_ (fun e he=>?_) ?_ (fun e=>?_) (.inl id) (fun _=>⟨t.size,h.ti.len,RelBy.new hd _ _,fun i op y hi ho _ _=>?_⟩) (.inl (by omega))
  ·rw[pn _ _ _ (by omega)];exact om.counted hk (by simp only[cJ];omega) (.inl rfl) 0 0
  ·simp at he;subst he;exact⟨fun y hy=>by simp[Go.ConcR.mk,MemAct.ofEvent,MemAct.touch?] at hy,by simp[Go.ConcR.mk,MemAct.ofEvent]⟩
  ·rw[hd];exact .wN (Nat.le_refl _) (by simpa [deafBehind,Go.ConcR.mk] using hl)
  ·rcases WSit.status hl with e2 | e2 <;> rw[e] at e2 <;> cases e2
  ·have:=lt_size_of_getElem? ho;rw[mJ] at this;simp at this;omega
 ·obtain⟨g',w',es,hgo,⟨rfl,rfl⟩,oR⟩:=dO w (RW.refl w);refine h.I7 (s':=7) (m':=m') hk (by omega) (by omega) (by omega) mw sl hx hgo (.refl _ _) h.wg ?_ (by simp) ?_ (fun e=>?_) (.inl id) (fun e=>by omega) ?_
  ·rw[De _ _ _ (by omega)];exact om
  ·rw[hd];exact .dn oR
  ·have:=Goes.running (fun _ _ x=>x.1) _ (RW.refl _) oR;rw[e] at this;cases this
  ·rcases hs with⟨e,e2⟩ | e
   ·exact .inr ⟨e.symm,e2⟩
   ·exact .inl (by omega)
theorem dH.RF(h:dH b nt Post W0 Anch S0 n0 gs w t G){k:Nat}(hk:k<G.j)(h6:G.st k≤6){g:Goroutine}(sl:Option (Nat×Nat))(hx:gs[b.base+k]?=some g)(cx:g.status=.running){m:Nat}
  (hl:uz b.P b.ty b.W b.X b.v0 (G.st k) m (Deaf t (b.base+k)) g w)(hF:G.F (b.base+k)=Tree.num m):r8 b nt Post W0 Anch S0 n0 gs w t G sl (b.base+k):=by
 have hm:=h.gi.mode;have BA:=h.gi.jn;have hn6:=h.gi.n6;have mw:=h.gi.dn k hk (by omega);have KZ:(cJ G.st k).stage=G.st k:=by simp only[cJ];omega
 obtain⟨g',w',es,s',m',fC,l8,hgo,oT,acB,nn⟩:=NA (Ne.symm h.ok.wx) hl cx h.wg (fun e=>NF hm hk (by rw[KZ];exact e) (by omega)) (fun e=>tZ hm hk (by rw[KZ];exact e)) (fun e=>CN hm hk (by rw[KZ];exact e));obtain⟨acr,CC⟩:=oT.le7;have sz:g'.status≠.blocked:=fun e=>by rcases WSit.status oT with e2 | e2 <;> rw[e] at e2 <;> cases e2
 obtain⟨r,hr,KX⟩:=h.rel k hk h6;generalize cu:G.st k=s at nn KZ;generalize gS:Deaf t (b.base+k)=dd at nn oT;cases nn with
 | Rr=>omega
 | rel=>omega
 | book _ n7 Bv yj h5=>
  have I3:(G.mv=0→l8=0)∨jC b.P g g'=true:=by
   rcases h5 with⟨_,_,_,e3⟩ | ⟨_,_,_,e4⟩ | ⟨_,_,e3,_⟩ | ⟨_,_,_,e4⟩ | ⟨_,_,_,e4⟩ | ⟨_,_,_,_,e5,e6⟩
   ·exact .inl fun e=>e3.trans e
   ·exact .inl fun e=>e4.trans e
   ·exact .inl fun e=>e3.trans e
   ·exact .inl fun e=>e4.trans e
   ·exact .inl fun e=>e4.trans e
   ·exact .inr (BU _ e5 e6)
  have iO:s'≤s:=by omega
  refine h.I7 (s':=s') (m':=m') hk acr CC (by omega) mw sl hx hgo n7 acB ?_ (fun e he=>O2 (Bv e he)) (.wN (by omega) (by rw[gS];exact oT)) sz I3 (fun _=>⟨r,hr,KX.app (KX.1.book gS _ _ Bv yj) fun op ho _ y hy=>?_⟩) ?_
  ·rcases h5 with⟨e1,_,e2,e3⟩ | ⟨e1,e2,e3,e4⟩ | ⟨e1,e2,e3,e4⟩ | ⟨e1,e2,e3,e4⟩ | ⟨e1,e2,e3,e4⟩ | ⟨e1,e2,e3,e4,e5,e6⟩
   ·rw[e2,e3,De G.st k s' (by omega)];exact hm
   ·rw[e3,e4,pn _ _ _ CC,e2];exact hm.counted hk (by omega) (.inr rfl) 0 0
   ·rw[e3,pn _ _ _ CC];obtain⟨d1,d2⟩:=NG hm hk (by omega) e2;rcases e4 with⟨e4,e5⟩ | ⟨e4,e5⟩
    ·rw[e5];exact d1 e4
    ·rw[e5];exact d2 e4
   ·obtain⟨z1,z2⟩:=tZ hm hk (by omega);rw[e3,e4,pn _ _ _ CC,e2,z1,z2];exact zZ hm hk (by omega) (.inl rfl)
   ·obtain⟨z1,z2⟩:=tZ hm hk (by omega);rw[e3,e4,pn _ _ _ CC,e2,z2];exact zZ hm hk (by omega) (.inr rfl)
   ·obtain⟨z1,z2⟩:=CN hm hk (by omega);have sz:G.mt.oG≠.blk:=by cases G.mt <;> simp[cB.oG]
    obtain⟨f1,f2⟩:=Ji hm hk (by omega) sz;rw[e3,e4,pn _ _ _ CC,e2,z1,f1];exact f2
  ·obtain⟨e,he,Va⟩:=Go.Conc.mem_ofEvents ho;rw[Va] at hy;exact((O2 (Bv e he)).1 y hy).2
  ·by_cases e:s'=s
   ·refine .inr ⟨e.trans cu.symm,?_⟩;rw[hF];have:m'+1=m:=by omega
    rw[this]
   ·exact .inl (by omega)
theorem dH.workerStep(h:dH b nt Post W0 Anch S0 n0 gs w t G){k:Nat}(hk:k<G.j){g:Goroutine}(sl:Option (Nat×Nat))(hx:gs[b.base+k]?=some g)(cx:g.status=.running):r8 b nt Post W0 Anch S0 n0 gs w t G sl (b.base+k):=by
 have hb:=h.iW;have eD:k<b.n:=Nat.lt_of_lt_of_le hk h.gi.jn;obtain⟨y,hy,hw⟩:=h.wk k hk;rw[hx] at hy;cases hy;generalize cu:G.st k=s at hw;generalize hf:G.fu k=f at hw;generalize UG:G.F (b.base+k)=T0 at hw;generalize Qt:Deaf t (b.base+k)=d0 at hw;generalize hL:G.Ls (b.base+k)=L0 at hw;generalize ZX:G.ws k=sw at hw;cases hw with
 | @own s f T g L w cA=>
  rcases cA.DO with⟨hs,hl⟩ | ⟨_,hs⟩
  ·subst ZX hL
   by_cases hd:(G.ws k).ph=.done
   ·have h2:=hs.2;rw[hd] at h2;obtain⟨m,hm⟩:=h2;have l7:=h.Φ;exact h.KE hk hd sl hx (by rw[Qt,hd];rfl) (hm w ⟨l7.1,(l7.has h.ok).1⟩) (.inr cu)
   ·exact h.Oi hk cu sl hx hf (UG.trans hl) Qt hs hd
  ·subst hL;refine h.G1 (K:=fun T' g' L'=>At b.P false (b.Φ nt) (nW b nt (f+1) sw) T' g' L') sl hx (.inr ⟨by omega,h.lt_size hk⟩) (by rw[show(b.base+k==0)=false by simp;omega,UG];exact hs) (fun _ _ _ x=>x.running fun _ _ x=>x.run) (fun k' gq e=>?_) (fun e=>by omega);obtain rfl:k'=k:=by omega
   refine⟨cu,fun T' g' L' w' hK=>?_⟩;rw[cu,hf,ZX,Qt];exact .own hK
 | blk=>cases cx
 | dn hg=>
  subst ZX;exact h.KE hk (h.gi.dn k hk (by omega)) sl hx Qt hg (.inl ⟨cu,UG⟩)
 | wN h6 hl=>
  exact h.RF hk (by omega) sl hx cx (by rw[cu,Qt];exact hl) UG
theorem GI.main(h:GI b G){mt':cB}{F':Nat→Tree}{fC l8:Int}(dF:mt'.ok b.n G.j)(hm:ConcN.Mode G.j (cJ G.st) mt'.oG fC l8)(hr:mt'.bN b.n (Vc G.j (cJ G.st))<G.mt.bN b.n (Vc G.j (cJ G.st))):
  GI b {G with mt:=mt',F:=F',sv:=fC,mv:=l8}∧b.μ {G with mt:=mt',F:=F',sv:=fC,mv:=l8}<b.μ G:=by
 have wL:b.μ {G with mt:=mt',F:=F',sv:=fC,mv:=l8}<b.μ G:=by
  show b.ox G.ts G.S G.c+(sumTo b.n (wv G)+mt'.bN b.n (Vc G.j (cJ G.st)))<b.ox G.ts G.S G.c+(sumTo b.n (wv G)+G.mt.bN b.n (Vc G.j (cJ G.st)));omega
 exact⟨⟨h.jn,h.n1,h.n6,dF,h.inv,h.A3,h.vQ,h.pc,h.fresh,h.EZ,h.dn,h.ji,h.tk,fun k hk h8=>Nat.le_trans (Nat.le_of_lt wL) (h.fuel k hk h8),hm⟩,wL⟩
def EvB(W:Nat)(es:Array Event):Prop:=∀e∈es,(∀x,(MemAct.ofEvent e).touch?=some x→x.kind≠.plain∧cU x.loc=some W∧(x.kind=.said→x.loc=.cell (smA W)))∧∀a,MemAct.ofEvent e≠.mark (.release a)
theorem yJ(W:Nat):EvB W #[rd (stA W)]:=fun e he=>⟨(Yv W e he).1,by simp at he;subst he;simp[rd,MemAct.ofEvent]⟩
theorem D2(W:Nat):EvB W #[rd (stA W),wr (stA W)]:=fun e he=>⟨(Yw W e he).1,by simp at he;rcases he with rfl | rfl <;> simp[rd,wr,MemAct.ofEvent]⟩
theorem PM(W:Nat):EvB W (semEvents (smA W)):=fun e he=>⟨(Ui W e he).1,by simp[semEvents] at he;rcases he with rfl | rfl | rfl | rfl <;> simp[MemAct.ofEvent]⟩
theorem rQ{m:Mark}(W:Nat)(h1:∀a,m≠.release a)(h2:(∀a,m≠.read a∧m≠.write a)∨m=.write (smA W)∨m=.read (smA W)):EvB W #[Go.ConcR.mk m]:=fun e he=>⟨(Yu W h1 h2 e he).1,by simp at he;subst he;simpa [Go.ConcR.mk,MemAct.ofEvent] using h1⟩
theorem PL(W:Nat):EvB W #[]:=fun e he=>by simp at he
theorem dH.ti0(h:dH b nt Post W0 Anch S0 n0 gs w t G){w':World}(n7:Aside b.W w w'){es:Array Event}(cN:EvB b.W es)(fn:FuncId)(pos:String):jd b S0 n0 gs.size G.Ls G.Sh G.o w' (t++MemOp.ofEvents 0 fn pos es):=by
 have aZ:∀op∈MemOp.ofEvents 0 fn pos es,op.g=0∧∃e∈es,op.act=.ofEvent e:=fun op aZ=>by
  obtain⟨e,he,hx⟩:=Go.Conc.mem_ofEvents aZ;rw[hx];exact⟨rfl,e,he,rfl⟩
 refine h.ti.app h.ok ⟨n7.size,fun y hy=>n7.block y fun e=>hy (e▸h.ti.AJ)⟩ (.inl rfl) (fun op ho=>(aZ op ho).1) (fun op ho y hy=>?_) fun op ho=>?_
 ·obtain⟨_,e,he,cQ⟩:=aZ op ho;rw[cQ] at hy;obtain⟨h1,h2,h3⟩:=(cN e he).1 y hy;cases hk:y.kind with
  | plain=>exact absurd hk h1
  | atomic=>exact .inl ⟨hk,.inl h2⟩
  | said=>exact .inr (.inl ⟨hk,h3 hk,rfl⟩)
 ·obtain⟨_,e,he,cQ⟩:=aZ op ho;rw[cQ];exact⟨(cN e he).2 _,(cN e he).2 _⟩
theorem dH.kl(h:dH b nt Post W0 Anch S0 n0 gs w t G){g g':Goroutine}{w':World}{es:Array Event}(sl:Option (Nat×Nat))(hx:gs[0]?=some g)(hgo:stepG b.P true g w=.go g' w' es)(n7:Aside b.W w w')(cN:EvB b.W es)
    {mt':cB}{fC l8:Int}(hw:iU b nt (mt'.stop b nt Post W0 Anch) g' (G.Ls 0))(hd:deafBehind (Deaf t 0) es=mt'.deaf)(ee:WgAt b.ty b.W w' fC l8)(dF:mt'.ok b.n G.j)
    (hm:ConcN.Mode G.j (cJ G.st) mt'.oG fC l8)(nn:G.mv=0→l8=0)(hr:mt'.bN b.n (Vc G.j (cJ G.st))<G.mt.bN b.n (Vc G.j (cJ G.st))):r8 b nt Post W0 Anch S0 n0 gs w t G sl 0:=by
  have hb:=h.iW;obtain⟨T',cA⟩:=Way.at hw;obtain⟨lI,wL⟩:=h.gi.main (F':=upd G.F 0 T') dF hm hr;have cx:g'.status=.running:=cA.running fun _ _ x=>x.1;refine h.qk sl hx hgo {G with mt:=mt',F:=upd G.F 0 T',sv:=fC,mv:=l8}
    {j:=rfl,gi:=lI,wW:=fun i hi=>⟨upd_ne _ _ hi,rfl,rfl⟩,sO:=fun _ _ _=>⟨rfl,rfl,rfl⟩,vx:=fun e=>absurd rfl e,
      so:=fun h1 _=>absurd h1 (by omega),sw:=fun k _ e=>by omega,sm:=fun _=>?_,ti:=h.ti0 n7 cN _ _,same:=⟨n7.tape.trans h.same.tape,h.same.os.eq n7.os,n7.output.trans h.same.out⟩,
      wg:=ee,iT:=(n7.block _ (Ne.symm h.ok.wx)).trans h.iT,cat:=(n7.block _ (Ne.symm h.ok.wn)).trans h.cat,iX:=(n7.block _ (Ne.symm h.ok.wb)).trans h.iX,mv:=.inl nn,sn:=.inl id,sb:=fun e=>(by rw[cx] at e;cases e),rel:=fun k _ e=>by omega,lt:=.inl wL}
  show yb b nt Post W0 Anch mt' (upd G.F 0 T' 0) _ g' (G.Ls 0);rw[upd_same];exact .inl ⟨cA,hd⟩
theorem dH.aal(hA:∀g L,Anch g L→iU b nt (LV b nt Post W0 Anch) g L)(h:dH b nt Post W0 Anch S0 n0 gs w t G){g:Goroutine}(sl:Option (Nat×Nat))(hx:gs[0]?=some g)(cx:g.status=.running)(hF:G.F 0=.leaf)(hd:Deaf t 0=G.mt.deaf)(hs:G.mt.stop b nt Post W0 Anch g (G.Ls 0))
    (h1:∀r,G.mt≠.go r)(h2:G.mt≠.acq):r8 b nt Post W0 Anch S0 n0 gs w t G sl 0:=by
  have hm:=h.gi.mode;have dF:=h.gi.jm;have ee:=h.wg;have hV:=Vc_le G.j (cJ G.st);have BA:=h.gi.jn;have hn6:=h.gi.n6;cases im:G.mt with
  | go r=>exact absurd im (h1 r)
  | acq=>exact absurd im h2
  | kd r=>
    rw[im] at hs hd hm dF;obtain⟨g',hgo,hw⟩:=hs;exact h.kl (mt':=.add r) sl hx (hgo w) (.refl _ w) (rQ _ (by simp) (.inl (by simp))) hw (by rw[hd];simp[cB.deaf,deafBehind,Go.ConcR.mk]) ee dF hm id (by rw[im];simp only[cB.bN];omega)
  | add r=>
    rw[im] at hs hd hm dF;have jW:ConcN.Mode G.j (cJ G.st) (.sp r 5) G.sv G.mv:=hm;generalize wJ:G.sv=sv at jW;generalize nn:G.mv=mv at jW;cases jW with
    | reg h1=>exact h1.elim
    | last L h1=>exact h1.elim
    | fin h1=>exact h1.elim
    | opn h1 h2 h3=>
      rw[wJ,nn] at ee;simp only[pend,Nat.not_succ_le_self,if_false,Nat.add_zero,show¬(5≤3) by omega] at ee;obtain⟨g',hgo,hn⟩:=hs (Vc G.j (cJ G.st)) (by omega);have om:ConcN.Mode G.j (cJ G.st) (.sp r 3) ((((Vc G.j (cJ G.st):Nat):Int)+1) *KK) 0:=by
        have:=ConcN.Mode.opn (tag:=.sp r 3) (j:=G.j) (D:=cJ G.st) trivial h2 (by simp);simp only[pend,Nat.le_refl,if_true] at this;rw[show((Vc G.j (cJ G.st)+1:Nat):Int)=(Vc G.j (cJ G.st):Int)+1 by omega] at this;exact this
      rcases hn with hn | hn
      · exact h.kl (mt':=.said r) sl hx (hgo w ee) (aside_setCell w (stA b.W) _) (D2 _) hn (by rw[hd];simp[cB.deaf,deafBehind,rd,wr]) (ee.setSt _) dF om (fun _=>rfl) (by rw[im];simp only[cB.bN];omega)
      · exact h.kl (mt':=.en r) sl hx (hgo w ee) (aside_setCell w (stA b.W) _) (D2 _) hn (by rw[hd];simp[cB.deaf,deafBehind,rd,wr]) (ee.setSt _) dF om (fun _=>rfl) (by rw[im];simp only[cB.bN];omega)
  | said r=>
    rw[im] at hs hd hm dF;obtain⟨g',hgo,hw⟩:=hs;exact h.kl (mt':=.en r) sl hx (hgo w) (.refl _ w) (rQ _ (by simp) (.inr (.inr rfl))) hw (by rw[hd];simp[cB.deaf,deafBehind,Go.ConcR.mk]) ee dF hm id (by rw[im];simp only[cB.bN];omega)
  | en r=>
    rw[im] at hs hd hm dF;obtain⟨g',hgo,hw⟩:=hs;exact h.kl (mt':=.go r) sl hx (hgo w) (.refl _ w) (rQ _ (by simp) (.inl (by simp))) hw (by rw[hd];simp[cB.deaf,deafBehind,Go.ConcR.mk]) ee dF hm id (by rw[im];simp only[cB.bN];omega)
  | MC=>
    rw[im] at hs hd hm dF;obtain⟨g',hgo,hw⟩:=hs;refine h.kl (mt':=.ld) sl hx (hgo w) (.refl _ w) (rQ _ (by simp) (.inl (by simp))) hw (by rw[hd];simp[cB.deaf,deafBehind,Go.ConcR.mk]) ee dF ?_ id (by rw[im];simp only[cB.bN];omega);have jW:ConcN.Mode G.j (cJ G.st) .kd G.sv G.mv:=hm;generalize G.sv=sv at jW ⊢;generalize G.mv=mv at jW ⊢;cases jW with
    | opn h1 h2 h3=>exact ConcN.Mode.opn (tag:=.w1) trivial h2 (by simp)
    | reg h1=>exact h1.elim
    | last L h1=>exact h1.elim
    | fin h1=>exact h1.elim
  | ld=>
    rw[im] at hs hd hm dF;obtain⟨⟨adD,UK,ZE⟩,hv⟩:=hs;have jW:ConcN.Mode G.j (cJ G.st) .w1 G.sv G.mv:=hm;generalize wJ:G.sv=sv at jW;generalize nn:G.mv=mv at jW;cases jW with
    | reg h1=>exact h1.elim
    | last L h1=>exact h1.elim
    | fin h1=>exact h1.elim
    | opn h1 h2 h3=>
      rw[wJ,nn] at ee;simp only[pend,Nat.add_zero] at ee;rcases Nat.eq_zero_or_pos (Vc G.j (cJ G.st)) with e0 | e0
      · rw[e0] at ee
        have XI:WgAt b.ty b.W w 0 0:=by simpa using ee
        exact h.kl (mt':=.MG) sl hx (UK w XI) (.refl _ w) (yJ _) ZE (by rw[hd];simp[cB.deaf,deafBehind,rd]) XI dF (.fin trivial (allQuit_of h2 e0)) (fun _=>rfl) (by rw[im];simp only[cB.bN];omega)
      · obtain⟨g',hgo,hn⟩:=hv (Vc G.j (cJ G.st)) e0 (by omega)
        refine h.kl (mt':=.O9 (Vc G.j (cJ G.st))) sl hx (hgo w ee) (.refl _ w) (yJ _) hn (by rw[hd];simp[cB.deaf,deafBehind,rd]) ee dF ?_ (fun _=>rfl) (by rw[im];simp only[cB.bN];omega);have:=ConcN.Mode.opn (tag:=.w2 (Vc G.j (cJ G.st))) (j:=G.j) (D:=cJ G.st) trivial h2 (fun vs e=>by cases e;exact⟨Nat.le_refl _,e0⟩)
        simpa [pend,cB.oG] using this
  | O9 vs=>
    rw[im] at hs hd hm dF;obtain⟨⟨lG,UL,ZF⟩,⟨adE,UM,ZG⟩⟩:=hs;have jW:ConcN.Mode G.j (cJ G.st) (.w2 vs) G.sv G.mv:=hm;generalize wJ:G.sv=sv at jW;generalize nn:G.mv=mv at jW;cases jW with
    | reg h1=>exact h1.elim
    | last L h1=>exact h1.elim
    | fin h1=>exact h1.elim
    | opn h1 h2 h3=>
      rw[wJ,nn] at ee;simp only[pend,Nat.add_zero] at ee;obtain⟨v1,v2⟩:=h3 vs rfl
      by_cases e:Vc G.j (cJ G.st)=vs
      · rw[e] at ee
        refine h.kl (mt':=.Sx) sl hx (UL w ee) (aside_setCell w (stA b.W) _) (D2 _) ZF (by rw[hd];simp[cB.deaf,deafBehind,rd,wr]) (ee.setSt _) dF ?_ (fun _=>rfl) (by rw[im];simp only[cB.bN];omega);have:=ConcN.Mode.reg (tag:=.w3) (j:=G.j) (D:=cJ G.st) trivial h2 (by omega);rw[e] at this;exact this
      · refine h.kl (mt':=.ld) sl hx (UM w _ e (by omega) ee) (.refl _ w) (yJ _) (Way.bind ZG fun g L x=>hA g L x.2) (by rw[hd];simp[cB.deaf,deafBehind,rd]) ee dF ?_ (fun _=>rfl) (by rw[im];simp only[cB.bN];omega)
        have:=ConcN.Mode.opn (tag:=.w1) (j:=G.j) (D:=cJ G.st) trivial h2 (by simp)
        simpa [pend,cB.oG] using this
  | Sx=>
    rw[im] at hs hd hm dF;obtain⟨g',hgo,hw⟩:=hs;exact h.kl (mt':=.NR) sl hx (hgo w) (.refl _ w) (rQ _ (by simp) (.inr (.inl rfl))) hw (by rw[hd];simp[cB.deaf,deafBehind,Go.ConcR.mk]) ee dF hm id (by rw[im];simp only[cB.bN];omega)
  | NR=>
    rw[im] at hs hd hm dF;obtain⟨_,_,Ql,g',hgo,hn⟩:=id hs;have jW:ConcN.Mode G.j (cJ G.st) .w3 G.sv G.mv:=hm;have block:G.mv=0→r8 b nt Post W0 Anch S0 n0 gs w t G sl 0:=by
      intro e;rw[e] at ee;refine h.qk sl hx (Ql w _ ee) {G with F:=G.F,Ls:=G.Ls,Sh:=G.Sh,q:=G.q}
        {j:=rfl,gi:=h.gi.GO _ _ _ _,wW:=fun i hi=>⟨rfl,rfl,rfl⟩,sO:=fun _ _ _=>⟨rfl,rfl,rfl⟩,vx:=fun e=>absurd rfl e,
          so:=fun h1 _=>absurd h1 (by omega),sw:=fun k _ e=>(by have:=h.iW;omega),sm:=fun _=>?_,ti:=h.ti0 (.refl _ w) (PL _) _ _,same:=h.same,wg:=h.wg,iT:=h.iT,cat:=h.cat,iX:=h.iX,
          mv:=.inl id,sn:=.inl id,sb:=fun _=>⟨fun _=>e,fun h=>absurd rfl h⟩,rel:=fun k _ e=>(by have:=h.iW;omega),lt:=.inr ⟨rfl,.inr ⟨rfl,cx,rfl⟩⟩}
      show yb b nt Post W0 Anch G.mt (G.F 0) (deafBehind (Deaf t 0) #[]) _ (G.Ls 0);rw[im,hF,show deafBehind (Deaf t 0) #[]=Deaf t 0 from rfl,hd];exact .inr ⟨rfl,rfl,rfl,g,rfl,hs⟩
    generalize wJ:G.sv=sv at jW;generalize nn:G.mv=mv at jW block;cases jW with
    | opn h1=>exact h1.elim
    | reg h1 h2 h3=>exact block rfl
    | last L h1 h2 h3 h4=>exact block rfl
    | sema h2=>
      rw[wJ,nn] at ee;exact h.kl (mt':=.l4) sl hx (hgo w ee) (aside_setCell w (smA b.W) _) (PM _) hn (by rw[hd];simp[cB.deaf,deafBehind,semEvents]) (ee.setSm 0) dF (.fin trivial h2) (fun _=>rfl) (by rw[im];simp only[cB.bN];omega)
    | fin h1=>exact h1.elim
  | l4=>
    rw[im] at hs hd hm dF;obtain⟨g',hgo,hw⟩:=hs;have jW:ConcN.Mode G.j (cJ G.st) .w4 G.sv G.mv:=hm;generalize wJ:G.sv=sv at jW;generalize nn:G.mv=mv at jW;cases jW with
    | opn h1=>exact h1.elim
    | reg h1=>exact h1.elim
    | last L h1=>exact h1.elim
    | fin h1 h2=>
      rw[wJ,nn] at ee;exact h.kl (mt':=.MG) sl hx (hgo w ee) (.refl _ w) (yJ _) hw (by rw[hd];simp[cB.deaf,deafBehind,rd]) ee dF (.fin trivial h2) (fun _=>rfl) (by rw[im];simp only[cB.bN];omega)
  | MG=>
    rw[im] at hs hd hm dF;obtain⟨g',hgo,hw⟩:=hs;have jW:ConcN.Mode G.j (cJ G.st) .ke G.sv G.mv:=hm;generalize wJ:G.sv=sv at jW;generalize nn:G.mv=mv at jW;cases jW with
    | opn h1=>exact h1.elim
    | reg h1=>exact h1.elim
    | last L h1=>exact h1.elim
    | fin h1 h2=>
      rw[wJ,nn] at ee;exact h.kl (mt':=.acq) sl hx (hgo w) (.refl _ w) (rQ _ (by simp) (.inl (by simp))) hw (by rw[hd];simp[cB.deaf,deafBehind,Go.ConcR.mk]) ee dF (.fin trivial h2) (fun _=>rfl) (by rw[im];simp only[cB.bN];omega)
theorem dH.Uw(h:dH b nt Post W0 Anch S0 n0 gs w t G){r:Nat}(im:G.mt=.go r){g:Goroutine}(sl:Option (Nat×Nat))(hx:gs[0]?=some g)(ym:Deaf t 0=0)(hs:Ow b nt (sT b nt Post W0 Anch r) g (G.Ls 0)):r8 b nt Post W0 Anch S0 n0 gs w t G sl 0:=by
 have hb:=h.iW;have dF:=h.gi.jm;rw[im] at dF;have hj:G.j+(r+1)=b.n:=dF;have ed:=h.size;have hm:ConcN.Mode G.j (cJ G.st) (.sp r 3) G.sv G.mv:=by have:=h.gi.mode;rw[im] at this;exact this
 obtain⟨g',child,Lm,Lc,hgo,vj,iL,ZA,Y8,hcw,hn⟩:=hs;have hgo:stepG b.P (0==0) g w=.spawn g' child w #[]:=hgo w (h.ti.res.sub 0);have Cp:0<gs.size:=(Array.getElem?_eq_some_iff.1 hx).1
 -- where N6 first goes on
 obtain⟨mt',cu,Ed,hrk,Q2,om⟩:∃mt':cB,iU b nt (mt'.stop b nt Post W0 Anch) g' Lm∧mt'.deaf=0∧(∀v v',mt'.bN b.n v<(cB.go r).bN b.n v')∧mt'.ok b.n (G.j+1)∧ConcN.Mode (G.j+1) (cJ (upd G.st G.j 8)) mt'.oG G.sv G.mv:=by
  have om:∀tg,isOpen tg→pend tg=0→(∀vs,tg≠.w2 vs)→ConcN.Mode (G.j+1) (cJ (upd G.st G.j 8)) tg G.sv G.mv:=by
   intro tg ho hp aY;generalize G.sv=sv at hm ⊢;generalize G.mv=mv at hm ⊢;cases hm with
   | reg h1=>exact h1.elim
   | last L h1=>exact h1.elim
   | fin h1=>exact h1.elim
   | opn h1 h2 h3=>
    have:=ConcN.Mode.opn (tag:=tg) (j:=G.j+1) (D:=cJ (upd G.st G.j 8)) ho (fun a ha=>by
     by_cases e:a=G.j
     ·subst e;simp[cJ,upd_same]
     ·simp only[cJ,upd_ne _ _ e];exact h2 a (by omega)) (fun vs e=>absurd e (aY vs))
    have hv:Vc (G.j+1) (cJ (upd G.st G.j 8))=Vc G.j (cJ G.st)+1:=by
     simp only[Vc,sumTo];have e1:(sumTo G.j fun i=>cnt (cJ (upd G.st G.j 8) i))=sumTo G.j fun i=>cnt (cJ G.st i):=sumTo_congr fun a ha=>by simp only[cJ,upd_ne _ _ (show a≠G.j by omega)]
     rw[e1];simp[cJ,upd_same,cnt]
    rw[hv,hp] at this
    simpa [pend] using this
  cases r with
  | zero=>exact⟨.MC,hn,rfl,fun v v'=>by simp only[cB.bN];omega,(show G.j+1=b.n by omega),om _ trivial rfl (by simp[cB.oG])⟩
  | succ r=>exact⟨.kd r,hn,rfl,fun v v'=>by simp only[cB.bN];omega,(show G.j+1+(r+1)=b.n by omega),om _ trivial rfl (by simp[cB.oG])⟩
 obtain⟨Tm,hTm⟩:=Way.at cu;have cx:=runT_crowd_spawn (P:=b.P) (sl:=sl) (i:=0) hx hgo;have acm:((MemOp.ofEvents 0 g.frame.fn g.frame.place #[]).push {g:=0,fn:=g.frame.fn,pos:=g.frame.place,act:=.go gs.size} |>.push {g:=gs.size,fn:=child.frame.fn,pos:=g.frame.place,act:=.start})=
   #[{g:=0,fn:=g.frame.fn,pos:=g.frame.place,act:=.go gs.size},{g:=gs.size,fn:=child.frame.fn,pos:=g.frame.place,act:=.start}]:=rfl
 rw[acm] at cx;generalize hX:({g:=0,fn:=g.frame.fn,pos:=g.frame.place,act:=.go gs.size}:MemOp)=X at cx;generalize hY:({g:=gs.size,fn:=child.frame.fn,pos:=g.frame.place,act:=.start}:MemOp)=Y at cx;have hXa:X.g=0∧X.act=.go gs.size:=by rw[←hX];exact⟨rfl,rfl⟩
 have D8:Y.g=gs.size∧Y.act=.start:=by rw[←hY];exact⟨rfl,rfl⟩
 have Gp:∀op∈(#[X,Y]:Array MemOp),op.act.touch?=none∧∀m,op.act≠.mark m:=by
  intro op ho;simp only[List.mem_toArray,List.mem_cons,List.not_mem_nil,or_false] at ho;rcases ho with rfl | rfl
  ·rw[hXa.2];exact⟨rfl,by simp⟩
  ·rw[D8.2];exact⟨rfl,by simp⟩
 have fF:∀i,Deaf (t++#[X,Y]) i=Deaf t i:=Fg fun op ho=>(Gp op ho).2;have get:∀i,i≠0→i<gs.size→((gs.setIfInBounds 0 g').push child)[i]?=gs[i]?:=fun i hi hl=>by
  rw[Array.getElem?_push,if_neg (by simp;omega),Array.getElem?_setIfInBounds_ne (Ne.symm hi)]
 have WN:((gs.setIfInBounds 0 g').push child)[0]?=some g':=by
  rw[Array.getElem?_push,if_neg (by simp;omega),Array.getElem?_setIfInBounds_self_of_lt Cp]
 have WQ:((gs.setIfInBounds 0 g').push child)[gs.size]?=some child:=by
  rw[Array.getElem?_push,if_pos (by simp)]
 have xG:((gs.setIfInBounds 0 g').push child).size=gs.size+1:=by simp
 have ns:=h.ti.spawn h.ok (by omega) Cp hXa D8 ym (h.above _ (Nat.le_refl _)) vj iL ZA Y8;have BA:G.j<b.n:=by omega
 -- N6 measure
 obtain⟨f,hf⟩:∃f,f=b.μ G:=⟨_,rfl⟩;obtain⟨Tc,hTc⟩:=Way.at (hcw (f+1));obtain⟨G',IC⟩:∃G':Gh,G'={G with j:=G.j+1,st:=upd G.st G.j 8,fu:=upd G.fu G.j (f+1),F:=upd (upd G.F 0 Tm) gs.size Tc,Ls:=upd (upd G.Ls 0 Lm) gs.size Lc,mt:=mt'}:=⟨_,rfl⟩;have gU:G.ws G.j=Ke:=h.gi.fresh _ (Nat.le_refl _) BA;have hwv:sumTo b.n (wv G')<sumTo b.n (wv G):=by
  have e:wv G'=upd (wv G) G.j 23:=by
   funext i
   rw[IC]
   by_cases e:i=G.j
   ·subst e;simp only[wv,upd_same];rw[if_pos (by omega),if_pos trivial,gU]
    rfl
   ·simp only[wv,upd_ne _ _ e]
    by_cases e2:i<G.j
    ·rw[if_pos (by omega),if_pos e2]
    ·rw[if_neg (by omega),if_neg e2]
  have h1:sumTo b.n (upd (wv G) G.j 23)+wv G G.j=sumTo b.n (wv G)+23:=sumTo_upd (wv G) 23 id BA;have h2:wv G G.j=40:=by simp[wv]
  rw[e];omega
 have wL:b.μ G'<b.μ G:=by
  have h1:b.μ G'=b.ox G.ts G.S G.c+(sumTo b.n (wv G')+mt'.bN b.n (Vc (G.j+1) (cJ (upd G.st G.j 8)))):=by
   unfold aQ.μ;rw[IC]
  have h2:b.μ G=b.ox G.ts G.S G.c+(sumTo b.n (wv G)+(cB.go r).bN b.n (Vc G.j (cJ G.st))):=by unfold aQ.μ;rw[im]
  have:=hrk (Vc (G.j+1) (cJ (upd G.st G.j 8))) (Vc G.j (cJ G.st));omega
 have lI:GI b G':=by
  have adO:∀k,k<G.j→upd G.st G.j 8 k=G.st k:=fun k hk=>upd_ne _ _ (by omega);have hfu:∀k,k<G.j+1→G'.st k=8→b.μ G'≤G'.fu k:=by
   intro k hk h8
   by_cases e:k=G.j
   ·subst e;have:G'.fu G.j=f+1:=by rw[IC];show upd G.fu G.j (f+1) G.j=_;rw[upd_same]
    rw[this];omega
   ·have e1:G'.fu k=G.fu k:=by rw[IC];exact upd_ne _ _ e
    have e2:G'.st k=G.st k:=by rw[IC];exact upd_ne _ _ e
    rw[e2] at h8;rw[e1];have:=h.gi.fuel k (by omega) h8;omega
  rw[IC] at hfu ⊢;refine⟨BA,h.gi.n1,h.gi.n6,Q2,h.gi.inv,h.gi.A3,h.gi.vQ,h.gi.pc,fun k hk=>h.gi.fresh k (by simp only at hk;omega),fun k hk=>?_,fun k hk h7=>?_,h.gi.ji,h.gi.tk,hfu,om⟩
  ·by_cases e:k=G.j
   ·subst e;simp only[upd_same];exact .inr trivial
   ·simp only at hk;simp only[upd_ne _ _ e];exact h.gi.EZ k (by omega)
  ·by_cases e:k=G.j
   ·subst e;simp only[upd_same] at h7;omega
   ·simp only at hk;simp only[upd_ne _ _ e] at h7;exact h.gi.dn k (by omega) h7
 have YQ:∀i,i≠0→i≠gs.size→upd (upd G.Ls 0 Lm) gs.size Lc i=G.Ls i:=fun i h1 h2=>by rw[upd_ne _ _ h2,upd_ne _ _ h1]
 have hFs:∀i,i≠0→i≠gs.size→upd (upd G.F 0 Tm) gs.size Tc i=G.F i:=fun i h1 h2=>by rw[upd_ne _ _ h2,upd_ne _ _ h1]
 refine⟨_,_,_,cx,?_,_,w,sl,G',rfl,?_,rfl⟩
 ·unfold DJ Mh;exact Prod.Lex.left _ _ (Prod.Lex.left _ _ wL)
 ·rw[IC] at lI ⊢;refine{ok:=h.ok,gi:=lI,size:=by rw[xG,ed];rfl,iW:=hb,old:=fun i y h1 h2 hy=>?_,wk:=fun k hk=>?_,mn:=⟨g',WN,?_⟩,above:=fun i hi=>?_,ti:=by rw[xG];exact ns,same:=h.same,wg:=h.wg,iT:=h.iT,cat:=h.cat,iX:=h.iX,bm:=fun y hy hb=>?_,bw:=fun k y hk hy hb=>?_,rel:=fun k hk hs=>?_}
  ·rw[get i (by omega) (by omega)] at hy;show QuitsD b.P (G.q i) _ y∧upd (upd G.F 0 Tm) gs.size Tc i=_;rw[fF,hFs i (by omega) (by omega)];exact h.old i y h1 h2 hy
  ·show ∃y,_∧BW b nt (upd G.st G.j 8 k) (G.ws k) (upd G.fu G.j (f+1) k) (upd (upd G.F 0 Tm) gs.size Tc (b.base+k)) _ y (upd (upd G.Ls 0 Lm) gs.size Lc (b.base+k)) w
   by_cases e:k=G.j
   ·subst e;refine⟨child,by rw[←ed];exact WQ,?_⟩;rw[fF,←ed,upd_same,upd_same,upd_same,upd_same,h.above _ (Nat.le_refl _),gU];exact .own hTc
   ·have QL:k<G.j:=by simp only at hk;omega
    rw[upd_ne _ _ e,upd_ne _ _ e,fF,YQ _ (by omega) (by omega),hFs _ (by omega) (by omega),get _ (by omega) (by omega)];exact h.wk k QL
  ·show yb b nt Post W0 Anch mt' (upd (upd G.F 0 Tm) gs.size Tc 0) _ g' (upd (upd G.Ls 0 Lm) gs.size Lc 0);rw[fF,ym,upd_ne _ _ (by omega),upd_same,upd_ne _ _ (by omega),upd_same];exact .inl ⟨hTm,Ed.symm⟩
  ·rw[fF];rw[xG] at hi;exact h.above i (by omega)
  ·rw[WN] at hy;cases hy;have:=hTm.running fun _ _ x=>x.1;rw[hb] at this;cases this
  ·by_cases e:k=G.j
   ·subst e;rw[←ed,WQ] at hy;cases hy;have:=hTc.running fun _ _ x=>x.run;rw[hb] at this;cases this
   ·have QL:k<G.j:=by simp only at hk;omega
    rw[get _ (by omega) (by omega)] at hy;exact h.bw k y QL hy hb
  ·have hs:upd G.st G.j 8 k≤6:=hs
   by_cases e:k=G.j
   ·subst e;rw[upd_same] at hs;omega
   ·have QL:k<G.j:=by simp only at hk;omega
    rw[upd_ne _ _ e] at hs;obtain⟨r',h1,h2⟩:=h.rel k QL hs;refine⟨r',h1,h2.app (G8 h2.1 fun op ho=>(Gp op ho).1) fun op ho _ y hy=>?_⟩;rw[(Gp op ho).1] at hy;cases hy
end Go.Mz
