/- Lemmas for the claim. -/
import Derived.Test.YtjhpkghkgaekcaaGreatDoorMzAn
import Derived.Conc.Token
set_option linter.defProp false
set_option maxRecDepth 100000
namespace Go.Mz
open Go.Conc
variable {P:aV}{α:Type}{X:aM P}{n k m:Nat}{L R J:LH}{t e:bh}{w u:World}{h:α->List Value}{c:Int}{B:aX}{x:aW}{Y:Trace}{l:aH}{r:List α}{q:aU}{Q:bC}{E:cK}{j:aR}{D:bt}{d:bA}{F:Env}{g:aT}{o:bD}{N:Nm}{K:bI}{z:SV}{I:cj}{H:ck}
section
open Go.ConcN
open Go.ConcR (KK wgBlock WgAt stA smA rd wr mk Payload Aside2 DC0 Bk bk_of_mute)
section
structure eh where
 P:Program
 ty:Nat
 W:Nat
 C:Nat
 D:Nat
 n:Nat
 base:Nat
 out:Nat->Value->LH->Prop
 mute:Nat->Prop
 ML:(Nat->Prop)->Goroutine->LH->Prop
 Anch:Goroutine->LH->Prop
 Fin:Goroutine->LH->Prop
abbrev eh.Φ(p:eh):World->Prop:=WgLive p.ty p.W
variable (p:eh)
def vg(g:aT)(L:LH):Prop:=
 g.status=.running/\∃m cc v c e fz,L cc=some (.cells c e fz,true)/\c[0]?=some v/\
  ∀w,WgLive p.ty p.W w->Has cc 0 v w->Goes p.P false (RW p.ty p.W cc 1 0 0) (DWs p.W Bt Bt cc 1 1) (AtR0 p.P p.ty p.W cc 1 0 1 v) m g w
def AtSend(k:Nat)(g:aT)(L:LH):Prop:=
 g.status=.running/\∃v z kF Lk Gv,(∀w,Sub L w->stepG p.P false g w=.comm kF #[scase p.C v z] true .send w #[])/\
  (∀b x,Lk b=some x->L b=some x)/\(∀b x,Gv b=some x->L b=some x)/\(∀b,Lk b=none\/Gv b=none)/\p.out k v Gv/\Way p.P false p.Φ (vg p) (Go.Conc.served kF undef) Lk
def yK(k:Nat)(g:aT)(L:LH):Prop:=AtSend p k g L\/(p.mute k/\vg p g L)
inductive vR(k:Nat):Nat->Tree->Nat->Value->Nat->Goroutine->LH->World->Prop
 | own {T:Tree} {cc:Nat} {v:Value} {g:Goroutine} {L:LH} {w:World}:At p.P false p.Φ (yK p k) T g L->vR k 12 T cc v 0 g L w
 | gP {cc:Nat} {v v' z:Value} {g:Goroutine} {L Lk Gv:LH} {w:World}:(∀b x,Lk b=some x->L b=some x)->(∀b x,Gv b=some x->L b=some x)->(∀b,Lk b=none\/Gv b=none)->p.out k v' Gv->
   Way p.P false p.Φ (vg p) (Go.Conc.served g undef) Lk->vR k 11 .leaf cc v 0 (parked g #[scase p.C v' z] .send) L w
 | post {T:Tree} {cc:Nat} {v:Value} {g:Goroutine} {L:LH} {w:World}:At p.P false p.Φ (vg p) T g L->vR k 10 T cc v 0 g L w
 | iC {s m d:Nat} {cc:Nat} {v:Value} {g:Goroutine} {w:World}:qC p.P p.ty p.W cc v s m d g w->vR k s (Tree.num m) cc v d g LH.nil w
def vn(g:aT)(_:LH):Prop:=
 g.status=.running/\∃g' q,mayWake p.P g=true/\g'.status=.running/\(∀w s r,w.heap[p.D]?=some (.chan 0 #[] false s r false)->stepG p.P false g w=.go g' (w.setChan p.D 0 #[] true s r false) (closeEvents p.D))/\QuitsD p.P q 0 g'
def abk(g:aT)(L:LH):Prop:=g.status=.running/\∃g',(∀w,stepG p.P false g w=.go g' w #[mk (.acquire (stA p.W))])/\Way p.P false p.Φ (vn p) g' L
def Xy(g:aT)(L:LH):Prop:=g.status=.running/\∃g',(∀w,stepG p.P false g w=.go g' w #[mk .enable])/\Way p.P false p.Φ (abk p) g' L
def KL4(g:aT)(L:LH):Prop:=g.status=.running/\∃g',(∀w,WgAt p.ty p.W w 0 0->stepG p.P false g w=.go g' w #[rd (stA p.W)])/\Way p.P false p.Φ (Xy p) g' L
def Ry(g:aT)(L:LH):Prop:=
 g.status=.running/\g.offers=none/\(∀w st,WgAt p.ty p.W w st 0->stepG p.P false g w=.go {g with status:=.blocked} w #[])/\
  ∃g',(∀w,WgAt p.ty p.W w 0 1->stepG p.P false g w=.go g' (w.setCell (smA p.W) (.int .u32 0)) (semEvents (smA p.W)))/\Way p.P false p.Φ (KL4 p) g' L
def U6(g:aT)(L:LH):Prop:=g.status=.running/\∃g',(∀w,stepG p.P false g w=.go g' w #[mk (.write (smA p.W))])/\Way p.P false p.Φ (Ry p) g' L
def abl(vs:Nat)(g:aT)(L:LH):Prop:=
 g.status=.running/\(∃g',(∀w,WgAt p.ty p.W w ((vs:Int) *KK) 0->stepG p.P false g w=.go g' (w.setCell (stA p.W) (.int .u64 ((vs:Int) *KK+1))) #[rd (stA p.W),wr (stA p.W)])/\Way p.P false p.Φ (U6 p) g' L)/\
  ∃g',(∀w (v:Nat),v≠vs->v<2147483648->WgAt p.ty p.W w ((v:Int) *KK) 0->stepG p.P false g w=.go g' w #[rd (stA p.W)])/\Way p.P false p.Φ p.Anch g' L
def U5(g:aT)(L:LH):Prop:=
 g.status=.running/\(∃g',(∀w,WgAt p.ty p.W w 0 0->stepG p.P false g w=.go g' w #[rd (stA p.W)])/\Way p.P false p.Φ (Xy p) g' L)/\
  ∀v:Nat,0<v->v<2147483648->∃g',(∀w,WgAt p.ty p.W w ((v:Int) *KK) 0->stepG p.P false g w=.go g' w #[rd (stA p.W)])/\Way p.P false p.Φ (abl p v) g' L
def MJ(g:aT)(L:LH):Prop:=g.status=.running/\∃g',(∀w,stepG p.P false g w=.go g' w #[mk .disable])/\Way p.P false p.Φ (U5 p) g' L
inductive tu:CTag->Nat->Tree->Nat->Goroutine->LH->Prop
 | Ms {T:Tree} {g:Goroutine} {L:LH}:At p.P false p.Φ (MJ p) T g L->tu .kd 0 T 0 g L
 | ld {T:Tree} {g:Goroutine} {L:LH}:At p.P false p.Φ (U5 p) T g L->tu .w1 0 T 1 g L
 | O8 {vs:Nat} {T:Tree} {g:Goroutine} {L:LH}:At p.P false p.Φ (abl p vs) T g L->tu (.w2 vs) 0 T 1 g L
 | said {T:Tree} {g:Goroutine} {L:LH}:At p.P false p.Φ (U6 p) T g L->tu .w3 1 T 1 g L
 | KD {T:Tree} {g:Goroutine} {L:LH}:At p.P false p.Φ (Ry p) T g L->tu .w3 0 T 1 g L
 | blk {g:Goroutine} {L:LH}:Ry p g L->tu .blk 0 .leaf 1 {g with status:=.blocked} L
 | l4 {T:Tree} {g:Goroutine} {L:LH}:At p.P false p.Φ (KL4 p) T g L->tu .w4 0 T 1 g L
 | Jd {T:Tree} {g:Goroutine} {L:LH}:At p.P false p.Φ (Xy p) T g L->tu .ke 0 T 1 g L
 | acq {T:Tree} {g:Goroutine} {L:LH}:At p.P false p.Φ (abk p) T g L->tu .acq 0 T 0 g L
 | cls {T:Tree} {g:Goroutine} {L:LH}:At p.P false p.Φ (vn p) T g L->tu .ret 1 T 0 g L
 | quit {q d:Nat} {g:Goroutine} {L:LH}:QuitsD p.P q d g->tu .ret 0 (Tree.num q) d g L
def Zg(k:Nat)(Nx:cg)(g:aT)(L:LH):Prop:=
 g.status=.running/\∃g' child Lm Lc,(∀w,Sub L w->stepG p.P true g w=.spawn g' child w #[])/\
  (∀b o wr,Lm b=some (o,wr)->∃tj,L b=some (o,tj)/\(wr=true->tj=true))/\(∀b o wr,Lc b=some (o,wr)->∃tj,L b=some (o,tj)/\(wr=true->tj=true))/\
  (∀b o,Lm b=some (o,true)->Lc b=none)/\(∀b o,Lc b=some (o,true)->Lm b=none)/\Way p.P false p.Φ (yK p k) child Lc/\Nx g' Lm
def MEn(k:Nat)(Nx:cg)(g:aT)(L:LH):Prop:=g.status=.running/\∃g',(∀w,stepG p.P true g w=.go g' w #[mk .enable])/\Way p.P true p.Φ (Zg p k Nx) g' L
def Va(k:Nat)(Nx:cg)(g:aT)(L:LH):Prop:=g.status=.running/\∃g',(∀w,stepG p.P true g w=.go g' w #[mk (.read (smA p.W))])/\Way p.P true p.Φ (MEn p k Nx) g' L
def abq(k:Nat)(Nx:cg)(g:aT)(L:LH):Prop:=
 g.status=.running/\∀v:Nat,v<2147483647->∃g',(∀w,WgAt p.ty p.W w ((v:Int) *KK) 0->stepG p.P true g w=.go g' (w.setCell (stA p.W) (.int .u64 (((v:Int)+1) *KK))) #[rd (stA p.W),wr (stA p.W)])/\
  (Way p.P true p.Φ (Va p k Nx) g' L\/Way p.P true p.Φ (MEn p k Nx) g' L)
def RH(k:Nat)(Nx:cg)(g:aT)(L:LH):Prop:=g.status=.running/\∃g',(∀w,stepG p.P true g w=.go g' w #[mk .disable])/\Way p.P true p.Φ (abq p k Nx) g' L
def GA(g:aT)(L:LH):Prop:=
 g.status=.running/\∃g' child Lm Lc,(∀w,Sub L w->stepG p.P true g w=.spawn g' child w #[])/\
  (∀b o wr,Lm b=some (o,wr)->∃tj,L b=some (o,tj)/\(wr=true->tj=true))/\(∀b o wr,Lc b=some (o,wr)->∃tj,L b=some (o,tj)/\(wr=true->tj=true))/\
  (∀b o,Lm b=some (o,true)->Lc b=none)/\(∀b o,Lc b=some (o,true)->Lm b=none)/\Way p.P false p.Φ (MJ p) child Lc/\Way p.P true p.Φ (p.ML λ_=>False) g' Lm
def vP:Nat->Goroutine->LH->Prop
 | 0=>Way p.P true p.Φ (GA p)
 | r+1=>Way p.P true p.Φ (RH p (p.n - (r+1)) (vP r))
structure pP(R:Nat->Prop)(g:Goroutine)(L:LH)(kF:Goroutine)(cs:Array CommCase)(shape:CommShape)(kf kd:Nat)(zf zd:Value):Prop where
 run:g.status=.running
 comm:∀w,Sub L w->stepG p.P true g w=.comm kF cs true shape w #[]
 again:∀w,Sub L w->stepG p.P true {kF with status:=.running} w=.comm kF cs true shape w #[]
 f:cs[kf]?=some (rcase p.C zf)
 d:cs[kd]?=some (rcase p.D zd)
 no:∀m c,cs[m]?=some c->m=kf\/m=kd
 one:p.C=p.D↔kf=kd
 take:∀k v Gv,k<p.n->¬R k->p.out k v Gv->(∀b o,Gv b=some (o,true)->L b=none)->Way p.P true p.Φ (p.ML λi=>R i\/i=k) (kF.finishComm p.P cs shape kf v true) (L.join Gv)
 fin:(∀k,k<p.n->R k\/p.mute k)->p.Fin (kF.finishComm p.P cs shape kd zd false) L
inductive gp where
 | kd (r:Nat) | add (r:Nat) | said (r:Nat) | en (r:Nat) | go (r:Nat) | D8 | sN | gP
inductive uZ:gp->(Nat->Prop)->Tree->Nat->Goroutine->LH->Prop
 | kd {r:Nat} {R:Nat->Prop} {T:Tree} {g:Goroutine} {L:LH}:At p.P true p.Φ (RH p (p.n - (r+1)) (vP p r)) T g L->uZ (.kd r) R T 0 g L
 | add {r:Nat} {R:Nat->Prop} {T:Tree} {g:Goroutine} {L:LH}:At p.P true p.Φ (abq p (p.n - (r+1)) (vP p r)) T g L->uZ (.add r) R T 1 g L
 | said {r:Nat} {R:Nat->Prop} {T:Tree} {g:Goroutine} {L:LH}:At p.P true p.Φ (Va p (p.n - (r+1)) (vP p r)) T g L->uZ (.said r) R T 1 g L
 | en {r:Nat} {R:Nat->Prop} {T:Tree} {g:Goroutine} {L:LH}:At p.P true p.Φ (MEn p (p.n - (r+1)) (vP p r)) T g L->uZ (.en r) R T 1 g L
 | go {r:Nat} {R:Nat->Prop} {T:Tree} {g:Goroutine} {L:LH}:At p.P true p.Φ (Zg p (p.n - (r+1)) (vP p r)) T g L->uZ (.go r) R T 0 g L
 | D8 {R:Nat->Prop} {T:Tree} {g:Goroutine} {L:LH}:At p.P true p.Φ (GA p) T g L->uZ .D8 R T 0 g L
 | sN {R:Nat->Prop} {T:Tree} {g:Goroutine} {L:LH}:At p.P true p.Φ (p.ML R) T g L->uZ .sN R T 0 g L
 | again {R:Nat->Prop} {g kF:Goroutine} {L:LH} {cs:Array CommCase} {shape:CommShape} {kf kd:Nat} {zf zd:Value}:pP p R g L kF cs shape kf kd zf zd->uZ .sN R .leaf 0 {parked kF cs shape with status:=.running} L
 | gP {R:Nat->Prop} {g kF:Goroutine} {L:LH} {cs:Array CommCase} {shape:CommShape} {kf kd:Nat} {zf zd:Value}:pP p R g L kF cs shape kf kd zf zd->uZ .gP R .leaf 0 (parked kF cs shape) L
variable {p}
def yK.run(h:yK p k g L):g.status=.running:=h.elim (·.1) (·.2.1)
def vR.status{T:Tree}{v:Value}{d:Nat}(h:vR p k n T m v d g L w):g.status=.running\/g.status=.finished\/(n=11/\∃u b z,g=parked u #[scase p.C b z] .send):=by
 cases h with
 | own h=>exact .inl (h.running λ_ _ x=>x.run)
 | gP=>exact .inr (.inr ⟨rfl,_,_,_,rfl⟩)
 | post h=>exact .inl (h.running λ_ _ x=>x.1)
 | iC h=>exact(WSit.status h).imp id .inl
def vR.woken{T:Tree}{v:Value}{d:Nat}(h:vR p k n T m v d g L w){a f:aT}{s₁ r₁:Nat}(b:n=11->u.heap[p.C]?=some (.chan 0 #[] false s₁ r₁ false)):woken p.P a f u g=g:=by
 rcases h.status with e | e | ⟨e,q,i,z,rfl⟩
 .unfold Go.Conc.woken;split
  .exact again_running _ (.inl e)
  .rfl
 .unfold Go.Conc.woken;split
  .exact again_running _ (.inr e)
  .rfl
 .exact woken_send_open a f (b e)
def vR.rely{T:Tree}{v:Value}{d:Nat}(h:vR p k n T m v d g L w)(q:n<=7->u.heap[m]?=w.heap[m]?)(z:WgLive p.ty p.W w->WgLive p.ty p.W u)(a:n<=7\/10<=n):vR p k n T m v d g L u:=by
 cases h with
 | own h=>exact .own h
 | gP h1 h2 h3 h4 h5=>exact .gP h1 h2 h3 h4 h5
 | post h=>exact .post h
 | iC h=>
  rcases a with a | a
  .exact .iC (Z5 h (q a) z)
  .cases h <;> omega
end
def qA{a f:aT}(h:g.status=.running\/g.status=.finished):woken P a f w g=g:=by
 unfold Go.Conc.woken;split
 .exact again_running _ h
 .rfl
def tu.status{p:eh}{q:CTag}{T:Tree}(h:tu p q n T k g L):(q≠.blk/\(g.status=.running\/g.status=.finished))\/(q=.blk/\n=0/\T=.leaf/\k=1/\∃u,g={u with status:=.blocked}/\Ry p u L):=by
 cases h with
 | blk h=>exact .inr ⟨rfl,rfl,rfl,rfl,_,rfl,h⟩
 | quit h=>exact .inl ⟨U,h.status⟩
 | _ h=>exact .inl ⟨U,.inl (h.running λ_ _ x=>x.1)⟩
def tu.woken{p:eh}{x:CTag}{T:Tree}(h:tu p x n T k g L)(P:aV)(a f:aT)(c:World):
  ∃v,tu p v n T k (woken P a f c g) L/\(v=x\/(x=.blk/\v=.w3))/\(mayWake P a=true->f.status=.running->v≠.blk):=by
 rcases h.status with⟨q,z⟩ | ⟨rfl,rfl,rfl,rfl,qJ,rfl,hs⟩
 .rw[qA z];exact⟨x,h,.inl rfl,λ_ _=>q⟩
 .by_cases u:(mayWake P a&&f.status !=.blocked&&f.status !=.waiting)=true
  .refine⟨.w3,?_,.inr ⟨rfl,rfl⟩,λ_ _=>by simp⟩;have:Go.Conc.woken P a f c {qJ with status:=.blocked}=qJ:=by
    unfold Go.Conc.woken;rw[ax u];let⟨q,z,_⟩:=hs;cases qJ
    simp_all [Goroutine.again]
   rw[this];exact .KD (.J4 hs)
  .refine⟨.blk,?_,.inl rfl,λq z=>?_⟩
   .have:Go.Conc.woken P a f c {qJ with status:=.blocked}={qJ with status:=.blocked}:=by
     unfold Go.Conc.woken;rw[A u]
    rw[this];exact .blk hs
   .exact ar (by simp[q,z]) u
def pP.open{p:eh}{R:bt}{q:aT}{i:Array CommCase}{u:CommShape}{t K:Value}(h:pP p R g L q i u n k t K){v y l:Nat}
  (b:w.heap[p.C]?=some (.chan 0 #[] false m v false))(a:w.heap[p.D]?=some (.chan 0 #[] false y l false)):
  ∀x∈i,∃c z I j s r F,x=rcase c z/\w.heap[c]?=some (.chan I j false s r F):=by
 intro x J;let⟨e,o⟩:=IM.1 J;rcases h.no e x o with rfl | rfl
 .rw[h.f] at o;cases o;exact⟨_,_,_,_,_,_,_,rfl,b⟩
 .rw[h.d] at o;cases o;exact⟨_,_,_,_,_,_,_,rfl,a⟩
def uZ.status{p:eh}{q:gp}{T:Tree}(u:∀D g L,p.ML D g L->g.status=.running)(h:uZ p q D T n g L):
  (q≠.gP/\g.status=.running)\/(q=.gP/\T=.leaf/\n=0/\∃k d i shape v kd t z,g=parked d i shape/\pP p D k L d i shape v kd t z):=by
 cases h with
 | gP h=>exact .inr ⟨rfl,rfl,rfl,_,_,_,_,_,_,_,_,rfl,h⟩
 | again h=>exact .inl ⟨U,rfl⟩
 | sN h=>exact .inl ⟨U,h.running λ_ _ x=>u _ _ _ x⟩
 | _ h=>exact .inl ⟨U,h.running λ_ _ x=>x.1⟩
def uZ.woken{p:eh}{q:gp}{R:bt}{T:Tree}(u:∀R g L,p.ML R g L->g.status=.running)(h:uZ p q R T n g L)(a f:aT)
  (j:q=.gP->∃d v m r,w.heap[p.C]?=some (.chan 0 #[] false d v false)/\w.heap[p.D]?=some (.chan 0 #[] false m r false)):woken p.P a f w g=g:=by
 rcases h.status u with⟨_,e⟩ | ⟨e,_,_,qJ,kF,cs,shape,kf,kd,zf,zd,rfl,hs⟩
 .exact qA (.inl e)
 .obtain⟨d,v,m,r,b,hd⟩:=j e;unfold Go.Conc.woken;split
  .exact again_all_open (hs.open b hd)
  .rfl
structure Bq(p:eh)(gs:Array Goroutine)(w:World)(t:Trace)(j:Nat)(ks:Bool)(st:Nat->Nat)(F:Nat->Tree)(cc:Nat->Nat)(cv:Nat->Value)(q:Nat->Nat)(kt:CTag)(kx:Nat)(mt:gp)(R:Nat->Prop)(Ls:Nat->LH)(x:Nat):Prop where
 old:∀i g,0<i->i<p.base->i≠x->gs[i]?=some g->QuitsD p.P (q i) (Deaf t i) g/\F i=Tree.num (q i)
 wk:∀k,k<j->p.base+k≠x->∃g,gs[p.base+k]?=some g/\vR p k (st k) (F (p.base+k)) (cc k) (cv k) (Deaf t (p.base+k)) g (Ls (p.base+k)) w
 cl:ks=true->p.base+p.n≠x->∃g,gs[p.base+p.n]?=some g/\tu p kt kx (F (p.base+p.n)) (Deaf t (p.base+p.n)) g (Ls (p.base+p.n))
 mn:0≠x->∃a,gs[0]?=some a/\uZ p mt R (F 0) (Deaf t 0) a (Ls 0)
def Bq.step{p:eh}{X:dr}{w':World}{u:Trace}{S:Bool}{r:bP}{F F':eN}{cc:bP}{cv:fJ}{q:bP}{T:CTag}{mt:gp}{R:bt}{Ls t:dD}{x:Nat}(u1:∀R g L,p.ML R g L->g.status=.running)(h:Bq p X w Y k S r F cc cv q T m mt R Ls x)(g l:aT)
  (hu:∀op∈u,op.g=x)(hF:∀i,i≠x->F' i=F i)(o:∀i,i≠x->t i=Ls i)
  (hC:(∃c,c<k/\p.base+c≠x/\r c=11)\/mt=.gP->∃d v B E,w'.heap[p.C]?=some (.chan 0 #[] false d v false)/\w'.heap[p.D]?=some (.chan 0 #[] false B E false))
  (u2:∀c,c<k->p.base+c≠x->r c<=7->w'.heap[cc c]?=w.heap[cc c]?)(u3:∀c,c<k->r c<=7\/10<=r c)(hw:WgLive p.ty p.W w->WgLive p.ty p.W w'):
  ∃j,Bq p ((X.map (woken p.P g l w')).setIfInBounds x l) w' (Y++u) k S r F' cc cv q j m mt R t x/\(j=T\/(T=.blk/\j=.w3))/\(x≠p.base+p.n->S=true->mayWake p.P g=true->l.status=.running->j≠.blk):=by
 let get:∀i,i≠x->((X.map (woken p.P g l w')).setIfInBounds x l)[i]?=(X[i]?).map (woken p.P g l w'):=λi hi=>by
  rw[jI (dG hi),yn]
 let J:∀i,i≠x->Deaf (Y++u) i=Deaf Y i:=λi hi=>Deaf_other Y (dG hi) u hu;let⟨j,u4,u5⟩:∃j,((j=T\/(T=.blk/\j=.w3))/\(x≠p.base+p.n->S=true->mayWake p.P g=true->l.status=.running->j≠.blk))/\
   (S=true->p.base+p.n≠x->∃y,((X.map (woken p.P g l w')).setIfInBounds x l)[p.base+p.n]?=some y/\tu p j m (F' (p.base+p.n)) (Deaf (Y++u) (p.base+p.n)) y (t (p.base+p.n))):=by
  by_cases f:S=true/\p.base+p.n≠x
  .let⟨y,hy,G⟩:=h.cl f.1 f.2;let⟨j,H,Q,h3⟩:=G.woken p.P g l w';exact⟨j,⟨Q,λ_ _=>h3⟩,λ_ K=>⟨_,by rw[get _ K,hy];rfl,by rwa[hF _ K,o _ K,J _ K]⟩⟩
  .exact⟨T,⟨.inl rfl,λH Q=>ar ⟨Q,dG H⟩ f⟩,λH Q=>ar ⟨H,Q⟩ f⟩
 refine⟨j,⟨λi y hi hb I hy=>?_,λc f I=>?_,u5,λI=>?_⟩,u4⟩
 .rw[get i I] at hy;obtain⟨z,hz,rfl⟩:=il.1 hy;let⟨H,Q⟩:=h.old i z hi hb I hz;rw[woken_quitsD H,J i I,hF i I];exact⟨H,Q⟩
 .let⟨z,hz,G⟩:=h.wk c f I;let ew:woken p.P g l w' z=z:=by
   by_cases e:r c=11
   .let⟨d,v,_,_,b,_⟩:=hC (.inl ⟨c,f,I,e⟩);exact G.woken λ_=>b
   .exact G.woken (s₁:=0) (r₁:=0) λe'=>ar e' e
  refine⟨z,by rw[get _ I,hz,mg,ew],?_⟩;rw[J _ I,hF _ I,o _ I];exact G.rely (u2 c f I) hw (u3 c f)
 .obtain⟨a,s,G⟩:=h.mn I;let ew:woken p.P g l w' a=a:=G.woken u1 g l λe=>hC (.inr e);refine⟨a,by rw[get _ I,s,mg,ew],?_⟩;rw[J _ I,hF _ I,o _ I];exact G
section
variable (p:eh)
def cB(st:bP):Nat->WD:=λk=>⟨min (st k) 7,0,0⟩
def lC(kt:CTag):gp->CTag
 | .kd r | .add r=>.sp r 5
 | .said r | .en r | .go r=>.sp r 3
 | .D8=>.kd
 | .sN | .gP=>kt
def JB(n j:Nat)(ks:Bool):gp->Prop
 | .kd r | .add r | .said r | .en r | .go r=>j+(r+1)=n/\ks=false
 | .D8=>j=n/\ks=false
 | .sN | .gP=>j=n/\ks=true
def eF(kt:CTag)(kx:Nat):Bool:=match kt,kx with | .ret,0=>true | _,_=>false
structure Mn(S0:Nat->Prop)(n0:Nat)(size:Nat)(t:Trace):Prop where
 len:n0<=t.size
 known:∀i a b,i<n0->touchAt t i=some a->dQ a.loc=some b->Knows t 0 i\/(S0 b/\a.kind=.atomic)
 over:∀i g,i<n0->t.g? i=some g->g≠0->t.counts i->∃j,t.g? j=some 0/\HappensBefore t i j
 rv:∀i op,n0<=i->t[i]?=some op->op.act.touch?≠none->op.g=0\/(p.base<=op.g/\op.g<size)
 norel:∀i,n0<=i->t.act? i≠some (.mark (.release (stA p.W)))
 xk:∀i a b,n0<=i->touchAt t i=some a->a.kind≠.plain->dQ a.loc=some b->b=p.W\/b=p.D
def Ij(n0:Nat)(t:Trace)(qp:Nat):Prop:=
 t.act? qp=some (.mark (.acquire (stA p.W)))/\t.g? qp=↑(p.base+p.n)/\t.heard qp/\∀k,k<p.n->∃r,n0<=r/\RelBy (stA p.W) t (p.base+k) r/\r<qp
def MG(t:Trace)(qp:Nat):Prop:=
 ∃c,t.act? c=some (.close p.D)/\t.g? c=↑(p.base+p.n)/\t.heard c/\qp<c/\∀i op,t[i]?=some op->op.g=p.base+p.n->op.act.touch?≠none->i<c
structure gI(W0:World)(S0:Nat->Prop)(n0:Nat)(gs:Array Goroutine)(w:World)(t:Trace)(j:Nat)(ks:Bool)(st:Nat->Nat)(F:Nat->Tree)(cc:Nat->Nat)(cv:Nat->Value)(q:Nat->Nat)(kt:CTag)(kx:Nat)(mt:gp)(R:Nat->Prop)
  (Ls:Nat->LH)(Sh:Nat->Prop)(sv mv:Int):Prop where
 cast:Bq p gs w t j ks st F cc cv q kt kx mt R Ls gs.size
 size:gs.size=p.base+j+ks.toNat
 eJ:1<=p.base
 jn:j<=p.n
 nn:p.n<2147483647
 jm:JB p.n j ks mt
 kk:ks=false->kt=.kd/\kx=0
 gF:∀k,k<j->st k<=7\/10<=st k
 above:∀i,gs.size<=i->Deaf t i=0
 res:oD Ls Sh (λb=>b=p.W\/b=p.D) (λi=>i=0\/(p.base<=i/\i<gs.size)) w t
 sO:Sh p.W
 MA:Sh p.C
 KR:Sh p.D
 CX:∀b,S0 b->Sh b
 HH:p.W≠p.C
 HI:p.W≠p.D
 iC:∀k,k<j->st k<=7->Sh (cc k)/\cc k≠p.W/\cc k≠p.C/\cc k≠p.D/\∀k',k'<j->k'≠k->st k'<=7->cc k'≠cc k
 same:mI W0 w
 wg:WgAt p.ty p.W w sv mv
 mode:ConcN.Mode j (cB st) (lC kt mt) sv mv
 ch:∃s,w.heap[p.C]?=some (.chan 0 #[] (decide (p.C=p.D)&&eF kt kx) s s false)
 cd:∃s,w.heap[p.D]?=some (.chan 0 #[] (eF kt kx) s s false)
 xD:mt=.gP->eF kt kx=false
 pk:mt=.gP->∀k,k<j->st k≠11
 rel:∀k,k<j->st k<=6->∃r,n0<=r/\RelBy (stA p.W) t (p.base+k) r
 said:∀idx a,touchAt t idx=some a->a.loc=.cell (smA p.W)->a.kind=.said->(ks=false->Knows t 0 idx)/\(ks=true->Knows t (p.base+p.n) idx)
 acq:kt=.ret->∃qp,Ij p n0 t qp/\(kx=0->MG p t qp)
 nr:∀k,k<p.n->¬R k->k<j->11<=st k\/(st k<=7/\p.mute k)
 rr:∀k,R k->k<j/\st k<=10
 r0:ks=false->∀k,¬R k
 xZ:Mn p S0 n0 gs.size t
def jj(n v:Nat)(ks:Bool):CTag->Nat->Nat
 | .kd,_=>if ks then 8 *n+20 else 8 *n+30
 | .w1,_=>8 *v+13
 | .w2 vs,_=>8 *vs+12
 | .w3,x=>6+x
 | .blk,_=>6
 | .w4,_=>5
 | .ke,_=>4
 | .acq,_=>3
 | .ret,x=>1+x
 | _,_=>0
def lV:gp->Nat
 | .kd r=>6 * (r+1)+9
 | .add r=>6 * (r+1)+8
 | .said r=>6 * (r+1)+7
 | .en r=>6 * (r+1)+6
 | .go r=>6 * (r+1)+5
 | .D8=>9
 | .sN=>2
 | .gP=>1
def AI(n j:Nat)(st:bP):Nat:=sumTo n λk=>if k<j then st k else 13
def bit(kt:CTag)(kx:Nat):Nat:=match kt,kx with | .w3,0=>1 | _,_=>0
abbrev MO:=(Nat×(Nat->Tree))×Nat
def pO(N:Nat):MO->MO->Prop:=Prod.Lex (HO N) (·<·)
def pO.wf(N:Nat):WellFounded (pO N):=⟨λx=>Prod.lexAccessible ((HO.wf N).apply x.1) (λb=>Nat.lt_wfRel.wf.apply b) x.2⟩
def meas(j:Nat)(ks:Bool)(st:bP)(F:eN)(kt:CTag)(kx:Nat)(mt:gp):MO:=
 ((4 *AI p.n j st+4 *jj p.n (Vc j (cB st)) ks kt kx+lV mt,F),bit kt kx)
def nE(W0:World)(S0:bt)(n0:Nat)(μ:MO)(m:Machine)(t:Trace):Prop:=
 ∃gs w sl j ks st F cc cv q kt kx mt R Ls Sh sv mv,m=crowd gs w sl/\gI p W0 S0 n0 gs w t j ks st F cc cv q kt kx mt R Ls Sh sv mv/\μ=meas p j ks st F kt kx mt
variable {p}
def Mn.app{S0:bt}{n0 size:Nat}{t u:Trace}(h:Mn p S0 n0 size t){x:Nat}(hg:∀op∈u,op.g=x)(hx:(x=0\/(p.base<=x/\x<size))\/∀op∈u,op.act.touch?=none)(hr:∀op∈u,op.act≠.mark (.release (stA p.W)))
  (ha:∀op∈u,∀x,op.act.touch?=some x->x.kind≠.plain->∃b,dQ x.loc=some b/\(b=p.W\/b=p.D)):Mn p S0 n0 size (t++u) where
 len:=by have:=h.len;rw[Cm];omega
 known:=λi a b hi ha hb=>by
  let PG:=lg hi h.len;rw[touchAt_old PG] at ha;exact(h.known i a b hi ha hb).imp (·.app u) id
 over:=λi g hi hgi CC hc=>by
  let PG:=lg hi h.len;rw[g?_old PG] at hgi;let⟨j,hj,hb⟩:=h.over i g hi hgi CC ((counts_old PG).1 hc);let hjl:j<t.size:=by
   let⟨z,hz,_⟩:=il.1 hj;exact lt_size_of_getElem? hz
  exact⟨j,by rwa[g?_old hjl],hb_app u hb⟩
 rv:=λi op hi ho ht=>by
  rcases getElem?_append_cases ho with⟨_,qh⟩ | ⟨_,oK⟩
  .exact h.rv i op hi qh ht
  .rcases hx with hx | hx
   .rwa[hg op oK]
   .exact ar (hx op oK) ht
 norel:=λi hi ha=>by
  let⟨op,ho,hoa⟩:=il.1 ha;rcases getElem?_append_cases ho with⟨_,qh⟩ | ⟨_,oK⟩
  .exact h.norel i hi (by rw[act?_of qh,hoa])
  .exact hr op oK hoa
 xk:=λi a b hi dq hk hb=>by
  let⟨x,hx,Z2⟩:=touch_of dq;rcases getElem?_append_cases hx with⟨_,sJ⟩ | ⟨_,sK⟩
  .exact h.xk i a b hi (by rwa[touchAt_of sJ]) hk hb
  .let⟨b',h1,h2⟩:=ha x sK a Z2 hk;rw[hb] at h1;cases h1;exact h2
def Mn.more(h:Mn p D n k Y)(a:k<=m):Mn p D n m Y:=
 ⟨h.len,h.known,h.over,λi u q j s=>(h.rv i u q j s).imp id λx=>⟨x.1,lg x.2 a⟩,h.norel,h.xk⟩
def Ij.app{u:Trace}(h:Ij p k Y m)(d:∀c r,c<p.n->RelBy (stA p.W) Y (p.base+c) r->RelBy (stA p.W) (Y++u) (p.base+c) r):Ij p k (Y++u) m:=by
 obtain⟨q,z,i,x⟩:=h;let v:=lt_of_act? q;exact⟨by rwa[act?_old v],by rwa[g?_old v],(heard_old v).2 i,λc f=>let⟨r,a,b,y⟩:=x c f;⟨r,a,d c r f b,y⟩⟩
def MG.app{u:Trace}(h:MG p Y k)(f:∀v∈u,v.g=p.base+p.n->v.act.touch?=none):MG p (Y++u) k:=by
 let⟨c,q,z,r,x,a⟩:=h;have b:=lt_of_act? q;refine⟨c,by rwa[act?_old b],by rwa[g?_old b],(heard_old b).2 r,x,λi v j d s=>?_⟩;rcases getElem?_append_cases j with⟨_,qh⟩ | ⟨_,oK⟩
 .exact a i v qh d s
 .exact ar (f v oK d) s
def Way.bind{s:Bool}{Φ:iF}{i r:cg}(h:Way P s Φ i g L)(f:∀g L,i g L->Way P s Φ r g L):Way P s Φ r g L:=by
 obtain⟨x⟩:=h
 induction x with
 | stop h=>exact f _ _ h
 | own hr nx h k ih=>exact⟨.own hr nx h λw u=>Classical.choice (ih w u)⟩
 | BQ hr a v g' es hes Z3 h k ih=>exact⟨.BQ hr a v g' es hes Z3 h (Classical.choice ih)⟩
end
def jH(p:eh):Prop:=∀R g L,p.ML R g L->g.status=.running/\∃kF cs shape kf kd zf zd,pP p R g L kF cs shape kf kd zf zd
def zr{x:CTag}(h:eF x n=true):x=.ret/\n=0:=by
 unfold eF at h
 split at h
 .exact⟨rfl,rfl⟩
 .cases h
def Ar{f u:bP}:∀{n:Nat},(∀k,k<n->u k<=f k)->sumTo n u<=sumTo n f
 | 0,_=>dA _
 | n+1,h=>by
  have q:=Ar (n:=n) λk v=>h k M;let z:=h n M;simp[sumTo];omega
def vI{f u:bP}{i:Nat}:∀{n:Nat},i<n->(∀k,k<n->u k<=f k)->u i<f i->sumTo n u<sumTo n f
 | 0,h,_,_=>ar h (nW _)
 | n+1,h,hm,hl=>by
  have z:=hm n M
  by_cases e:i=n
  .subst e;let q:=Ar (n:=i) λk v=>hm k M;simp only[sumTo];omega
  .let q:=vI (n:=n) M (λk v=>hm k M) hl;simp[sumTo];omega
def gI.Kc{p:eh}{y:dr}{z:Bool}{r:bP}{F:eN}{b:bP}{g:fJ}{q:bP}{x:CTag}{t:gp}{R:bt}{l:dD}{e:bt}{f:Int}(h:gI p u D n y w Y k z r F b g q x m t R l e c f)(a:(∃d,d<k/\2<=r d)\/t=.gP):eF x m=false:=by
 rcases a with⟨d,hk,h2⟩ | a
 .cases j:eF x m with
  | false=>rfl
  | true=>
   obtain⟨rfl,rfl⟩:=zr j;let i:z=true:=by
    cases i:z with
    | true=>rfl
    | false=>have:=(h.kk i).1;cases this
   let o:=h.mode;let v:=h.jm;let s:lC .ret t=.ret:=by
    cases t <;> first | rfl | (simp[JB] at v;exact ar i (by simp[v.2]))
   rw[s] at o;cases o with
   | opn h1 _ _=>exact h1.elim
   | reg h1 _ _=>exact h1.elim
   | last L h1 _ _ _=>exact h1.elim
   | fin _ h2'=>
    have:=h2' d hk;simp[cB] at this;omega
 .exact h.xD a
def gI.lt_size{p:eh}{v:dr}{z:Bool}{r:bP}{F:eN}{d:bP}{g:fJ}{q:bP}{x:CTag}{s:Nat}{a:gp}{R:bt}{i:dD}{o:bt}{f:Int}(h:gI p u D n v w Y m z r F d g q x s a R i o c f)(t:k<m):p.base+k<v.size:=by rw[h.size];omega
def Bq.less{p:eh}{v:dr}{z:Bool}{r:bP}{F:eN}{t:bP}{j:fJ}{q:bP}{y:CTag}{b:gp}{l:dD}{x:Nat}(h:Bq p v w Y k z r F t j q y m b D l v.size)(a:v.size=p.base+k+z.toNat)(d:1<=p.base)(o:z=true->k=p.n):Bq p v w Y k z r F t j q y m b D l x:=
 ⟨λi g f s _=>h.old i g f s M,λc e _=>h.wk c e M,λu _=>h.cl u (by subst u;have:=o rfl;simp at a;omega),λ_=>h.mn M⟩
def BL{z:Bool}{q:gp}(h:JB n k z q):z=true->k=n:=by
 intro f;subst f;cases q <;> simp[JB] at h <;> exact h
structure aew(p:eh)(W0:World)(gs:Array Goroutine)(w:World)(t:Trace)(j:Nat)(ks:Bool)(st:Nat->Nat)(F:Nat->Tree)(cc:Nat->Nat)(cv:Nat->Value)(q:Nat->Nat)(kt:CTag)(kx:Nat)(mt:gp)(R:Nat->Prop)(Ls:Nat->LH)(Sh:Nat->Prop)(n0:Nat)
  (x:Nat)(g g':Goroutine)(w':World)(es:Array Event)(st':Nat->Nat)(F':Nat->Tree)(cc':Nat->Nat)(cv':Nat->Value)(q':Nat->Nat)(kt':CTag)(kx':Nat)(mt':gp)(Ls':Nat->LH)(Sh':Nat->Prop)(sv' mv':Int):Prop where
 hF:∀i,i≠x->F' i=F i
 hL:∀i,i≠x->Ls' i=Ls i
 PK:∀k,k<j->p.base+k≠x->st' k=st k/\cc' k=cc k/\cv' k=cv k
 hq:∀i,i≠x->q' i=q i
 PH:x≠p.base+p.n->kt'=kt/\kx'=kx
 PI:x≠0->mt'=mt
 Z0:x=0->mt'≠.gP
 ho:0<x->x<p.base->QuitsD p.P (q' x) (deafBehind (Deaf t x) es) g'/\F' x=Tree.num (q' x)
 Z1:∀k,k<j->x=p.base+k->vR p k (st' k) (F' x) (cc' k) (cv' k) (deafBehind (Deaf t x) es) g' (Ls' x) w'
 ZY:ks=true->x=p.base+p.n->tu p kt' kx' (F' x) (deafBehind (Deaf t x) es) g' (Ls' x)
 ZZ:x=0->uZ p mt' R (F' 0) (deafBehind (Deaf t 0) es) g' (Ls' 0)
 gF:∀k,k<j->st' k<=7\/(10<=st' k/\(mt'=.gP->st' k≠11))
 less:∀k,k<j->st' k<=st k
 jm:JB p.n j ks mt'
 kk:ks=false->kt'=.kd/\kx'=0
 ncl:kt'=.ret->kx'=0->kt=.ret/\kx=0
 NZ:eF kt' kx'=eF kt kx
 res:oD Ls' Sh' (λb=>b=p.W\/b=p.D) (λi=>i=0\/(p.base<=i/\i<gs.size)) w' (t++MemOp.ofEvents x g.frame.fn g.frame.place es)
 sh:∀b,Sh b->Sh' b
 iC:∀k,k<j->st' k<=7->Sh' (cc' k)/\cc' k≠p.W/\cc' k≠p.C/\cc' k≠p.D/\∀k',k'<j->k'≠k->st' k'<=7->cc' k'≠cc' k
 Zw:∀k,k<j->p.base+k≠x->st k<=7->w'.heap[cc k]?=w.heap[cc k]?
 same:mI W0 w'
 wg:WgAt p.ty p.W w' sv' mv'
 mode:∀X3,(X3=kt'\/(kt'=.blk/\X3=.w3))->(x≠p.base+p.n->ks=true->mayWake p.P g=true->g'.status=.running->X3≠.blk)->ConcN.Mode j (cB st') (lC X3 mt') sv' mv'
 ch:w'.heap[p.C]?=w.heap[p.C]?
 cd:w'.heap[p.D]?=w.heap[p.D]?
 Od:∀k,k<j->x=p.base+k->kt=.ret->∀r,RelBy (stA p.W) t x r->RelBy (stA p.W) (t++MemOp.ofEvents x g.frame.fn g.frame.place es) x r
 rel:∀k,k<j->x=p.base+k->st' k<=6->∃r,n0<=r/\RelBy (stA p.W) (t++MemOp.ofEvents x g.frame.fn g.frame.place es) x r
 said:∀e∈es,∀a,(MemAct.ofEvent e).touch?=some a->a.kind=.said->(ks=false->x=0)/\(ks=true->x=p.base+p.n)
 norel:∀e∈es,MemAct.ofEvent e≠.mark (.release (stA p.W))
 xk:∀e∈es,∀y,(MemAct.ofEvent e).touch?=some y->y.kind≠.plain->∃b,dQ y.loc=some b/\(b=p.W\/b=p.D)
 rv:(x=0\/(p.base<=x/\x<gs.size))\/∀e∈es,(MemAct.ofEvent e).touch?=none
 acq:x=p.base+p.n->kt'=.ret->∃qp,Ij p n0 (t++MemOp.ofEvents x g.frame.fn g.frame.place es) qp/\(kx'=0->MG p (t++MemOp.ofEvents x g.frame.fn g.frame.place es) qp)
 nr:∀k,k<p.n->¬R k->k<j->11<=st' k\/(st' k<=7/\p.mute k)
 lt:(4 *AI p.n j st'+4 *jj p.n (Vc j (cB st')) ks kt' kx'+lV mt'<4 *AI p.n j st+4 *jj p.n (Vc j (cB st)) ks kt kx+lV mt)\/
  (4 *AI p.n j st'+4 *jj p.n (Vc j (cB st')) ks kt' kx'+lV mt'=4 *AI p.n j st+4 *jj p.n (Vc j (cB st)) ks kt kx+lV mt/\(Tree.sub (F' x) (F x)\/(x=p.base+p.n/\F' x=F x/\bit kt' kx'<bit kt kx)))
def gI.qL{p:eh}{W0:World}{gs:dr}{T:Bool}{st:bP}{F:eN}{cc:bP}{cv:fJ}{q:bP}{kt:CTag}{kx:Nat}{mt:gp}{R:bt}{Ls:dD}{Sh:bt}{mv:Int}(hT:jH p)(h:gI p W0 D k gs w Y m T st F cc cv q kt kx mt R Ls Sh c mv){x:Nat}{g':aT}{w':World}{es:gW}(sl:gw)
  (hx:gs[x]?=some g)(q3:stepG p.P (x==0) g w=.go g' w' es){st':bP}{F':eN}{cc':bP}{cv':fJ}{q':bP}{kt':CTag}{kx':Nat}{mt':gp}{Ls':dD}{Sh':bt}{sv' mv':Int}
  (a:aew p W0 gs w Y m T st F cc cv q kt kx mt R Ls Sh k x g g' w' es st' F' cc' cv' q' kt' kx' mt' Ls' Sh' sv' mv'):
  ∃m' u7 vd,runT p.P (crowd gs w sl) x=(.next m',u7)/\pO (p.base+p.n+1) vd (meas p m T st F kt kx mt)/\nE p W0 D k vd m' (Y++u7):=by
 let q4:∀R g L,p.ML R g L->g.status=.running:=λR g L x=>(hT R g L x).1;let u8:=(iL.1 hx).1;let u9:=runT_crowd_go (sl:=sl) hx q3;let u4:=BL h.jm;let hu:∀K∈MemOp.ofEvents x g.frame.fn g.frame.place es,K.g=x/\∃e∈es,K.act=.ofEvent e:=λK j=>by
  obtain⟨e,he,hx⟩:=Go.Conc.mem_ofEvents j;rw[hx];exact⟨rfl,e,he,rfl⟩
 let u1:((gs.map (woken p.P g g' w')).setIfInBounds x g').size=gs.size:=U
 -- C4 others
 obtain⟨u3,G,q5,q6⟩:=(Bq.less (x:=x) h.cast h.size h.eJ u4).step (u:=MemOp.ofEvents x g.frame.fn g.frame.place es) (w':=w') q4 g g' (λK j=>(hu K j).1) a.hF a.hL
  (λhp=>by
   let q7:eF kt kx=false:=h.Kc (hp.imp (λ⟨d,f,_,e⟩=>⟨d,f,M⟩) id);obtain⟨s₁,W⟩:=h.ch;obtain⟨Yy,B⟩:=h.cd;rw[q7] at W B;rw[zg] at W;exact⟨s₁,s₁,Yy,Yy,by rw[a.ch];exact W,by rw[a.cd];exact B⟩)
  a.Zw h.gF (λ_=>⟨_,_,a.wg⟩)
 -- C4 waiting ajP tag
 obtain⟨X,Q,S⟩:∃X,(X=kt'\/(kt'=.blk/\X=.w3))/\((x≠p.base+p.n->X=u3)/\(x=p.base+p.n->X=kt')):=by
  by_cases e:x=p.base+p.n
  .exact⟨kt',.inl rfl,λh=>ar e h,λ_=>rfl⟩
  .refine⟨u3,?_,λ_=>rfl,λh=>ar h e⟩;rw[(a.PH e).1];exact q5
 let E:eF X kx'=eF kt kx:=by
  rw[<-a.NZ];rcases Q with e | ⟨I,H⟩
  .rw[e]
  .rw[I,H];rfl
 let v:X=.ret->kt'=.ret:=by
  intro e;rcases Q with I | ⟨_,H⟩
  .rw[<-I];exact e
  .rw[H] at e;cases e
 let q0:T=false->X=.kd/\kx'=0:=by
  intro e;obtain⟨W,B⟩:=a.kk e;rcases Q with I | ⟨I,_⟩
  .exact⟨I.trans W,B⟩
  .rw[W] at I;cases I
 let hd:Deaf (Y++MemOp.ofEvents x g.frame.fn g.frame.place es) x=deafBehind (Deaf Y x) es:=Deaf_own Y x _ _ es;let t:((gs.map (woken p.P g g' w')).setIfInBounds x g')[x]?=some g':=by rw[oZ (by simpa using u8)]
 let u2:jj p.n (Vc m (cB st')) T X kx'=jj p.n (Vc m (cB st')) T kt' kx'\/(X=.w3/\kt'=.blk):=by
  rcases Q with e | ⟨I,H⟩
  .rw[e];exact .inl rfl
  .exact .inr ⟨H,I⟩
 refine⟨_,_,_,u9,?_,_,w',sl,m,T,st',F',cc',cv',q',X,kx',mt',R,Ls',Sh',sv',mv',rfl,?_,rfl⟩
 .-- C4 measure
  let q1:kt'=.blk->X=.w3->kx'=0:=by
   intro I H
   by_cases e:x=p.base+p.n
   .rw[S.2 e] at H;rw[I] at H;cases H
   .obtain⟨W,B⟩:=a.PH e;let l:T=true:=by
     cases l:T with
     | true=>rfl
     | false=>have:=(a.kk l).1;rw[I] at this;cases this
    obtain⟨y,_,hy⟩:=h.cast.cl l (by rw[h.size,u4 l,l];simp);rw[B];rcases hy.status with⟨CC,_⟩ | ⟨_,hx0,_⟩
    .exact ar (W▸I) CC
    .exact hx0
  let hS:4 *AI p.n m st'+4 *jj p.n (Vc m (cB st')) T X kx'+lV mt'=4 *AI p.n m st'+4 *jj p.n (Vc m (cB st')) T kt' kx'+lV mt':=by
   rcases u2 with e | ⟨I,H⟩
   .rw[e]
   .rw[q1 H I,I,H];rfl
  unfold meas pO;rw[hS];rcases a.lt with u5 | ⟨q2,u5 | ⟨q8,q9,hb⟩⟩
  .exact Prod.Lex.left _ _ (Prod.Lex.left _ _ u5)
  .rw[q2];exact Prod.Lex.left _ _ (Prod.Lex.right _ ⟨x,by have:=h.size;have:=h.jn;cases T <;> simp at * <;> omega,u5,a.hF⟩)
  .rw[q2];let H:F'=F:=funext λi=>by
    by_cases e:i=x
    .rw[e];exact q9
    .exact a.hF i e
   rw[H];refine Prod.Lex.right _ ?_;rw[S.2 q8];exact hb
 .refine{cast:=?_,size:=by rw[u1];exact h.size,eJ:=h.eJ,jn:=h.jn,nn:=h.nn,jm:=a.jm,kk:=q0,gF:=λd f=>(a.gF d f).imp id (·.1),above:=λi hi=>?_,res:=by rw[u1];exact a.res,sO:=a.sh _ h.sO,MA:=a.sh _ h.MA,KR:=a.sh _ h.KR,CX:=λb hb=>a.sh _ (h.CX b hb),HH:=h.HH,HI:=h.HI,iC:=a.iC,same:=a.same,wg:=a.wg,mode:=?_,ch:=?_,cd:=?_,xD:=?_,pk:=?_,rel:=?_,said:=?_,acq:=?_,nr:=a.nr,rr:=λd f=>⟨(h.rr d f).1,lI (a.less d (h.rr d f).1) (h.rr d f).2⟩,r0:=h.r0,xZ:=?_}
  .-- C4 cast
   refine⟨λi y h0 hb _ hy=>?_,λd f _=>?_,λl _=>?_,λ_=>?_⟩
   .by_cases e:i=x
    .subst e;rw[t] at hy;cases hy;rw[hd];exact a.ho h0 hb
    .rw[a.hq i e];exact G.old i y h0 hb e hy
   .by_cases e:p.base+d=x
    .subst e;refine⟨g',t,?_⟩;rw[hd];exact a.Z1 d f rfl
    .obtain⟨I,H,e3⟩:=a.PK d f e;rw[I,H,e3];exact G.wk d f e
   .by_cases e:p.base+p.n=x
    .subst e;refine⟨g',t,?_⟩;rw[hd,S.2 rfl];exact a.ZY l rfl
    .rw[S.1 (dG e),(a.PH (dG e)).2];exact G.cl l e
   .by_cases e:0=x
    .subst e;refine⟨g',t,?_⟩;rw[hd];exact a.ZZ rfl
    .rw[a.PI (dG e)];exact G.mn e
  .rw[u1] at hi;rw[Deaf_other Y (g':=x) M _ (λK j=>(hu K j).1)];exact h.above i hi
  .refine a.mode X Q λe l o hr=>?_;rw[S.1 e];exact q6 e l o hr
  .obtain⟨s,hc⟩:=h.ch;exact⟨s,by rw[a.ch,E];exact hc⟩
  .obtain⟨s,hc⟩:=h.cd;exact⟨s,by rw[a.cd,E];exact hc⟩
  .intro e;rw[E]
   by_cases e0:x=0
   .exact ar e (a.Z0 e0)
   .exact h.xD (by rw[<-a.PI e0];exact e)
  .intro e d f;rcases a.gF d f with h7 | h10
   .omega
   .exact h10.2 e
  .intro d f hs
   by_cases e:x=p.base+d
   .subst e;exact a.rel d f rfl hs
   .obtain⟨I,_,_⟩:=a.PK d f (dG e);rw[I] at hs;obtain⟨r,hr,hb⟩:=h.rel d f hs;exact⟨r,hr,hb.appOther (λK j=>(hu K j).1) e⟩
  .intro v0 y hy hl hs;obtain⟨z,hz,u6⟩:=touch_of hy;rcases getElem?_append_cases hz with⟨_,hz'⟩ | ⟨_,hzu⟩
   .obtain⟨W,B⟩:=h.said v0 y (by rw[touchAt_of hz'];exact u6) hl hs;exact⟨λe=>(W e).app _,λe=>(B e).app _⟩
   .obtain⟨hg,e,he,J⟩:=hu z hzu;rw[J] at u6;obtain⟨W,B⟩:=a.said e he y u6 hs;have:=knows_own hz;rw[hg] at this;exact⟨λe=>by rw[<-W e];exact this,λe=>by rw[<-B e];exact this⟩
  .intro e
   by_cases C:x=p.base+p.n
   .exact a.acq C (v e)
   .obtain⟨I,H⟩:=a.PH C;obtain⟨qp,W,B⟩:=h.acq (I▸v e);refine⟨qp,W.app λd r f hr=>?_,λex=>(B (H▸ex)).app λK j hg=>?_⟩
    .by_cases C:x=p.base+d
     .let v1:d<m:=by
       let l:T=true:=by
        cases l:T with
        | true=>rfl
        | false=>have:=(a.kk l).1;rw[v e] at this;cases this
       rw[u4 l];exact f
      subst C;exact a.Od d v1 rfl (I▸v e) r hr
     .exact hr.appOther (λK j=>(hu K j).1) C
    .exact ar ((hu K j).1.symm.trans hg) C
  .rw[u1];refine h.xZ.app (x:=x) (λK j=>(hu K j).1) (a.rv.imp id λhn K j=>?_) (λK j=>?_) λK j=>?_
   .obtain⟨_,e,he,J⟩:=hu K j;rw[J];exact hn e he
   .obtain⟨_,e,he,J⟩:=hu K j;rw[J];exact a.norel e he
   .obtain⟨_,e,he,J⟩:=hu K j;rw[J];exact a.xk e he
def gI.CL{p:eh}{a:dr}{z:Bool}{r:bP}{F:eN}{o:bP}{g:fJ}{q:bP}{x:CTag}{d:gp}{R:bt}{i:dD}{t:bt}{f:Int}(h:gI p u D n a w Y k z r F o g q x m d R i t c f)(v:CTag)(j:v=x\/(x=.blk/\v=.w3)):ConcN.Mode k (cB r) (lC v d) c f:=by
 cases d <;> first | exact h.mode | exact h.mode.retag j
def gI.EI{p:eh}{a:dr}{z:Bool}{r:bP}{F:eN}{o:bP}{g:fJ}{q:bP}{x:CTag}{v:gp}{R:bt}{t:dD}{j:bt}{f:Int}(h:gI p u D n a w Y k z r F o g q x m v R t j c f)(y:x≠.kd):z=true/\(v=.sN\/v=.gP):=by
 have i:z=true:=by
  cases i:z with
  | true=>rfl
  | false=>exact ar (h.kk i).1 y
 let d:=h.jm;subst i;exists rfl;cases v <;> simp[JB] at d ⊢
def gI.Ae{p:eh}{d:dr}{z:Bool}{r:bP}{F:eN}{a:bP}{g:fJ}{q:bP}{x:CTag}{s:Nat}{v:gp}{R:bt}{i:dD}{t:bt}{j:Int}(h:gI p u D n d w Y m z r F a g q x s v R i t c j)(f:x=.ret)(b:k<m):r k=1:=by
 let o:=h.mode;let y:lC x v=.ret:=by
  obtain⟨_,e | e⟩:=h.EI (by rw[f];simp) <;> subst e <;> exact f
 rw[y] at o;cases o with
 | opn h1 _ _=>exact h1.elim
 | reg h1 _ _=>exact h1.elim
 | last L h1 _ _ _=>exact h1.elim
 | fin _ h2'=>
  have:=h2' k b;simp only[cB] at this;omega
def xv{e:Event}(h:vk L e){a:Touch}(s:(MemAct.ofEvent e).touch?=a):a.kind=.plain:=by
 let⟨loc,wr,c⟩:=e;cases loc with
 | cell x=>
  let⟨q,_⟩:=h;subst q;simp[MemAct.ofEvent,MemAct.touch?,kR] at s;subst s
  rfl
 | obj r=>
  let⟨q,_⟩:=h;subst q;simp[MemAct.ofEvent,MemAct.touch?,kR] at s;subst s
  rfl
 | mark m=>rcases h with rfl | ⟨f,rfl⟩ <;> simp[MemAct.ofEvent,MemAct.touch?] at s
 | output=>exact h.elim
 | goroutines=>exact h.elim
def rV{e:Event}(h:vk L e)(a:Addr):MemAct.ofEvent e≠.mark (.release a):=by
 let⟨loc,wr,c⟩:=e;cases loc with
 | cell x=>simp[MemAct.ofEvent]
 | obj r=>
  let⟨q,_⟩:=h;subst q;simp[MemAct.ofEvent]
 | mark m=>rcases h with rfl | ⟨f,rfl⟩ <;> simp[MemAct.ofEvent]
 | output=>exact h.elim
 | goroutines=>exact h.elim
def SH{e:Event}(h:vk L e):e.loc≠.mark .disable/\e.loc≠.mark .enable:=by
 let⟨loc,wr,c⟩:=e;cases loc with
 | mark m=>rcases h with rfl | ⟨f,rfl⟩ <;> simp
 | _=>simp
def Tr.deaf{q:gW}(h:Tr L R w u q)(d:Nat):deafBehind d q=d:=deafBehind_still (λe z=>SH (h.ev e z)) d
def gI.J9{p:eh}{Q:dr}{C:Bool}{r:bP}{F:eN}{B:bP}{E:fJ}{q:bP}{S:CTag}{s:Nat}{T:gp}{R:bt}{Ls:dD}{Sh:bt}{mv:Int}(hT:jH p)(h:gI p u D k Q w Y m C r F B E q S s T R Ls Sh c mv){x:Nat}(h0:0<x)(hb:x<p.base)(b:gw)(o:Q[x]?=g)(v:g.status=.running):
    ∃m' J K,runT p.P (crowd Q w b) x=(.next m',J)/\pO (p.base+p.n+1) K (meas p m C r F S s T)/\nE p u D k K m' (Y++J):=by
  let⟨H,hF⟩:=h.cast.old x g h0 hb (by rw[h.size];omega) o;let t:(x==0)=false:=bU
  cases I:q x with
  | zero=>rw[I] at H;rw[H.1] at v;cases v
  | succ l=>
    rw[I] at H;rcases H with⟨hf,_⟩ | ⟨_,g',es,hm,wT,Mt⟩
    · rw[hf] at v;cases v
    let y:∀e∈es,(MemAct.ofEvent e).touch?=none:=λe z=>touch_mute (hm e z);let W:∀op∈MemOp.ofEvents x g.frame.fn g.frame.place es,op.act.touch?=none:=λop j=>by
      let⟨e,z,o⟩:=Go.Conc.mem_ofEvents j;rw[o];exact y e z
    refine h.qL hT b o (by rw[t];exact wT w)
      {hF:=λi X=>upd_ne _ _ X,hL:=λ_ _=>rfl,PK:=λ_ _ _=>⟨rfl,rfl,rfl⟩,hq:=λi X=>upd_ne _ _ X,PH:=λ_=>⟨rfl,rfl⟩,PI:=λ_=>rfl,Z0:=λe=>by omega,
        ho:=λ_ _=>by rw[upd_same,upd_same];exact⟨Mt,rfl⟩,Z1:=λd _ e=>by omega,ZY:=λ_ e=>by omega,ZZ:=λe=>by omega,
        gF:=λd f=>(h.gF d f).imp id λx=>⟨x,λe=>h.pk e d f⟩,less:=λ_ _=>dA _,jm:=h.jm,kk:=h.kk,ncl:=λe1 e2=>⟨e1,e2⟩,NZ:=rfl,res:=h.res.mute (.refl _ _) W,sh:=λ_ h=>h,iC:=h.iC,Zw:=λ_ _ _ _=>rfl,
        same:=h.same,wg:=h.wg,mode:=λG f _=>h.CL G f,ch:=rfl,cd:=rfl,Od:=λd _ e=>by omega,rel:=λd _ e=>by omega,said:=λe z a ha=>(by rw[y e z] at ha;cases ha),
        norel:=λe z=>?_,xk:=λe z x o=>(by rw[y e z] at o;cases o),rv:=.inr y,acq:=λe=>by omega,nr:=h.nr,lt:=.inr ⟨rfl,.inl ?_⟩}
    · have:=hm e z
      let⟨loc,wr,sy⟩:=e;cases loc with
      | mark l=>cases l <;> simp_all [Event.mute,MemAct.ofEvent]
      | _=>simp[Event.mute] at this
    · rw[upd_same,hF,I]
      exact Tree.Aa w l
def gI.wU{p:eh}{gs:dr}{I:Bool}{J:bP}{F:eN}{cc:bP}{cv:fJ}{q:bP}{K:CTag}{s:Nat}{G:gp}{R:bt}{Ls:dD}{Sh:bt}{mv:Int}(hT:jH p)(h:gI p u D k gs w Y m I J F cc cv q K s G R Ls Sh c mv){x:Nat}{l:aT}{w':World}{es:gW}{H:Tree}(sl:gw)(Q:gs[x]?=g)(S:x=0\/(p.base<=x/\x<gs.size))
    (u2:stepG p.P (x==0) g w=.go l w' es)(v:Tr (Ls x) L w w' es)(T:Tree.sub H (F x))(u3:x=0->G≠.gP)
    (y:∀d,d<m->x=p.base+d->10<=J d/\vR p d (J d) H (cc d) (cv d) (Deaf Y x) l L w')(u4:I=true->x=p.base+p.n->K≠.ret\/s≠0)(W:I=true->x=p.base+p.n->tu p K s H (Deaf Y x) l L)
    (u5:x=0->uZ p G R H (Deaf Y 0) l L):
    ∃t X C,runT p.P (crowd gs w sl) x=(.next t,X)/\pO (p.base+p.n+1) C (meas p m I J F K s G)/\nE p u D k C t (Y++X):=by
  let hd:=v.deaf (Deaf Y x);let o:∀b,Sh b->w'.heap[b]?=w.heap[b]?:=λb hb=>v.keep b (h.res.ml b hb) (h.res.sh x b hb);refine h.qL hT sl Q u2
      {hF:=λi hi=>upd_ne _ _ hi,hL:=λi hi=>upd_ne _ _ hi,PK:=λ_ _ _=>⟨rfl,rfl,rfl⟩,hq:=λi hi=>rfl,PH:=λ_=>⟨rfl,rfl⟩,PI:=λ_=>rfl,Z0:=u3,
        ho:=λh1 h2=>by omega,Z1:=λd f e=>by rw[upd_same,upd_same,hd];exact(y d f e).2,ZY:=λf e=>by rw[upd_same,upd_same,hd];exact W f e,ZZ:=λe=>by subst e;rw[upd_same,upd_same,hd];exact u5 rfl,
        gF:=λd f=>(h.gF d f).imp id λx=>⟨x,λe=>h.pk e d f⟩,less:=λ_ _=>dA _,jm:=h.jm,kk:=h.kk,ncl:=λB e2=>⟨B,e2⟩,NZ:=rfl,res:=h.res.own v _ _,sh:=λ_ h=>h,iC:=h.iC,Zw:=λd f _ h7=>o _ (h.iC d f h7).1,
        same:=h.same.tr v,wg:=h.wg.of_block (o _ h.sO),mode:=λE f _=>h.CL E f,ch:=o _ h.MA,cd:=o _ h.KR,Od:=λd f e hr=>?_,rel:=λd f e h6=>?_,
        said:=λe z a ha hs=>(by rw[xv (v.ev e z) ha] at hs;cases hs),
        norel:=λe z=>rV (v.ev e z) _,xk:=λe z x Q hp=>ar (xv (v.ev e z) Q) hp,rv:=.inl S,acq:=λe hr=>?_,nr:=h.nr,lt:=.inr ⟨rfl,.inl (by rwa[upd_same])⟩}
  · have:=h.Ae hr f
    have:=(y d f e).1;omega
  · have:=(y d f e).1
    omega
  · let⟨qp,h1,h2⟩:=h.acq hr
    let u6:=(h.EI (by rw[hr];simp)).1;refine⟨qp,h1.app λd r f u1=>u1.appOther (λop j=>by let⟨e,z,Q⟩:=Go.Conc.mem_ofEvents j;rw[Q]) M,λex=>?_⟩;rcases u4 u6 e with B | B
    · exact ar hr B
    · exact ar ex B
def adq(f:CTag):pend f<=1:=by cases f <;> simp[pend] <;> (try split) <;> omega
def NW{D:Nat->WD}{u:CTag}{q:Int}(o:ConcN.Mode n D u c q)(i:k<n)(z:(D k).stage=5)(t:n+1<2147483648):q=0/\∃v l:Nat,l<=1/\v<2147483647/\c=((v:Int)+1) *KK+l:=by
 let d:cnt (D k)=1:=by simp[cnt,z]
 let m:1<=Vc n D:=YB
 let g:=Vc_le n D;let a:=adq u;cases o with
 | opn h1 h2 h3=>
  let e:((Vc n D+pend u:Nat):Int)=((Vc n D+pend u - 1:Nat):Int)+1:=M
  refine⟨rfl,Vc n D+pend u - 1,0,M,M,?_⟩;rw[e];simp
 | reg h1 h2 h3=>
  let e:((Vc n D:Nat):Int)=((Vc n D - 1:Nat):Int)+1:=M
  refine⟨rfl,Vc n D - 1,1,M,M,?_⟩;rw[e];simp
 | last L _ h2 h3 h4=>
  by_cases e:k=L
  .subst e;omega
  .have:=h4 k i e;omega
 | sema h2=>have:=h2 k i;omega
 | fin _ h2=>have:=h2 k i;omega
def NX{j:Nat}{D:Nat->WD}{tag:CTag}{d:Int}{m:Int}(o:ConcN.Mode j D tag c d)(i:n<j)(k:(D n).stage=5)(t:m+KK=c):
  (m=1->ConcN.Mode j (upd D n ⟨4,0,0⟩) tag m d)/\(m≠1->ConcN.Mode j (upd D n ⟨1,0,0⟩) tag m d):=by
 let l:cnt (D n)=1:=by simp[cnt,k]
 let y:1<=Vc j D:=YB
 let r:=Vc_upd D (⟨1,0,0⟩:WD) i;let p:=Vc_upd D (⟨4,0,0⟩:WD) i;let c1:cnt (⟨1,0,0⟩:WD)=0:=rfl;let b:cnt (⟨4,0,0⟩:WD)=0:=rfl;let q:KK=4294967296:=rfl;cases o with
 | opn h1 h2 h3=>
  let z:(((Vc j (upd D n ⟨1,0,0⟩)+pend tag:Nat):Int) *KK)=m:=by
   let e:((Vc j D+pend tag:Nat):Int)=((Vc j (upd D n ⟨1,0,0⟩)+pend tag:Nat):Int)+1:=M
   rw[e,Int.add_mul] at t;omega
  refine⟨λh=>?_,λ_=>?_⟩
  .exfalso;rw[h,q] at z;omega
  .rw[<-z];refine .opn h1 (λa s=>?_) (λw ev=>by have:=h3 w ev;omega)
   by_cases e:a=n
   .subst e;rw[upd_same];simp
   .rw[upd_ne D _ e];exact h2 a s
 | reg h1 h2 h3=>
  let z:(((Vc j (upd D n ⟨1,0,0⟩):Nat):Int) *KK+1)=m:=by
   let e:((Vc j D:Nat):Int)=((Vc j (upd D n ⟨1,0,0⟩):Nat):Int)+1:=M
   rw[e,Int.add_mul] at t;omega
  refine⟨λh=>?_,λh=>?_⟩
  .let v:Vc j D=1:=by rw[h,q] at z;omega
   let u:∀a,a<j->a≠n->(D a).stage=1:=λa s e=>by
    let g:=others_uncounted i v l a s e;have:=h2 a s;simp only[cnt] at g
    split at g <;> omega
   have:=ConcN.Mode.last (D:=upd D n ⟨4,0,0⟩) n h1 i (by rw[upd_same];simp) (λa s e=>by rw[upd_ne D _ e];exact u a s e);rw[upd_same] at this;rw[h]
   simpa using this
  .rw[<-z];refine .reg h1 (λa s=>?_) ?_
   .by_cases e:a=n
    .subst e;rw[upd_same];simp
    .rw[upd_ne D _ e];exact h2 a s
   .rcases pU (Vc j (upd D n ⟨1,0,0⟩)) with e0 | e0
    .rw[e0] at z;exact ar z.symm ri
    .exact e0
 | last L _ h2 h3 h4=>
  by_cases e:n=L
  .subst e;omega
  .have:=h4 n i e;omega
 | sema h2=>have:=h2 n i;omega
 | fin _ h2=>have:=h2 n i;omega
def qW{D:Nat->WD}{f:CTag}{u:Int}(o:ConcN.Mode n D f c u)(i:k<n)(h:(D k).stage=4\/(D k).stage=3):c=1/\u=0:=by
 let⟨_,_,q,z⟩:=o.isLast i M;rw[A M] at q;exact⟨q,z⟩
def A0{D:Nat->WD}{f:CTag}{u:Int}(o:ConcN.Mode n D f c u)(i:k<n)(h:(D k).stage=2):c=0/\u=0:=by
 let⟨_,_,q,z⟩:=o.isLast i M;rw[ax h] at q;exact⟨q,z⟩
def xC{j:Nat}{D:Nat->WD}{tag:CTag}{f:Int}(o:ConcN.Mode j D tag c f)(i:n<j)(h:(D n).stage=4\/(D n).stage=3)(q:k=3\/k=2):ConcN.Mode j (upd D n ⟨k,0,0⟩) tag (if k=2 then 0 else 1) 0:=by
 let⟨b,u,_,_⟩:=o.isLast i M;have:=ConcN.Mode.last (D:=upd D n ⟨k,0,0⟩) n b i (by rw[upd_same];simp only;omega) (λa s e=>by rw[upd_ne D _ e];exact u a s e);rw[upd_same] at this;exact this
def JQ{D:Nat->WD}{f:CTag}{q:Int}(o:ConcN.Mode n D f c q)(i:k<n)(h:(D k).stage=2)(s:f≠.blk):f=.w3/\ConcN.Mode n (upd D k ⟨1,0,0⟩) .w3 0 1:=by
 let⟨b,u,_,_⟩:=o.isLast i M;refine⟨by cases f <;> first | rfl | exact b.elim | exact ar rfl s,.sema λa v=>?_⟩
 by_cases e:a=k
 .subst e;rw[upd_same]
 .rw[upd_ne D _ e];exact u a v e
def mr(r:bP)(k s:Nat)(h:s<=7):cB (upd r k s)=upd (cB r) k ⟨s,0,0⟩:=by
 funext a
 by_cases e:a=k
 .subst e;simp[cB,upd_same];congr 1;omega
 .simp[cB,upd_ne _ _ e]
def uh(r:bP)(k s:Nat)(h:min s 7=min (r k) 7):cB (upd r k s)=cB r:=by
 funext a
 by_cases e:a=k
 .subst e;simp[cB,upd_same,h]
 .simp[cB,upd_ne _ _ e]
def Gu{s:Nat}{r:bP}(f:k<m)(t:m<=n)(u:s<r k):AI n m (upd r k s)<AI n m r:=by
 refine vI (i:=k) M (λa _=>?_) ?_
 .by_cases e:a=k
  .subst e;simp[upd_same];split <;> omega
  .simp only[upd_ne _ _ e];exact dA _
 .simp[upd_same,f,if_true];exact u
def Me{r:bP}(u:n=r k):upd r k n=r:=by
 funext a
 by_cases e:a=k
 .subst e;rwa[upd_same]
 .rw[upd_ne _ _ e]
def S7(c:Nat)(h:k<=n)(z:Bool)(x:CTag)(s:Nat):jj c k z x s<=jj c n z x s:=by
 cases x <;> simp[jj] <;> omega
def LU{r:bP}(f:k<n)(u:m<=r k):Vc n (cB (upd r k m))<=Vc n (cB r):=by
 refine Ar λa _=>?_
 by_cases e:a=k
 .subst e;simp only[cB,upd_same,cnt]
  by_cases q:5<=min m 7 <;> by_cases z:5<=min (r a) 7 <;> simp[q,z,if_true,if_false] <;> omega
 .simp only[cB,upd_ne _ _ e];exact dA _
def oD.ajh{u:dD}{p v:bt}(h:oD u D p v w Y)(y:∀i,u i n=none)(q:n<w.heap.size):oD u (λb=>D b\/b=n) p v w Y:=
 {h with sh:=λi b d=>d.elim (h.sh i b) λe=>by subst e;exact y i,ml:=λb d=>d.elim (h.ml b) λe=>by subst e;exact q,qH:=λb d=>.inl (h.qH b d)}
def Z9{l:aT}{i:gW}{d t:Nat}{J y p:Int}{s b:Nat}(h:EX P n k g l w u i d m t c J y p s b):
  (∀e∈i,∀x,(MemAct.ofEvent e).touch?=some x->x.kind=.atomic/\dQ x.loc=n)/\(∀e∈i,MemAct.ofEvent e≠.mark (.release (stA n))):=by
 let K:(∀e∈i,Bk n e)->(∀e∈i,∀x,(MemAct.ofEvent e).touch?=some x->x.kind=.atomic/\dQ x.loc=n)/\(∀e∈i,MemAct.ofEvent e≠.mark (.release (stA n))):=by
  intro o;refine⟨λe z x v=>?_,λe z=>?_⟩
  .let⟨loc,wr,I⟩:=e;rcases o _ z with q | q | ⟨a,wr,q,j⟩
   .subst q;simp[MemAct.ofEvent,MemAct.touch?] at v
   .subst q;simp[MemAct.ofEvent,MemAct.touch?] at v
   .cases q;simp[MemAct.ofEvent,MemAct.touch?,kR] at v;subst v;exact⟨rfl,by rw[<-j];rfl⟩
  .let⟨loc,wr,I⟩:=e;rcases o _ z with q | q | ⟨a,wr,q,j⟩
   .subst q;simp[MemAct.ofEvent]
   .subst q;simp[MemAct.ofEvent]
   .cases q;simp[MemAct.ofEvent]
 cases h with
 | zG _ _ hev _ _=>
  refine⟨λe z x v=>?_,λe z v=>?_⟩
  .let⟨q,_⟩:=hev e z;let⟨_,j⟩:=q 0 "";rcases j x v with⟨⟨a,ha,o⟩,k1,k2⟩ | h3 | ⟨h3,_⟩
   .refine⟨?_,by rw[ha];simp[dQ,o]⟩;cases f:x.kind <;> first | rfl | exact ar f k1 | exact ar f k2
   .exact h3.elim
   .exact h3.elim
  .have:=(hev e z).2.2.2;let⟨loc,wr,I⟩:=e;cases loc with
   | mark m=>simp[MemAct.ofEvent,MemAct.mark.injEq] at v;exact this (by rw[v])
   | obj r=>cases wr <;> cases I <;> simp[MemAct.ofEvent] at v
   | _=>simp[MemAct.ofEvent] at v
 | rel _ z _ _=>
  subst z;refine⟨λe z x v=>?_,λe z=>?_⟩
  .simp at z;subst z;simp[mk,MemAct.ofEvent,MemAct.touch?] at v
  .simp at z;subst z;simp[mk,MemAct.ofEvent]
 | book _ _ o _ _=>exact K o
def qC.ahc{r:Nat}{v:Value}{s d:Nat}(h:qC P n k r v s m d g w)(a:s=7):d=0:=by
 cases h <;> first | rfl | omega
def qC.le7{r:Nat}{v:Value}{s d:Nat}(h:qC P n k r v s m d g w):1<=s/\s<=7:=by
 cases h <;> omega
def vR.aiZ{p:eh}{T:Tree}{v:Value}{d:Nat}(h:vR p k n T m v d g L w)(u:12<=n):n=12:=by
 cases h with
 | own=>rfl
 | gP=>omega
 | post=>omega
 | iC h=>have:=qC.le7 h;omega
def gI.zQ{p:eh}{S0:bt}{n0:Nat}{gs:dr}{j:Nat}{ks:Bool}{H:bP}{F:eN}{cc:bP}{cv:fJ}{q:bP}{kt:CTag}{kx:Nat}{mt:gp}{R:bt}{Ls:dD}{Sh:bt}{mv:Int}(hT:jH p)(h:gI p u S0 n0 gs w Y j ks H F cc cv q kt kx mt R Ls Sh c mv)(f:k<j)(sl:gw)(hx:gs[p.base+k]?=some g)(q3:g.status=.running)
    {d:Nat}{v:Value}{s:Nat}(hl:qC p.P p.ty p.W d v s m (Deaf Y (p.base+k)) g w)
    (hs:(s=H k/\d=cc k/\F (p.base+k)=Tree.num m)\/(s=7/\10<=H k/\H k≠11/\(H k=12->p.mute k)/\∃o,Ls (p.base+k) d=some (o,true))):
    ∃m' q4 vd,runT p.P (crowd gs w sl) (p.base+k)=(.next m',q4)/\pO (p.base+p.n+1) vd (meas p j ks H F kt kx mt)/\nE p u S0 n0 vd m' (Y++q4):=by
  let T:=h.eJ;let z6:=h.jn;let i3:=h.nn;obtain⟨q5,i4⟩:=hl.le7;let z7:(p.base+k==0)=false:=bU
  let z:(cB H k).stage=s:=by
    simp only[cB];rcases hs with⟨e,_⟩ | ⟨e,G,_⟩ <;> omega
  let i5:s<=H k:=by rcases hs with⟨e,_⟩ | ⟨e,G,_⟩ <;> omega
  -- C4 block of its own
  let hc:d≠p.W/\d≠p.C/\d≠p.D/\d<w.heap.size/\(∀i,upd Ls (p.base+k) LH.nil i d=none)/\∀I,I<j->I≠k->H I<=7->cc I≠d:=by
    rcases hs with⟨B,rfl,_⟩ | ⟨_,_,_,_,o,ho⟩
    · obtain⟨h1,h2,h3,h4,h5⟩:=h.iC k f M
      refine⟨h2,h3,h4,h.res.ml _ h1,λi=>?_,h5⟩
      by_cases e:i=p.base+k
      · subst e;rw[upd_same];rfl
      · rw[upd_ne _ _ e];exact h.res.sh i _ h1
    · let hn:∀b,Sh b->d≠b:=λb T e=>by subst e;rw[h.res.sh _ _ T] at ho;cases ho
      refine⟨hn _ h.sO,hn _ h.MA,hn _ h.KR,(h.res.sub (p.base+k)).lt (by rw[ho];simp),λi=>?_,λI J _ h7=>dG (hn _ (h.iC I J h7).1)⟩
      by_cases e:i=p.base+k
      · subst e;rw[upd_same];rfl
      · rw[upd_ne _ _ e];exact h.res.apart _ _ _ _ (dG e) ho
  obtain⟨q6,q7,q8,q9,z8,l⟩:=hc;let X:=h.mode;obtain⟨g',w',es,s',m',q0,q1,z9,q2,v0,Q⟩:=NN q6 hl q3 h.wg (λe=>NW X f F5 M) (λe=>qW X f F5) (λe=>A0 X f F5);obtain⟨i2,K⟩:=q2.le7;obtain⟨u3,v1⟩:=Z9 Q;have i6:s'<=s:=by cases Q with
    | zG=>exact dA _
    | rel=>omega
    | book _ _ _ _ h5=>omega
  let v2:w'.heap.size=w.heap.size/\(∀b,b≠p.W->b≠d->w'.heap[b]?=w.heap[b]?)/\w'.tape=w.tape/\w'.os=w.os/\w'.output=w.output:=by
    cases Q with
    | zG _ ha _ _ _=>exact⟨ha.size,λb _ T=>ha.block b T,ha.tape,ha.os,ha.output⟩
    | rel e _ _ _=>subst e;exact⟨rfl,λ_ _ _=>rfl,rfl,rfl,rfl⟩
    | book _ ha _ _ _=>exact⟨ha.size,λb T _=>ha.block b T,ha.tape,ha.os,ha.output⟩
  obtain⟨d0,E,d3,d4,d5⟩:=v2;let t:∀op∈MemOp.ofEvents (p.base+k) g.frame.fn g.frame.place es,op.g=p.base+k/\∃e∈es,op.act=.ofEvent e:=λop t=>by
    obtain⟨e,he,hx⟩:=Go.Conc.mem_ofEvents t;rw[hx];exact⟨rfl,e,he,rfl⟩
  let v4:oD (upd Ls (p.base+k) LH.nil) (λb=>Sh b\/b=d) (λb=>b=p.W\/b=p.D) (λi=>i=0\/(p.base<=i/\i<gs.size)) w' (Y++MemOp.ofEvents (p.base+k) g.frame.fn g.frame.place es):=by
    refine((h.res.less (i:=p.base+k) (L':=LH.nil) (λb o wr T=>by cases T)).ajh z8 q9).sync (i:=p.base+k) ⟨d0,λb T=>E b (λe=>T (.inl (e▸h.sO))) (λe=>T (.inr e))⟩ (.inr ⟨M,h.lt_size f⟩) (λop ho=>(t op ho).1) λop ho x hx=>?_;obtain⟨_,e,he,v5⟩:=t op ho;rw[v5] at hx;obtain⟨h1,h2⟩:=u3 e he x hx;exact⟨by rw[h1];simp,⟨_,h2,.inl rfl⟩,λh3=>by rw[h1] at h3;cases h3⟩
  let v6:Vc j (cB (upd H k s'))<=Vc j (cB H):=LU f M;let u4:∀I,p.base+I≠p.base+k->upd H k s' I=H I/\upd cc k d I=cc I/\upd cv k v I=cv I:=λI e=>by
    have:I≠k:=λx=>e (by rw[x]);exact⟨upd_ne _ _ this,upd_ne _ _ this,upd_ne _ _ this⟩
  refine h.qL hT sl hx (by rw[z7];exact z9) (st':=upd H k s') (F':=upd F (p.base+k) (Tree.num m')) (cc':=upd cc k d) (cv':=upd cv k v) (q':=q) (kt':=kt) (kx':=kx) (mt':=mt) (Ls':=upd Ls (p.base+k) LH.nil) (Sh':=λb=>Sh b\/b=d) (sv':=q0) (mv':=q1)
      {hF:=λi hi=>upd_ne _ _ hi,hL:=λi hi=>upd_ne _ _ hi,PK:=λI _ e=>u4 I e,hq:=λi hi=>rfl,PH:=λ_=>⟨rfl,rfl⟩,PI:=λ_=>rfl,Z0:=λe=>by omega,
        ho:=λh1 h2=>by omega,Z1:=λI J e=>?_,ZY:=λ_ e=>by omega,ZZ:=λe=>by omega,
        gF:=λI J=>?_,less:=λI J=>?_,jm:=h.jm,kk:=h.kk,ncl:=λB G=>⟨B,G⟩,NZ:=rfl,res:=v4,sh:=λ_ h=>.inl h,iC:=λI J h7=>?_,Zw:=λI J u2 h7=>?_,
        same:=⟨d3.trans h.same.tape,h.same.os.eq d4,d5.trans h.same.out⟩,wg:=v0,mode:=λu1 v7 hw=>?_,ch:=E _ (dG h.HH) (dG q7),cd:=E _ (dG h.HI) (dG q8),Od:=λI J e hr r u5=>?_,rel:=λI J e h6=>?_,
        said:=λe he a ha v8=>(by rw[(u3 e he a ha).1] at v8;cases v8),
        norel:=v1,xk:=λe he x hx _=>⟨_,(u3 e he x hx).2,.inl rfl⟩,rv:=.inl (.inr ⟨M,h.lt_size f⟩),acq:=λe hr=>by omega,nr:=λI J hR v9=>?_,lt:=?_}
  · obtain rfl:I=k:=by omega
    rw[upd_same,upd_same,upd_same,upd_same,upd_same];exact .iC q2
  · by_cases e:I=k
    · subst e;rw[upd_same];exact .inl K
    · rw[upd_ne _ _ e];exact(h.gF I J).imp id λx=>⟨x,λe=>h.pk e I J⟩
  · by_cases e:I=k
    · subst e;rw[upd_same];omega
    · rw[upd_ne _ _ e];exact dA _
  · by_cases e:I=k
    · subst e
      rw[upd_same];refine⟨.inr rfl,q6,q7,q8,λu9 u6 u2 u7=>?_⟩;rw[upd_ne _ _ u2] at u7 ⊢;exact l u9 u6 u2 u7
    · rw[upd_ne _ _ e] at h7 ⊢
      obtain⟨h1,h2,h3,h4,h5⟩:=h.iC I J h7;refine⟨.inl h1,h2,h3,h4,λu9 u6 u2 u7=>?_⟩
      by_cases G:u9=k
      · subst G
        rw[upd_same];exact λS=>l I J e h7 S.symm
      · rw[upd_ne _ _ G] at u7 ⊢
        exact h5 u9 u6 u2 u7
  · let e:I≠k:=λx=>u2 (by rw[x])
    exact E _ (h.iC I J h7).2.1 (l I J e h7)
  · let hm:=h.CL u1 v7
    let u8:s'=s->q0=c->q1=mv->ConcN.Mode j (cB (upd H k s')) (lC u1 mt) q0 q1:=by
      intro B G S;rw[G,S,uh H k s' (by simp only[cB] at z;omega)];exact hm
    cases Q with
    | zG _ _ _ B G=>exact u8 rfl B G
    | rel _ _ B G=>
      rw[B,G,mr _ _ _ K];exact hm.counted f M (.inl rfl) 0 0
    | book _ _ _ _ h5=>
      rcases h5 with⟨B,_,G,S⟩ | ⟨B,G,S,e4⟩ | ⟨B,G,S,e4⟩ | ⟨B,G,S,e4⟩ | ⟨B,G,S,e4⟩ | ⟨B,G,S,e4,e5,e6⟩
      · exact u8 B G S
      · rw[S,e4,mr _ _ _ K,G]
        exact hm.counted f M (.inr rfl) 0 0
      · rw[S,mr _ _ _ K]
        obtain⟨d1,d2⟩:=NX hm f M G;rcases e4 with⟨e4,e5⟩ | ⟨e4,e5⟩
        · rw[e5];exact d1 e4
        · rw[e5];exact d2 e4
      · obtain⟨z1,z2⟩:=qW hm f M
        rw[S,e4,mr _ _ _ K,G,z1,z2];exact xC hm f M (.inl rfl)
      · obtain⟨z1,z2⟩:=qW hm f M
        rw[S,e4,mr _ _ _ K,G,z2];exact xC hm f M (.inr rfl)
      · obtain⟨z1,z2⟩:=A0 hm f M
        let d6:kt≠.kd:=by
          intro e;obtain⟨z3,_⟩:=hm.isLast f M;rcases v7 with e7 | ⟨e7,_⟩
          · rw[e7,e] at z3
            cases mt <;> exact z3.elim
          · rw[e] at e7;cases e7
        obtain⟨d7,d8⟩:=h.EI d6;let d9:lC u1 mt=u1:=by rcases d8 with e | e <;> rw[e] <;> rfl
        let i0:=hw M d7 e5 e6;rw[d9] at hm ⊢;obtain⟨f1,f2⟩:=JQ hm f M i0;rw[S,e4,mr _ _ _ K,G,z1,f1];exact f2
  · obtain rfl:I=k:=by omega
    have h1:=h.Ae hr f;have q5:s=1:=M
    subst q5;cases Q with
    | book _ _ T hd _=>exact u5.book rfl _ _ T hd
  · obtain rfl:I=k:=by omega
    rw[upd_same] at h6;have z4:=hl.ahc;clear hl q2;generalize z5:Deaf Y (p.base+I)=dd at Q z4;cases Q with
    | zG=>omega
    | rel _ he _ _=>
      subst he;exact⟨Y.size,h.xZ.len,RelBy.new (z5.trans (z4 rfl)) _ _⟩
    | book h6' _ T hd _=>
      obtain⟨r,hr,u5⟩:=h.rel I f (by rcases hs with⟨e,_⟩ | ⟨e,_⟩ <;> omega);exact⟨r,hr,u5.book z5 _ _ T hd⟩
  · by_cases e:I=k
    · subst e
      rw[upd_same]
      right
      refine⟨K,?_⟩;rcases h.nr I J hR v9 with h1 | ⟨_,h1⟩
      · rcases hs with⟨e,_⟩ | ⟨_,_,e,hm,_⟩
        · omega
        · have:H I=12:=by
            obtain⟨y,hy,hw⟩:=h.cast.wk I f Qt;exact hw.aiZ M
          exact hm this
      · exact h1
    · rw[upd_ne _ _ e];exact h.nr I J hR v9
  · have i7:=S7 p.n v6 ks kt kx
    by_cases e:s'<H k
    · left
      have:=Gu (n:=p.n) f z6 e;omega
    · right
      have es:s'=H k:=M
      have u4:upd H k s'=H:=Me es;refine⟨by rw[u4],.inl ?_⟩;rw[upd_same];have G:s=H k:=M
      rcases hs with⟨_,_,hF⟩ | ⟨S,e4,_⟩
      · rw[hF]
        have i1:m'+1=m:=by
          cases Q with
          | zG e7=>exact e7
          | rel=>omega
          | book _ _ _ _ h5=>omega
        rw[<-i1];exact Tree.Aa w m'
      · omega
def gI.sM{p:eh}{gs:dr}{ks:Bool}{r:bP}{F:eN}{cc:bP}{cv:fJ}{q:bP}{X:CTag}{s:Nat}{G:gp}{R:bt}{Ls:dD}{Sh:bt}{mv:Int}(hT:jH p)(h:gI p u D k gs w Y m ks r F cc cv q X s G R Ls Sh c mv)(u2:ks=true){l:aT}{w':World}{H:gW}(sl:gw)(J:gs[p.base+p.n]?=some g)
    (u3:stepG p.P false g w=.go l w' H)(v:Aside p.W w w')
    (Q:∀e∈H,(∀x,(MemAct.ofEvent e).touch?=some x->x.kind≠.plain/\dQ x.loc=some p.W/\(x.kind=.said->x.loc=.cell (smA p.W)))/\MemAct.ofEvent e≠.mark (.release (stA p.W)))
    {kt':CTag}{kx':Nat}{T':Tree}{sv' mv':Int}(y:tu p kt' kx' T' (deafBehind (Deaf Y (p.base+p.n)) H) l (Ls (p.base+p.n)))(u4:WgAt p.ty p.W w' sv' mv')
    (S:ConcN.Mode m (cB r) kt' sv' mv')(C:eF kt' kx'=eF X s)
    (B:kt'=.ret->∃qp,Ij p k (Y++MemOp.ofEvents (p.base+p.n) g.frame.fn g.frame.place H) qp/\(kx'=0->MG p (Y++MemOp.ofEvents (p.base+p.n) g.frame.fn g.frame.place H) qp))
    (I:jj p.n (Vc m (cB r)) true kt' kx'<jj p.n (Vc m (cB r)) true X s\/(jj p.n (Vc m (cB r)) true kt' kx'=jj p.n (Vc m (cB r)) true X s/\(Tree.sub T' (F (p.base+p.n))\/(T'=F (p.base+p.n)/\bit kt' kx'<bit X s)))):
    ∃m' E vd,runT p.P (crowd gs w sl) (p.base+p.n)=(.next m',E)/\pO (p.base+p.n+1) vd (meas p m ks r F X s G)/\nE p u D k vd m' (Y++E):=by
  subst u2;let hb:=h.eJ;let q2:=BL h.jm rfl;let u5:=h.size;simp[yS] at u5;let u6:(p.base+p.n==0)=false:=bU
  let u7:G=.sN\/G=.gP:=by
    have:=h.jm;cases G <;> simp[JB] at this ⊢
  let j:∀d,lC d G=d:=λd=>by rcases u7 with e | e <;> rw[e] <;> rfl
  let t:∀T∈MemOp.ofEvents (p.base+p.n) g.frame.fn g.frame.place H,T.g=p.base+p.n/\∃e∈H,T.act=.ofEvent e:=λT t=>by
    let⟨e,z,J⟩:=Go.Conc.mem_ofEvents t;rw[J];exact⟨rfl,e,z,rfl⟩
  let K:p.base<=p.base+p.n/\p.base+p.n<gs.size:=⟨M,M⟩;refine h.qL hT sl J (by rwa[u6])
      {hF:=λi hi=>upd_ne _ _ hi,hL:=λi hi=>rfl,PK:=λ_ _ _=>⟨rfl,rfl,rfl⟩,hq:=λi hi=>rfl,PH:=λe=>ar rfl e,PI:=λ_=>rfl,Z0:=λe=>by omega,
        ho:=λh1 h2=>by omega,Z1:=λd f e=>by omega,ZY:=λ_ _=>by rwa[upd_same],ZZ:=λe=>by omega,
        gF:=λd f=>(h.gF d f).imp id λx=>⟨x,λe=>h.pk e d f⟩,less:=λ_ _=>dA _,jm:=h.jm,kk:=λe=>eA,ncl:=λe1 e2=>zr (by rw[<-C,e1,e2];rfl),NZ:=C,
        res:=h.res.sync ⟨v.size,λb hb=>v.block b λe=>hb (e▸h.sO)⟩ (.inr K) (λT ho=>(t T ho).1) λT ho x J=>?_,sh:=λ_ h=>h,iC:=h.iC,Zw:=λd f _ h7=>v.block _ (h.iC d f h7).2.1,
        same:=⟨v.tape.trans h.same.tape,h.same.os.eq v.os,v.output.trans h.same.out⟩,wg:=u4,mode:=λq1 f _=>?_,ch:=v.block _ (dG h.HH),cd:=v.block _ (dG h.HI),Od:=λd f e hr=>by omega,rel:=λd f e h6=>by omega,
        said:=λe z a ha hs=>⟨λe=>eA,λ_=>rfl⟩,
        norel:=λe z=>(Q e z).2,xk:=λe z x J _=>⟨_,((Q e z).1 x J).2.1,.inl rfl⟩,rv:=.inl (.inr K),acq:=λ_=>B,nr:=h.nr,lt:=?_}
  · let⟨_,e,z,u1⟩:=t T ho
    rw[u1] at J;let⟨h1,h2,h3⟩:=(Q e z).1 x J;exact⟨h1,⟨_,h2,.inl rfl⟩,λhs u8 a ha o u9=>(h.said u8 a ha (o.trans (h3 hs)) u9).2 rfl⟩
  · rw[j];exact S.retag f
  · rcases I with I | ⟨q0,I⟩
    · left;omega
    · right
      rw[q0,upd_same];exact⟨rfl,I.imp id λx=>⟨rfl,x⟩⟩
def Jm(W:Nat):∀e∈#[rd (stA W)],(∀x,(MemAct.ofEvent e).touch?=some x->x.kind≠.plain/\dQ x.loc=W/\(x.kind=.said->x.loc=.cell (smA W)))/\MemAct.ofEvent e≠.mark (.release (stA W)):=by
 intro e z;simp at z;subst z;refine⟨λx u=>?_,by simp[rd,MemAct.ofEvent]⟩;simp[rd,MemAct.ofEvent,MemAct.touch?,kR] at u;subst u;exact⟨U,rfl,λh=>by simp at h⟩
def Po(W:Nat):∀e∈#[rd (stA W),wr (stA W)],(∀x,(MemAct.ofEvent e).touch?=some x->x.kind≠.plain/\dQ x.loc=W/\(x.kind=.said->x.loc=.cell (smA W)))/\MemAct.ofEvent e≠.mark (.release (stA W)):=by
 intro e z;simp at z;rcases z with rfl | rfl
 .refine⟨λx u=>?_,by simp[rd,MemAct.ofEvent]⟩;simp[rd,MemAct.ofEvent,MemAct.touch?,kR] at u;subst u;exact⟨U,rfl,λh=>by simp at h⟩
 .refine⟨λx u=>?_,by simp[wr,MemAct.ofEvent]⟩;simp[wr,MemAct.ofEvent,MemAct.touch?,kR] at u;subst u;exact⟨U,rfl,λh=>by simp at h⟩
def XU(W:Nat):∀e∈semEvents (smA W),(∀x,(MemAct.ofEvent e).touch?=some x->x.kind≠.plain/\dQ x.loc=W/\(x.kind=.said->x.loc=.cell (smA W)))/\MemAct.ofEvent e≠.mark (.release (stA W)):=by
 intro e z;simp[semEvents] at z;rcases z with rfl | rfl | rfl | rfl
 .exact⟨λx u=>by simp[MemAct.ofEvent,MemAct.touch?] at u,lX⟩
 .refine⟨λx u=>?_,lX⟩;simp[MemAct.ofEvent,MemAct.touch?,kR] at u;subst u;exact⟨U,rfl,λh=>by simp at h⟩
 .refine⟨λx u=>?_,lX⟩;simp[MemAct.ofEvent,MemAct.touch?,kR] at u;subst u;exact⟨U,rfl,λh=>by simp at h⟩
 .exact⟨λx u=>by simp[MemAct.ofEvent,MemAct.touch?] at u,lX⟩
def zA{m:Mark}(W:Nat)(q:∀a,m≠.release a)(z:(∀a,m≠.read a/\m≠.write a)\/m=.write (smA W)\/m=.read (smA W)):∀e∈#[mk m],(∀x,(MemAct.ofEvent e).touch?=some x->x.kind≠.plain/\dQ x.loc=W/\(x.kind=.said->x.loc=.cell (smA W)))/\MemAct.ofEvent e≠.mark (.release (stA W)):=by
 intro e v;simp at v;subst v;refine⟨λx u=>?_,by simp only[mk,MemAct.ofEvent];exact λe=>q _ (MemAct.mark.inj e)⟩;rcases z with z | rfl | rfl
 .cases m <;> simp[mk,MemAct.ofEvent,MemAct.touch?] at u <;> first | exact ar rfl (z _).1 | exact ar rfl (z _).2 | cases u
 .simp[mk,MemAct.ofEvent,MemAct.touch?,kR] at u;subst u;exact⟨U,rfl,λ_=>rfl⟩
 .simp[mk,MemAct.ofEvent,MemAct.touch?,kR] at u;subst u;exact⟨U,rfl,λ_=>rfl⟩
def allQuit_of{D:Nat->WD}(h:OpenSt n D)(g:Vc n D=0):AllQuit n D:=by
 intro a s;have:=le_sumTo (f:=λx=>cnt (D x)) s;simp[Vc] at g;let u:cnt (D a)=0:=M
 simp only[cnt] at u;have:=h a s
 split at u <;> omega
def gI.ahr{p:eh}{S0:bt}{gs:dr}{j:Nat}{ks:Bool}{st:bP}{F:eN}{cc:bP}{cv:fJ}{q:bP}{kt:CTag}{mt:gp}{R:bt}{i:dD}{Sh:bt}{mv:Int}(hT:jH p)(hA:∀g L,p.Anch g L->Way p.P false p.Φ (U5 p) g L)(h:gI p u S0 k gs w Y j ks st F cc cv q kt m mt R i Sh c mv)(u7:ks=true)(b:gw)(H:gs[p.base+p.n]?=some g)(Q:g.status=.running)
  (f:tu p kt m (F (p.base+p.n)) (Deaf Y (p.base+p.n)) g (i (p.base+p.n)))(u8:∀T,¬(kt=.ret/\m=1/\vn p g (i (p.base+p.n))/\T=.leaf/\F (p.base+p.n)=T)):
  ∃t X C,runT p.P (crowd gs w b) (p.base+p.n)=(.next t,X)/\pO (p.base+p.n+1) C (meas p j ks st F kt m mt)/\nE p u S0 k C t (Y++X):=by
 subst u7;let hb:=h.eJ;let q3:=BL h.jm rfl;let u9:=h.size;simp only[yS] at u9;let q1:(p.base+p.n==0)=false:=bU
 let q2:mt=.sN\/mt=.gP:=by
  have:=h.jm;cases mt <;> simp[JB] at this ⊢
 let hm:=h.mode;let u4:lC kt mt=kt:=by rcases q2 with e | e <;> rw[e] <;> rfl
 rw[u4] at hm;let hV:=Vc_le j (cB st);let q4:=h.nn;let y:=h.wg;let u5:=h.res.sub (p.base+p.n)
 -- an own step
 have own:∀{S:cg} {kt':CTag} {kx':Nat},kt=kt'->m=kx'->eF kt' kx'=false->(∀G E v,At p.P false p.Φ S G E v->tu p kt' kx' G (Deaf Y (p.base+p.n)) E v)->
   (∀w,Sub (i (p.base+p.n)) w->p.Φ w->∃E w' es v G,stepG p.P false g w=.go E w' es/\Tr (i (p.base+p.n)) v w w' es/\At p.P false p.Φ S G E v/\Tree.sub G (F (p.base+p.n)))->
   ∃t X C,runT p.P (crowd gs w b) (p.base+p.n)=(.next t,X)/\pO (p.base+p.n+1) C (meas p j true st F kt m mt)/\nE p u S0 k C t (Y++X):=by
  intro S kt' kx' e1 e2 hc hK J;subst e1 e2;obtain⟨E,w',es,v,G,a,z,h3,h4⟩:=J w u5 ⟨_,_,h.wg⟩;exact h.wU hT b H (.inr ⟨M,M⟩) (by rw[q1];exact a) z h4 (λe=>by omega) (λd f e=>by omega) (λ_ _=>by
   by_cases e1:kt=.ret
   .by_cases e2:m=0
    .subst e1 e2;cases hc
    .exact .inr e2
   .exact .inl e1) (λ_ _=>hK _ _ _ h3) (λe=>by omega)
 generalize o:F (p.base+p.n)=T0 at f;generalize I:Deaf Y (p.base+p.n)=d0 at f;cases f with
 | Ms dq=>
  rcases dq.cases with⟨⟨_,E,K,B⟩,hl⟩ | ⟨_,J⟩
  .obtain⟨G,s⟩:=B.at;refine h.sM hT rfl b H (K w) (.refl _ w) (zA _ U (.inl U)) (kt':=.w1) (kx':=0) (T':=G) (by rw[I];exact .ld s) y ?_ rfl U (.inl ?_)
   .cases hm with
    | opn a z h3=>exact ConcN.Mode.opn (tag:=.w1) trivial z U
    | reg a=>exact a.elim
    | last L a=>exact a.elim
    | fin a=>exact a.elim
   .simp only[jj,if_true];omega
  .exact own rfl rfl rfl (λ_ _ _ x=>by rw[I];exact .Ms x) xS
 | ld dq=>
  rcases dq.cases with⟨⟨_,⟨qJ,afd,ahn⟩,hv⟩,hl⟩ | ⟨_,J⟩
  .cases hm with
   | reg a=>exact a.elim
   | last L a=>exact a.elim
   | fin a=>exact a.elim
   | opn a z h3=>
    simp only[pend,pT] at y;rcases pU (Vc j (cB st)) with e0 | e0
    .obtain⟨G,s⟩:=ahn.at;rw[e0] at y;have u3:WgAt p.ty p.W w 0 0:=by simpa using y
     refine h.sM hT rfl b H (afd w u3) (.refl _ w) (Jm _) (kt':=.ke) (kx':=0) (T':=G) (by rw[I];exact .Jd s) u3 (.fin trivial (allQuit_of z e0)) rfl U (.inl ?_);simp only[jj];omega
    .obtain⟨E,K,B⟩:=hv (Vc j (cB st)) e0 M;obtain⟨G,s⟩:=B.at;refine h.sM hT rfl b H (K w y) (.refl _ w) (Jm _) (kt':=.w2 (Vc j (cB st))) (kx':=0) (T':=G) (by rw[I];exact .O8 s) y ?_ rfl U (.inl ?_)
     .have:=ConcN.Mode.opn (tag:=.w2 (Vc j (cB st))) (j:=j) (D:=cB st) trivial z (λvs e=>by cases e;exact⟨dA _,e0⟩)
      simpa [pend] using this
     .simp only[jj];omega
  .exact own rfl rfl rfl (λ_ _ _ x=>by rw[I];exact .ld x) xS
 | @O8 vs T0 _ _ dq=>
  rcases dq.cases with⟨⟨_,⟨acJ,afe,aho⟩,⟨kF,aff,ahp⟩⟩,hl⟩ | ⟨_,J⟩
  .cases hm with
   | reg a=>exact a.elim
   | last L a=>exact a.elim
   | fin a=>exact a.elim
   | opn a z h3=>
    simp only[pend,pT] at y;obtain⟨v1,v2⟩:=h3 vs rfl
    by_cases e:Vc j (cB st)=vs
    .rw[e] at y;obtain⟨G,s⟩:=aho.at;refine h.sM hT rfl b H (afe w y) (aside_setCell w (stA p.W) _) (Po _) (kt':=.w3) (kx':=1) (T':=G) (by rw[I];exact .said s) (y.setSt _) ?_ rfl U (.inl ?_)
     .have:=ConcN.Mode.reg (tag:=.w3) (j:=j) (D:=cB st) trivial z M;rw[e] at this;exact this
     .simp only[jj];omega
    .obtain⟨G,s⟩:=(ahp.bind hA).at;refine h.sM hT rfl b H (aff w _ e M y) (.refl _ w) (Jm _) (kt':=.w1) (kx':=0) (T':=G) (by rw[I];exact .ld s) y ?_ rfl U (.inl ?_)
     .have:=ConcN.Mode.opn (tag:=.w1) (j:=j) (D:=cB st) trivial z U
      simpa [pend] using this
     .simp only[jj];omega
  .exact own rfl rfl rfl (λ_ _ _ x=>by rw[I];exact .O8 x) xS
 | said dq=>
  rcases dq.cases with⟨⟨_,E,K,B⟩,hl⟩ | ⟨_,J⟩
  .obtain⟨G,s⟩:=B.at;exact h.sM hT rfl b H (K w) (.refl _ w) (zA _ U (.inr (.inl rfl))) (kt':=.w3) (kx':=0) (T':=G) (by rw[I];exact .KD s) y hm rfl U (.inl Lr)
  .exact own rfl rfl rfl (λ_ _ _ x=>by rw[I];exact .said x) xS
 | KD dq=>
  rcases dq.cases with⟨hs,hl⟩ | ⟨_,J⟩
  .obtain⟨_,_,u6,E,K,B⟩:=id hs;have u2:mv=0->∃t X C,runT p.P (crowd gs w b) (p.base+p.n)=(.next t,X)/\pO (p.base+p.n+1) C (meas p j true st F .w3 0 mt)/\nE p u S0 k C t (Y++X):=by
    intro e;subst e;refine h.sM hT rfl b H (u6 w c y) (.refl _ w) U (kt':=.blk) (kx':=0) (T':=.leaf) (by rw[I];exact .blk hs) y ?_ rfl U (.inr ⟨rfl,.inr ⟨by rw[o,hl],by simp[bit]⟩⟩);cases hm with
    | opn a=>exact a.elim
    | reg a z h3=>exact .reg trivial z h3
    | last L a z h3 h4=>exact .last L trivial z h3 h4
    | fin a=>exact a.elim
   cases hm with
   | opn a=>exact a.elim
   | reg a z h3=>exact u2 rfl
   | last L a z h3 h4=>exact u2 rfl
   | sema z=>
    obtain⟨G,s⟩:=B.at;exact h.sM hT rfl b H (K w y) (aside_setCell w (smA p.W) _) (XU _) (kt':=.w4) (kx':=0) (T':=G) (by rw[I];simpa [deafBehind,semEvents] using tu.l4 s) (y.setSm 0) (.fin trivial z) rfl U (.inl Lr)
   | fin a=>exact a.elim
  .exact own rfl rfl rfl (λ_ _ _ x=>by rw[I];exact .KD x) xS
 | blk hs=>cases Q
 | l4 dq=>
  rcases dq.cases with⟨⟨_,E,K,B⟩,hl⟩ | ⟨_,J⟩
  .cases hm with
   | opn a=>exact a.elim
   | reg a=>exact a.elim
   | last L a=>exact a.elim
   | fin a z=>
    obtain⟨G,s⟩:=B.at;exact h.sM hT rfl b H (K w y) (.refl _ w) (Jm _) (kt':=.ke) (kx':=0) (T':=G) (by rw[I];exact .Jd s) y (.fin trivial z) rfl U (.inl Lr)
  .exact own rfl rfl rfl (λ_ _ _ x=>by rw[I];exact .l4 x) xS
 | Jd dq=>
  rcases dq.cases with⟨⟨_,E,K,B⟩,hl⟩ | ⟨_,J⟩
  .cases hm with
   | opn a=>exact a.elim
   | reg a=>exact a.elim
   | last L a=>exact a.elim
   | fin a z=>
    obtain⟨G,s⟩:=B.at;exact h.sM hT rfl b H (K w) (.refl _ w) (zA _ U (.inl U)) (kt':=.acq) (kx':=0) (T':=G) (by rw[I];exact .acq s) y (.fin trivial z) rfl U (.inl Lr)
  .exact own rfl rfl rfl (λ_ _ _ x=>by rw[I];exact .Jd x) xS
 | acq dq=>
  rcases dq.cases with⟨⟨_,E,K,B⟩,hl⟩ | ⟨_,J⟩
  .cases hm with
   | opn a=>exact a.elim
   | reg a=>exact a.elim
   | last L a=>exact a.elim
   | fin a z=>
    obtain⟨G,s⟩:=B.at;refine h.sM hT rfl b H (K w) (.refl _ w) (zA _ U (.inl U)) (kt':=.ret) (kx':=1) (T':=G) (by rw[I];exact .cls s) y (.fin trivial z) rfl (λ_=>⟨Y.size,?_,λe=>by cases e⟩) (.inl Lr);have e1:MemOp.ofEvents (p.base+p.n) g.frame.fn g.frame.place #[Go.ConcR.mk (.acquire (stA p.W))]=(#[{g:=p.base+p.n,fn:=g.frame.fn,pos:=g.frame.place,act:=MemAct.mark (Mark.acquire (stA p.W))}]:Array MemOp):=by rw[ofEvents_eq];simp[Go.ConcR.mk,MemAct.ofEvent]
    rw[e1];refine⟨by simp[Trace.act?],by simp[Trace.g?],⟨p.base+p.n,by simp[Trace.g?],by rw[deaf_old (dA _)];exact I⟩,λd f=>?_⟩;obtain⟨r,hr,u1⟩:=h.rel d M (by have:=z d M;simp only[cB] at this;omega);exact⟨r,hr,u1.appOther (g:=p.base+p.n) U M,lt_of_act? u1.act⟩
  .exact own rfl rfl rfl (λ_ _ _ x=>by rw[I];exact .acq x) xS
 | cls dq=>
  rcases dq.cases with⟨hc,hl⟩ | ⟨_,J⟩
  .exact ar ⟨rfl,rfl,hc,hl,o⟩ (u8 _)
  .exact own rfl rfl rfl (λ_ _ _ x=>by rw[I];exact .cls x) xS
 | @quit q0 d0 _ _ hq=>
  cases q0 with
  | zero=>rw[hq.1] at Q;cases Q
  | succ l=>
   rcases hq with⟨hf,_⟩ | ⟨_,E,es,hmu,wT,Mt⟩
   .rw[hf] at Q;cases Q
   have B:∀e∈es,(MemAct.ofEvent e).touch?=none:=λe he=>touch_mute (hmu e he);refine h.sM hT rfl b H (wT w) (.refl _ w) (λe he=>⟨λx H=>(by rw[B e he] at H;cases H),λe1=>?_⟩) (kt':=.ret) (kx':=0) (T':=Tree.num l) (by rw[I];exact .quit Mt) y hm rfl (λ_=>?_) (.inr ⟨rfl,.inl (by rw[o];exact Tree.Aa w l)⟩)
   .have:=hmu e he;obtain⟨loc,wr,sy⟩:=e;cases loc with
    | mark l=>cases l <;> simp_all [Event.mute,MemAct.ofEvent]
    | _=>simp[Event.mute] at this
   .obtain⟨qp,a,z⟩:=h.acq rfl;refine⟨qp,a.app λd r f u1=>u1.appOther (g:=p.base+p.n) (λop ho=>by obtain⟨e,he,H⟩:=Go.Conc.mem_ofEvents ho;rw[H]) M,λ_=>(z rfl).app λop ho _=>?_⟩;obtain⟨e,he,H⟩:=Go.Conc.mem_ofEvents ho;rw[H];exact B e he
end
section
open Go.ConcN
open Go.ConcR (KK wgBlock WgAt stA smA rd wr Payload Aside2 DC0 Bk bk_of_mute)
def gI.lr{p:eh}{B:dr}{r:bP}{F:eN}{cc:bP}{cv:fJ}{q:bP}{E:CTag}{s:Nat}{C:gp}{R:bt}{Ls:dD}{Sh:bt}{mv:Int}(hT:jH p)(h:gI p u D k B w Y m false r F cc cv q E s C R Ls Sh c mv){l:aT}{w':World}{H:gW}(sl:gw)(I:B[0]?=some g)
    (u1:stepG p.P true g w=.go l w' H)(v:Aside p.W w w')
    (J:∀e∈H,(∀x,(MemAct.ofEvent e).touch?=some x->x.kind≠.plain/\dQ x.loc=some p.W/\(x.kind=.said->x.loc=.cell (smA p.W)))/\MemAct.ofEvent e≠.mark (.release (stA p.W)))
    {mt':gp}{T':Tree}{sv' mv':Int}(y:uZ p mt' R T' (deafBehind (Deaf Y 0) H) l (Ls 0))(u2:WgAt p.ty p.W w' sv' mv')(Q:mt'≠.gP)(u7:C≠.gP)(u3:JB p.n m false mt')
    (K:ConcN.Mode m (cB r) (lC E mt') sv' mv')(u8:lV mt'<lV C):
    ∃m' S T,runT p.P (crowd B w sl) 0=(.next m',S)/\pO (p.base+p.n+1) T (meas p m false r F E s C)/\nE p u D k T m' (Y++S):=by
  let hb:=h.eJ;obtain⟨rfl,rfl⟩:=h.kk rfl;let t:∀G∈MemOp.ofEvents 0 g.frame.fn g.frame.place H,G.g=0/\∃e∈H,G.act=.ofEvent e:=λG t=>by
    let⟨e,z,I⟩:=Go.Conc.mem_ofEvents t;rw[I];exact⟨rfl,e,z,rfl⟩
  refine h.qL hT sl I u1
      {hF:=λi hi=>upd_ne _ _ hi,hL:=λi hi=>rfl,PK:=λ_ _ _=>⟨rfl,rfl,rfl⟩,hq:=λi hi=>rfl,PH:=λe=>⟨rfl,rfl⟩,PI:=λe=>ar rfl e,Z0:=λe=>Q,
        ho:=λh1 h2=>by omega,Z1:=λd f e=>by omega,ZY:=λe=>eA,ZZ:=λe=>by rwa[upd_same],
        gF:=λd f=>(h.gF d f).imp id λx=>⟨x,λe=>ar e Q⟩,less:=λ_ _=>dA _,jm:=u3,kk:=λe=>⟨rfl,rfl⟩,ncl:=λe1 e2=>(by cases e1),NZ:=rfl,
        res:=h.res.sync ⟨v.size,λb hb=>v.block b λe=>hb (e▸h.sO)⟩ (.inl rfl) (λG j=>(t G j).1) λG j x I=>?_,sh:=λ_ h=>h,iC:=h.iC,Zw:=λd f _ h7=>v.block _ (h.iC d f h7).2.1,
        same:=⟨v.tape.trans h.same.tape,h.same.os.eq v.os,v.output.trans h.same.out⟩,wg:=u2,mode:=λu6 f _=>?_,ch:=v.block _ (dG h.HH),cd:=v.block _ (dG h.HI),Od:=λd f e hr=>by omega,rel:=λd f e h6=>by omega,
        said:=λe z a ha hs=>⟨λ_=>rfl,λe=>eA⟩,
        norel:=λe z=>(J e z).2,xk:=λe z x I _=>⟨_,((J e z).1 x I).2.1,.inl rfl⟩,rv:=.inl (.inl rfl),acq:=λe=>by omega,nr:=h.nr,lt:=.inl M}
  · let⟨_,e,z,X⟩:=t G j
    rw[X] at I;let⟨h1,h2,h3⟩:=(J e z).1 x I;exact⟨h1,⟨_,h2,.inl rfl⟩,λhs u4 a ha o u5=>(h.said u4 a ha (o.trans (h3 hs)) u5).1 rfl⟩
  · rcases f with rfl | ⟨e,_⟩
    · exact K
    · cases e
def gI.ahC{p:eh}{S0:bt}{gs:dr}{j:Nat}{z:Bool}{G:bP}{F:eN}{cc:bP}{cv:fJ}{q:bP}{kt:CTag}{E:gp}{R:bt}{i:dD}{Sh:bt}{f:Int}(hT:jH p)(h:gI p u S0 k gs w Y j z G F cc cv q kt m E R i Sh c f)(b:gw)(hx:gs[0]?=some g)
  (hm:uZ p E R (F 0) (Deaf Y 0) g (i 0))(u1:g.status=.running):
  (∃t H Q,runT p.P (crowd gs w b) 0=(.next t,H)/\pO (p.base+p.n+1) Q (meas p j z G F kt m E)/\nE p u S0 k Q t (Y++H))\/
  (∃r,E=.go r/\Deaf Y 0=0/\Zg p (p.n - (r+1)) (vP p r) g (i 0))\/(E=.D8/\Deaf Y 0=0/\GA p g (i 0))\/
  (E=.sN/\F 0=.leaf/\Deaf Y 0=0/\((p.ML R g (i 0))\/∃qJ kF cs shape kf kd zf zd,g={parked kF cs shape with status:=.running}/\pP p R qJ (i 0) kF cs shape kf kd zf zd)):=by
 have u2:=h.res.sub 0;let C:=h.mode;let I:=h.jm
 -- an own step
 let own:∀{S:cg} {mt':gp},E=mt'->mt'≠.gP->(∀K l v,At p.P true p.Φ S K l v->uZ p mt' R K (Deaf Y 0) l v)->
   (∀w,Sub (i 0) w->p.Φ w->∃l w' es v K,stepG p.P true g w=.go l w' es/\Tr (i 0) v w w' es/\At p.P true p.Φ S K l v/\Tree.sub K (F 0))->
   (∃t H Q,runT p.P (crowd gs w b) 0=(.next t,H)/\pO (p.base+p.n+1) Q (meas p j z G F kt m E)/\nE p u S0 k Q t (Y++H)):=by
  intro S mt' e1 u4 hK y;subst e1;let⟨l,w',es,v,K,h1,h2,h3,h4⟩:=y w u2 ⟨_,_,h.wg⟩;let hb:=h.eJ;exact h.wU hT b hx (.inl rfl) h1 h2 h4 (λ_=>u4) (λd hk e=>by omega) (λ_ e=>by omega) (λ_ e=>by omega) (λ_=>hK _ _ _ h3)
 generalize o:F 0=T0 at hm;generalize a:Deaf Y 0=d0 at hm;cases hm with
 | kd dq=>
  rcases dq.cases with⟨⟨_,l,J,T⟩,hl⟩ | ⟨_,y⟩
  .obtain⟨rfl⟩:z=false:=I.2;obtain⟨K,s⟩:=T.at;exact .inl (h.lr hT b hx (J w) (.refl _ w) (zA _ U (.inl U)) (mt':=.add _) (T':=K) (by rw[a];exact .add s) h.wg U U I C As)
  .exact .inl (own rfl U (λ_ _ _ x=>by rw[a];exact .kd x) C2)
 | @add r _ _ _ _ dq=>
  rcases dq.cases with⟨⟨_,oe⟩,hl⟩ | ⟨_,y⟩
  .obtain⟨rfl⟩:z=false:=I.2;let hV:=Vc_le j (cB G);let u5:=h.nn;let u6:=I.1;cases C with
   | reg h1=>exact h1.elim
   | last L h1=>exact h1.elim
   | fin h1=>exact h1.elim
   | opn h1 h2 h3=>
    let B:=h.wg;simp only[pend,Nat.not_succ_le_self,if_false,pT,show¬(5<=3) by omega] at B;obtain⟨l,J,T⟩:=oe (Vc j (cB G)) M;let X:∀tg,tg=CTag.sp r 3->ConcN.Mode j (cB G) tg (((Vc j (cB G):Nat):Int) *KK+KK) 0:=by
     intro tg e;subst e;have:=ConcN.Mode.opn (tag:=.sp r 3) (j:=j) (D:=cB G) trivial h2 U;let e:(((Vc j (cB G)+pend (CTag.sp r 3):Nat):Int) *KK)=((Vc j (cB G):Nat):Int) *KK+KK:=by
      simp only[pend,dA,if_true];rw[show((Vc j (cB G)+1:Nat):Int)=(Vc j (cB G):Int)+1 by omega,Int.add_mul,Int.one_mul]
     rw[e] at this;exact this
    let u3:=B.setSt ((((Vc j (cB G):Nat):Int)+1) *KK);let e1:((((Vc j (cB G):Nat):Int)+1) *KK)=((Vc j (cB G):Nat):Int) *KK+KK:=by rw[Int.add_mul,Int.one_mul]
    rcases T with T | T
    .obtain⟨K,s⟩:=T.at;exact .inl (h.lr hT b hx (J w B) (aside_setCell w (stA p.W) _) (Po _) (mt':=.said _) (T':=K) (by rw[a];exact .said s) u3 U U I (by rw[e1];exact X _ rfl) As)
    .obtain⟨K,s⟩:=T.at;exact .inl (h.lr hT b hx (J w B) (aside_setCell w (stA p.W) _) (Po _) (mt':=.en _) (T':=K) (by rw[a];exact .en s) u3 U U I (by rw[e1];exact X _ rfl) As)
  .exact .inl (own rfl U (λ_ _ _ x=>by rw[a];exact .add x) C2)
 | said dq=>
  rcases dq.cases with⟨⟨_,l,J,T⟩,hl⟩ | ⟨_,y⟩
  .obtain⟨rfl⟩:z=false:=I.2;obtain⟨K,s⟩:=T.at;exact .inl (h.lr hT b hx (J w) (.refl _ w) (zA _ U (.inr (.inr rfl))) (mt':=.en _) (T':=K) (by rw[a];exact .en s) h.wg U U I C As)
  .exact .inl (own rfl U (λ_ _ _ x=>by rw[a];exact .said x) C2)
 | en dq=>
  rcases dq.cases with⟨⟨_,l,J,T⟩,hl⟩ | ⟨_,y⟩
  .obtain⟨rfl⟩:z=false:=I.2;obtain⟨K,s⟩:=T.at;exact .inl (h.lr hT b hx (J w) (.refl _ w) (zA _ U (.inl U)) (mt':=.go _) (T':=K) (by rw[a];exact .go s) h.wg U U I C As)
  .exact .inl (own rfl U (λ_ _ _ x=>by rw[a];exact .en x) C2)
 | go dq=>
  rcases dq.cases with⟨hs,hl⟩ | ⟨_,y⟩
  .exact .inr (.inl ⟨_,rfl,rfl,hs⟩)
  .exact .inl (own rfl U (λ_ _ _ x=>by rw[a];exact .go x) C2)
 | D8 dq=>
  rcases dq.cases with⟨hs,hl⟩ | ⟨_,y⟩
  .exact .inr (.inr (.inl ⟨rfl,rfl,hs⟩))
  .exact .inl (own rfl U (λ_ _ _ x=>by rw[a];exact .D8 x) C2)
 | sN dq=>
  rcases dq.cases with⟨hs,hl⟩ | ⟨_,y⟩
  .exact .inr (.inr (.inr ⟨rfl,hl,rfl,.inl hs⟩))
  .exact .inl (own rfl U (λ_ _ _ x=>by rw[a];exact .sN x) C2)
 | again hs=>exact .inr (.inr (.inr ⟨rfl,rfl,rfl,.inr ⟨_,_,_,_,_,_,_,_,rfl,hs⟩⟩))
 | gP hs=>cases u1
def nk{u:Trace}(y:∀k∈u,k.act.touch?=none){idx:Nat}{a:Touch}(s:touchAt (Y++u) idx=a):touchAt Y idx=a:=by
 let⟨x,q,o⟩:=touch_of s;rcases getElem?_append_cases q with⟨hi,sJ⟩ | ⟨_,sK⟩
 .rwa[touchAt_of sJ]
 .rw[y x sK] at o;cases o
def Mn.mute{p:eh}{S0:bt}{n0:Nat}{t:Trace}{size:Nat}{u:Trace}(h:Mn p S0 n0 size t)(hn:∀op∈u,op.act.touch?=none)(hr:∀op∈u,op.act≠.mark (.release (stA p.W))):Mn p S0 n0 size (t++u) where
 len:=by have:=h.len;rw[Cm];omega
 known:=λi a b hi ha hb=>by
  let PG:=lg hi h.len;rw[touchAt_old PG] at ha;exact(h.known i a b hi ha hb).imp (·.app u) id
 over:=λi g hi hgi CC hc=>by
  let PG:=lg hi h.len;rw[g?_old PG] at hgi;let⟨j,hj,hb⟩:=h.over i g hi hgi CC ((counts_old PG).1 hc);let hjl:j<t.size:=by
   let⟨z,hz,_⟩:=il.1 hj;exact lt_size_of_getElem? hz
  exact⟨j,by rwa[g?_old hjl],hb_app u hb⟩
 rv:=λi op hi ho ht=>by
  rcases getElem?_append_cases ho with⟨_,qh⟩ | ⟨_,oK⟩
  .exact h.rv i op hi qh ht
  .exact ar (hn op oK) ht
 norel:=λi hi ha=>by
  let⟨op,ho,hoa⟩:=il.1 ha;rcases getElem?_append_cases ho with⟨_,qh⟩ | ⟨_,oK⟩
  .exact h.norel i hi (by rw[act?_of qh,hoa])
  .exact hr op oK hoa
 xk:=λi a b hi dq hk hb=>by
  let⟨x,hx,Z2⟩:=touch_of dq;rcases getElem?_append_cases hx with⟨_,sJ⟩ | ⟨_,sK⟩
  .exact h.xk i a b hi (by rwa[touchAt_of sJ]) hk hb
  .rw[hn x sK] at Z2;cases Z2
def Ad{a:Addr}{u:Trace}(h:RelBy a Y k n)(y:∀q∈u,q.act.touch?=none):RelBy a (Y++u) k n:=by
 refine h.app λi d _ b=>?_;let⟨x,v,_⟩:=b;have:=nk y v;let⟨z,p,_⟩:=touch_of this;have:=lt_size_of_getElem? p;omega
def oX{t u:Trace}(q:∀k∈u,∀m,k.act≠.mark m)(g:Nat):Deaf (t++u) g=Deaf t g:=by
 let⟨l⟩:=u;rw[Deaf_append]
 induction l generalizing t with
 | nil=>rfl
 | cons y l v=>
  have z:deafStep g (Deaf t g) y=Deaf t g:=by
   have:=q y U;unfold deafStep
   split
   .rename_i e;exact ar e (this _)
   .rename_i e;exact ar e (this _)
   .rfl
  rw[lJ,z];exact v λk j=>q k (by simp at j ⊢;exact .inr j)
def gI.spawn{p:eh}{S0:bt}{G:dr}{j:Nat}{st:bP}{F:eN}{cc:bP}{cv:fJ}{q:bP}{kt:CTag}{mt:gp}{s:bt}{Ls:dD}{Sh:bt}{mv:Int}(h:gI p u S0 k G w Y j false st F cc cv q kt m mt s Ls Sh c mv){g' I:aT}(sl:gw)(hx:G[0]?=some g)
    (v4:stepG p.P true g w=.spawn g' I w #[])(q1:Deaf Y 0=0)
    (v5:∀b o wr,L b=some (o,wr)->∃u4,Ls 0 b=some (o,u4)/\(wr=true->u4=true))(v6:∀b o wr,R b=some (o,wr)->∃u4,Ls 0 b=some (o,u4)/\(wr=true->u4=true))
    (v7:∀b o,L b=some (o,true)->R b=none)(v8:∀b o,R b=some (o,true)->L b=none)
    {j':Nat}{ks':Bool}{st':bP}{Tm Tc:Tree}{mt':gp}
    (K:(j'=j+1/\ks'=false/\st'=upd st j 12/\j<p.n/\At p.P false p.Φ (yK p j) Tc I R)\/(j'=j/\j=p.n/\ks'=true/\st'=st/\At p.P false p.Φ (MJ p) Tc I R))
    (v9:uZ p mt' s Tm 0 g' L)(u8:ConcN.Mode j' (cB st') (lC .kd mt') c mv)(z1:JB p.n j' ks' mt')(q2:mt'≠.gP)(z4:lV mt'<lV mt):
    ∃t q3 vd,runT p.P (crowd G w sl) 0=(.next t,q3)/\pO (p.base+p.n+1) vd (meas p j false st F kt m mt)/\nE p u S0 k vd t (Y++q3):=by
  obtain⟨rfl,rfl⟩:=h.kk rfl;have hb:=h.eJ;have z5:=h.jn;have u2:=h.size;simp only[Bool.toNat_false,pT] at u2;have q4:0<G.size:=(iL.1 hx).1;have B:=runT_crowd_spawn (P:=p.P) (sl:=sl) (i:=0) hx v4;have q5:((MemOp.ofEvents 0 g.frame.fn g.frame.place #[]).push {g:=0,fn:=g.frame.fn,pos:=g.frame.place,act:=.go G.size} |>.push {g:=G.size,fn:=I.frame.fn,pos:=g.frame.place,act:=.start})=
      #[{g:=0,fn:=g.frame.fn,pos:=g.frame.place,act:=.go G.size},{g:=G.size,fn:=I.frame.fn,pos:=g.frame.place,act:=.start}]:=rfl
  rw[q5] at B;generalize hX:({g:=0,fn:=g.frame.fn,pos:=g.frame.place,act:=.go G.size}:MemOp)=X at B;generalize hY:({g:=G.size,fn:=I.frame.fn,pos:=g.frame.place,act:=.start}:MemOp)=d at B;have q6:X.g=0/\X.act=.go G.size:=Qu
  have q7:d.g=G.size/\d.act=.start:=Lt
  have z:∀C∈(#[X,d]:Array MemOp),C.act.touch?=none/\∀x,C.act≠.mark x:=by
    intro C E;simp only[zh,eP,kB,or_false] at E;rcases E with rfl | rfl
    · rw[q6.2];exact⟨rfl,U⟩
    · rw[q7.2];exact⟨rfl,U⟩
  have u9:∀i,Knows Y 0 i->Knows (Y++#[X,d]) G.size i:=λi f=>fork_knows q6 q7 q1 (h.above _ (dA _)) f;have u3:∀i,Deaf (Y++#[X,d]) i=Deaf Y i:=oX λC E=>(z C E).2;have u5:∀{Q:Nat} {a:Touch},touchAt (Y++#[X,d]) Q=some a->touchAt Y Q=some a:=nk λC E=>(z C E).1;have get:∀i,i≠0->i<G.size->((G.setIfInBounds 0 g').push I)[i]?=G[i]?:=λi hi hl=>by
    rw[GC,A bU,jI (dG hi)]
  have q8:((G.setIfInBounds 0 g').push I)[0]?=g':=by
    rw[GC,A bU,oZ q4]
  have v:((G.setIfInBounds 0 g').push I)[G.size]?=I:=by
    rw[GC,ax U]
  have u1:((G.setIfInBounds 0 g').push I).size=G.size+1:=U
  have H:∀l,l<j->st' l=st l:=λl f=>by
    rcases K with⟨_,_,e,_⟩ | ⟨_,_,_,e,_⟩
    · rw[e,upd_ne _ _ M]
    · rw[e]
  have T:j<=j'/\j'<=p.n/\∀l,l<j'->l≠j->l<j:=by rcases K with⟨e,_,_,e2,_⟩ | ⟨e,_⟩ <;> exact⟨M,M,λl f u6=>by omega⟩
  have J:oD (upd (upd Ls 0 L) G.size R) Sh (λb=>b=p.W\/b=p.D) (λi=>i=0\/(p.base<=i/\i<G.size)) w (Y++#[X,d]):=by
    refine(h.res.mute (.refl _ _) λC E=>(z C E).1).hand (i:=0) (j:=G.size) M v5 (λb o wr hb=>.inr (v6 b o wr hb)) v7 v8 λQ a b o wr ha hb hl hw=>?_;exact u9 Q (h.res.qm 0 Q a b o wr (u5 ha) hb hl hw)
  have q9:oD (upd (upd Ls 0 L) G.size R) Sh (λb=>b=p.W\/b=p.D) (λi=>i=0\/(p.base<=i/\i<G.size+1)) w (Y++#[X,d]):=
    ⟨J.sub,J.apart,J.sh,J.ml,J.qm,J.seen,J.clean,J.qH,λQ a b ha hb hA hp i hi=>by
      by_cases e:i=G.size
      · rw[e];exact u9 Q (h.res.atomic Q a b (u5 ha) hb hA hp 0 (.inl rfl))
      · exact J.atomic Q a b ha hb hA hp i M⟩
  have z2:∀i,i≠0->i≠G.size->upd (upd Ls 0 L) G.size R i=Ls i:=λi h1 h2=>by rw[upd_ne _ _ h2,upd_ne _ _ h1]
  have v0:∀i,i≠0->i≠G.size->upd (upd F 0 Tm) G.size Tc i=F i:=λi h1 h2=>by rw[upd_ne _ _ h2,upd_ne _ _ h1]
  refine⟨_,_,_,B,?_,_,w,sl,j',ks',st',upd (upd F 0 Tm) G.size Tc,cc,cv,q,.kd,0,mt',s,upd (upd Ls 0 L) G.size R,Sh,c,mv,rfl,?_,rfl⟩
  · refine Prod.Lex.left _ _ (Prod.Lex.left _ _ ?_)
    rcases K with⟨e1,e2,e3,e4,_⟩ | ⟨e1,e2,e3,e4,_⟩
    · rw[e1,e2,e3]
      have:AI p.n (j+1) (upd st j 12)<AI p.n j st:=by
        refine vI (i:=j) e4 (λl _=>?_) ?_
        · by_cases e:l=j
          · subst e;simp only[upd_same];split <;> split <;> omega
          · simp only[upd_ne _ _ e]
            by_cases e5:l<j
            · rw[ax M,ax e5];exact dA _
            · rw[A M,A e5];exact dA _
        · simp only[upd_same]
          rw[ax M,A M];omega
      simp only[jj];omega
    · rw[e1,e3,e4]
      simp only[jj,if_true];simp only[iM,if_false];omega
  · refine{cast:=⟨λi y h1 h2 _ hy=>?_,λl f _=>?_,λv1 _=>?_,λ_=>⟨g',q8,?_⟩⟩,size:=?_,eJ:=hb,jn:=T.2.1,nn:=h.nn,jm:=z1,kk:=λ_=>⟨rfl,rfl⟩,gF:=λl f=>?_,above:=λi hi=>?_,res:=by rw[u1];exact q9,sO:=h.sO,MA:=h.MA,KR:=h.KR,CX:=h.CX,HH:=h.HH,HI:=h.HI,iC:=λl f h7=>?_,same:=h.same,wg:=h.wg,
             mode:=u8,ch:=h.ch,cd:=h.cd,xD:=(λe=>ar e q2),pk:=(λe=>ar e q2),rel:=λl f hs=>?_,said:=λQ a ha hl hs=>⟨λ_=>((h.said Q a (u5 ha) hl hs).1 rfl).app _,λe=>?_⟩,acq:=λe=>eA,nr:=λl f hR S=>?_,rr:=λl hR=>?_,r0:=λ_=>h.r0 rfl,xZ:=?_}
    · rw[get i M M] at hy
      rw[u3,v0 i M M];exact h.cast.old i y h1 h2 M hy
    · by_cases e:l=j
      · subst e
        rcases K with⟨e1,e2,e3,e4,dq⟩ | ⟨e1,e2,_⟩
        · refine⟨I,by rw[<-u2];exact v,?_⟩
          rw[u3,<-u2,upd_same,upd_same,h.above _ (dA _),e3,upd_same];exact .own dq
        · omega
      · have S:=T.2.2 l f e
        rw[H l S,u3,z2 _ M M,v0 _ M M,get _ M M];exact h.cast.wk l S (by have:=h.lt_size S;omega)
    · rcases K with⟨e1,e2,_⟩ | ⟨e1,e2,e3,e4,dq⟩
      · rw[e2] at v1;cases v1
      · refine⟨I,by rw[<-e2,<-u2];exact v,?_⟩
        rw[u3,<-e2,<-u2,upd_same,upd_same,h.above _ (dA _)];exact .Ms dq
    · rw[u3,q1,upd_ne _ _ M,upd_same,upd_ne _ _ M,upd_same]
      exact v9
    · rw[u1]
      rcases K with⟨e1,e2,_⟩ | ⟨e1,e2,e3,_⟩
      · rw[e1,e2];simp;omega
      · rw[e1,e3];simp;omega
    · by_cases e:l=j
      · subst e
        rcases K with⟨_,_,e3,_⟩ | ⟨e1,_⟩
        · rw[e3,upd_same];omega
        · omega
      · rw[H l (T.2.2 l f e)];exact h.gF l (T.2.2 l f e)
    · rw[u3]
      rw[u1] at hi;exact h.above i M
    · have u6:l≠j:=by
        intro e;subst e;rcases K with⟨_,_,e3,_⟩ | ⟨e1,_⟩
        · rw[e3,upd_same] at h7;omega
        · omega
      have S:=T.2.2 l f u6;rw[H l S] at h7;obtain⟨a1,a2,a3,a4,a5⟩:=h.iC l S h7;refine⟨a1,a2,a3,a4,λk' z3 hn q0=>?_⟩;have v2:k'≠j:=by
        intro e;subst e;rcases K with⟨_,_,e3,_⟩ | ⟨e1,_⟩
        · rw[e3,upd_same] at q0;omega
        · omega
      have u7:=T.2.2 k' z3 v2;rw[H k' u7] at q0;exact a5 k' u7 hn q0
    · have u6:l≠j:=by
        intro e;subst e;rcases K with⟨_,_,e3,_⟩ | ⟨e1,_⟩
        · rw[e3,upd_same] at hs;omega
        · omega
      have S:=T.2.2 l f u6;rw[H l S] at hs;obtain⟨r,h1,h2⟩:=h.rel l S hs;exact⟨r,h1,Ad h2 λC E=>(z C E).1⟩
    · rcases K with⟨e1,e2,_⟩ | ⟨e1,e2,e3,_⟩
      · rw[e2] at e;cases e
      · rw[<-e2,<-u2]
        exact u9 Q ((h.said Q a (u5 ha) hl hs).1 rfl)
    · by_cases e:l=j
      · subst e
        rcases K with⟨_,_,e3,_⟩ | ⟨e1,_⟩
        · rw[e3,upd_same];left;omega
        · omega
      · rw[H l (T.2.2 l S e)];exact h.nr l f hR (T.2.2 l S e)
    · obtain⟨h1,h2⟩:=h.rr l hR
      rw[H l h1];exact⟨M,h2⟩
    · rw[u1]
      exact(h.xZ.mute (λC E=>(z C E).1) (λC E=>(z C E).2 _)).more M
def aeg(j:Nat)(r:bP):Vc (j+1) (cB (upd r j 12))=Vc j (cB r)+1:=by
 simp[Vc,sumTo];let p:(sumTo j λi=>cnt (cB (upd r j 12) i))=sumTo j λi=>cnt (cB r i):=sumTo_congr λa s=>by simp[cB,upd_ne _ _ (show a≠j by omega)]
 rw[p];simp[cB,upd_same,cnt]
def gI.Py{p:eh}{S0:bt}{S:dr}{j:Nat}{T:Bool}{J:bP}{F:eN}{cc:bP}{cv:fJ}{q:bP}{kt:CTag}{R:bt}{Ls:dD}{Sh:bt}{f:Int}{r:Nat}(h:gI p u S0 k S w Y j T J F cc cv q kt m (.go r) R Ls Sh c f)(W:gw)(hx:S[0]?=some g)(G:Deaf Y 0=0)(hs:Zg p (p.n - (r+1)) (vP p r) g (Ls 0)):
  ∃t x H,runT p.P (crowd S w W) 0=(.next t,x)/\pO (p.base+p.n+1) H (meas p j T J F kt m (.go r))/\nE p u S0 k H t (Y++x):=by
 obtain⟨hj,rfl⟩:j+(r+1)=p.n/\T=false:=h.jm;obtain⟨rfl,rfl⟩:=h.kk rfl;obtain⟨_,l,X,Lm,Lc,d,I,z,C,h4,hw,y⟩:=hs;have ej:p.n - (r+1)=j:=M
 rw[ej] at hw;obtain⟨Tc,Q⟩:=hw.at;have o:=h.mode;have v:∀K,isOpen K->pend K=0->(∀B,K≠.w2 B)->ConcN.Mode (j+1) (cB (upd J j 12)) K c f:=by
  intro K ho hp i;cases o with
  | reg I=>exact I.elim
  | last L I=>exact I.elim
  | fin I=>exact I.elim
  | opn I z C=>
   have:=ConcN.Mode.opn (tag:=K) (j:=j+1) (D:=cB (upd J j 12)) ho (λa s=>by
    by_cases e:a=j
    .subst e;simp[cB,upd_same]
    .simp only[cB,upd_ne _ _ e];exact z a M) (λB e=>ar e (i B))
   rw[aeg,hp] at this
   simpa [pend,lC] using this
 cases r with
 | zero=>
  obtain⟨E,b⟩:=Way.at (show Way p.P true p.Φ (GA p) l Lm from y);exact h.spawn W hx (d w (h.res.sub 0)) G I z C h4 (j':=j+1) (ks':=false) (st':=upd J j 12) (Tm:=E) (Tc:=Tc) (mt':=.D8) (.inl ⟨rfl,rfl,rfl,M,Q⟩) (.D8 b) (v _ trivial rfl (by simp[lC])) ⟨M,rfl⟩ U As
 | succ r=>
  obtain⟨E,b⟩:=Way.at (show Way p.P true p.Φ (RH p (p.n - (r+1)) (vP p r)) l Lm from y);exact h.spawn W hx (d w (h.res.sub 0)) G I z C h4 (j':=j+1) (ks':=false) (st':=upd J j 12) (Tm:=E) (Tc:=Tc) (mt':=.kd r) (.inl ⟨rfl,rfl,rfl,M,Q⟩) (.kd b) (v _ trivial rfl (by simp[lC])) ⟨M,rfl⟩ U As
def gI.acF{p:eh}{j:dr}{z:Bool}{r:bP}{F:eN}{S:bP}{T:fJ}{q:bP}{G:CTag}{s:Nat}{R:bt}{i:dD}{W:bt}{f:Int}(e:∀d,¬R d)(h:gI p u D k j w Y m z r F S T q G s .D8 R i W c f)(H:gw)(X:j[0]?=some g)(a:Deaf Y 0=0)(C:GA p g (i 0)):
  ∃t v o,runT p.P (crowd j w H) 0=(.next t,v)/\pO (p.base+p.n+1) o (meas p m z r F G s .D8)/\nE p u D k o t (Y++v):=by
 obtain⟨Q,rfl⟩:m=p.n/\z=false:=h.jm;obtain⟨rfl,rfl⟩:=h.kk rfl;obtain⟨_,l,I,Lm,Lc,J,B,E,h3,h4,hw,y⟩:=C;obtain⟨Tc,K⟩:=hw.at;obtain⟨Tm,b⟩:=y.at;obtain rfl:R=λ_=>False:=funext λd=>propext ⟨λx=>e d x,λx=>x.elim⟩;exact h.spawn H X (J w (h.res.sub 0)) a B E h3 h4 (Tm:=Tm) (Tc:=Tc) (mt':=.sN) (.inr ⟨rfl,Q,rfl,rfl,K⟩) (.sN b) h.mode ⟨Q,rfl⟩ U As
def TC{t:Trace}{c:Nat}{a b x y:MemOp}(s:a.g=n/\a.act=.send c k)(p:∀d,b.act≠.mark d)(e:∀d,x.act≠.mark d)(v:y.g=m/\y.act=.recvDone c k)(i:Deaf t n=0)(o:Deaf t m=0){w:Nat}(h:Knows t n w):
  Knows (t++#[a,b,x,y]) m w:=by
 let f:(t++#[a,b,x,y])[t.size]?=a:=by rw[Fa (dA _)];simp
 let r:(t++#[a,b,x,y])[t.size+3]?=y:=by rw[Fa M];simp
 let I:t++#[a,b,x,y]=(t++#[a,b,x])++#[y]:=by apply Array.ext';simp
 let l:(t++#[a,b,x,y]).heard t.size:=⟨n,by simp[Trace.g?,s.1],by rwa[deaf_old (dA _)]⟩;let z:(t++#[a,b,x,y]).heard (t.size+3):=by
  refine⟨m,by rw[Trace.g?,r];simp[v.1],?_⟩;rw[I,deaf_old U];have:=oX (t:=t) (u:=#[a,b,x]) (λJ j=>by
   simp[zh,eP,kB,or_false] at j;rcases j with rfl | rfl | rfl
   .rw[s.2];simp
   .exact p
   .exact e) m
  unfold Deaf at this o;rw[show(t++#[a,b,x]).size=t.size+3 by simp] at this;rw[this];exact o
 let q:HappensBefore (t++#[a,b,x,y]) w t.size:=h.hb_new (dA _) f s.1;exact⟨t.size+3,y,r,v.1,.inr (q.trans (.single (.inr ⟨.handOver (c:=c) (k:=k) (by rw[act?_of f,s.2]) (by rw[act?_of r,v.2]),l,z⟩)))⟩
def heap_setChan(w:World)(c m:Nat)(j:aK)(u:Bool)(s r:Nat)(f:Bool)(b:Nat):b≠c->(w.setChan c m j u s r f).heap[b]?=w.heap[b]?:=by
 intro h;simp[World.setChan];rw[jI (dG h)]
def uE(w:World){j:aK}{u:Bool}{r:Nat}{f:Bool}(h:n<w.heap.size):(w.setChan n k j u m r f).heap[n]?=some (.chan k j u m r f):=by
 simp[World.setChan];rw[oZ h]
def gI.pass{p:eh}{W0:World}{S0:Nat->Prop}{n0:Nat}{gs gs':Array Goroutine}{w:World}{t:Trace}{j:Nat}{ks:Bool}{st:Nat->Nat}{F:Nat->Tree}{cc:Nat->Nat}{cv:Nat->Value}{q:Nat->Nat}{kt:CTag}{kx:Nat}{mt:gp}{R:Nat->Prop}{Ls:Nat->LH}{Sh:Nat->Prop}{sv mv:Int}(h:gI p W0 S0 n0 gs w t j ks st F cc cv q kt kx mt R Ls Sh sv mv){k:Nat}(hk:k<j)(PK:11<=st k)(PI:mt=.sN\/mt=.gP){s:Nat}(hC:w.heap[p.C]?=some (.chan 0 #[] false s s false))(hD0:Deaf t 0=0)(hDk:Deaf t (p.base+k)=0)
    {a' y':Goroutine}(hsz:gs'.size=gs.size)(hg0:gs'[0]?=some a')(hgk:gs'[p.base+k]?=some y')(hgo:∀i,i≠0->i≠p.base+k->gs'[i]?=gs[i]?)
    {fn fn':FuncId}{pos pos':String}{Lk Gv:LH}{Tm Tw:Tree}(d:Nat)
    (hLk:∀b x,Lk b=some x->Ls (p.base+k) b=x)(hGv:∀b x,Gv b=some x->Ls (p.base+k) b=x)(hsp:∀b,Lk b=none\/Gv b=none)
    (hw:At p.P false p.Φ (vg p) Tw y' Lk)(hm:At p.P true p.Φ (p.ML λi=>R i\/i=k) Tm a' ((Ls 0).join Gv))(sl:Option (Nat×Nat)){cap:Nat}:
    ∃vd,pO (p.base+p.n+1) vd (meas p j ks st F kt kx mt)/\nE p W0 S0 n0 vd (crowd gs' ((w.at d).setChan p.C 0 #[] false (s+1) (s+1) false) sl)
      (t++#[{g:=p.base+k,fn,pos,act:=.send p.C s},{g:=0,fn:=fn',pos:=pos',act:=.recv p.C s cap},{g:=p.base+k,fn,pos,act:=.sendDone p.C s},{g:=0,fn:=fn',pos:=pos',act:=.recvDone p.C s}]):=by
  let hb:=h.eJ;let hjn:=h.jn;let hks:ks=true/\j=p.n:=by
    have:=h.jm;rcases PI with e | e <;> rw[e] at this <;> exact⟨this.2,this.1⟩
  obtain⟨rfl,hjn'⟩:=hks;let htag:lC kt mt=kt:=by rcases PI with e | e <;> rw[e] <;> rfl
  let hclo:eF kt kx=false:=h.Kc (.inl ⟨k,hk,by omega⟩);generalize hU:(#[{g:=p.base+k,fn,pos,act:=.send p.C s},{g:=0,fn:=fn',pos:=pos',act:=.recv p.C s cap},{g:=p.base+k,fn,pos,act:=.sendDone p.C s},{g:=0,fn:=fn',pos:=pos',act:=.recvDone p.C s}]:Array MemOp)=az;let hnt:∀op∈az,op.act.touch?=none/\∀m,op.act≠.mark m:=by
    intro op ho;rw[<-hU] at ho;simp only[List.mem_toArray,List.mem_cons,List.not_mem_nil,or_false] at ho;rcases ho with rfl | rfl | rfl | rfl <;> exact⟨rfl,by simp⟩
  have hkn:∀i,Knows t (p.base+k) i->Knows (t++az) 0 i:=λi hi=>by
    rw[<-hU];exact TC ⟨rfl,rfl⟩ (by simp) (by simp) ⟨rfl,rfl⟩ hDk hD0 hi
  have hdf:∀i,Deaf (t++az) i=Deaf t i:=oX λop ho=>(hnt op ho).2;have old:∀{idx:Nat} {a:Touch},touchAt (t++az) idx=some a->touchAt t idx=some a:=nk λop ho=>(hnt op ho).1;have hClt:p.C<(w.at d).heap.size:=(Array.getElem?_eq_some_iff.1 (show(w.at d).heap[p.C]?=_ from hC)).1;have hheap:∀b,b≠p.C->((w.at d).setChan p.C 0 #[] false (s+1) (s+1) false).heap[b]?=w.heap[b]?:=λb hb=>heap_setChan (w.at d) p.C 0 #[] false (s+1) (s+1) false b hb;have hheapC:((w.at d).setChan p.C 0 #[] false (s+1) (s+1) false).heap[p.C]?=some (.chan 0 #[] false (s+1) (s+1) false):=uE (w.at d) hClt;have hhsz:((w.at d).setChan p.C 0 #[] false (s+1) (s+1) false).heap.size=w.heap.size:=by simp[World.setChan,World.at]
  generalize hW':(w.at d).setChan p.C 0 #[] false (s+1) (s+1) false=w' at hheap hheapC hhsz;have hsame:mI W0 w':=by rw[<-hW'];exact⟨h.same.tape,h.same.os,h.same.out⟩
  have hst':∀k',k'≠k->upd st k 10 k'=st k':=λk' e=>upd_ne _ _ e;have hres:oD (upd (upd Ls (p.base+k) Lk) 0 ((Ls 0).join Gv)) Sh (λb=>b=p.W\/b=p.D) (λi=>i=0\/(p.base<=i/\i<gs.size)) w' (t++az):=by
    refine(h.res.mute ⟨hhsz,λb hb=>hheap b λe=>hb (e▸h.MA)⟩ λop ho=>(hnt op ho).1).hand (i:=p.base+k) (j:=0) (by omega) (λb o wr hb=>⟨wr,hLk b _ hb,id⟩) (λb o wr hb=>?_) (λb o hb=>?_) (λb o hb=>?_) λidx a b o wr ha hb hl hw=>?_
    · unfold LH.join at hb
      cases hx:Ls 0 b with
      | some x=>rw[hx] at hb;exact .inl hb
      | none=>rw[hx] at hb;exact .inr ⟨wr,hGv b _ hb,id⟩
    · have h1:=h.res.apart (p.base+k) 0 b o (by omega) (hLk b _ hb)
      unfold LH.join;rw[h1];rcases hsp b with e | e
      · rw[e] at hb;cases hb
      · exact e
    · unfold LH.join at hb
      cases hx:Ls 0 b with
      | some x=>
        rw[hx] at hb;simp only[Option.some.injEq] at hb;subst hb;have h1:=h.res.apart 0 (p.base+k) b o (by omega) hx;cases hy:Lk b with
        | none=>rfl
        | some y=>rw[hLk b _ hy] at h1;cases h1
      | none=>
        rw[hx] at hb;rcases hsp b with e | e
        · exact e
        · simp only at hb;rw[e] at hb;cases hb
    · exact hkn idx (h.res.qm (p.base+k) idx a b o wr (old ha) hb hl hw)
  have hLs:∀i,i≠0->i≠p.base+k->upd (upd Ls (p.base+k) Lk) 0 ((Ls 0).join Gv) i=Ls i:=λi h1 h2=>by rw[upd_ne _ _ h1,upd_ne _ _ h2]
  have hFs:∀i,i≠0->i≠p.base+k->upd (upd F (p.base+k) Tw) 0 Tm i=F i:=λi h1 h2=>by rw[upd_ne _ _ h1,upd_ne _ _ h2]
  have hstg:cB (upd st k 10)=cB st:=uh st k 10 (by omega);refine⟨_,?_,gs',w',sl,j,true,upd st k 10,upd (upd F (p.base+k) Tw) 0 Tm,cc,cv,q,kt,kx,.sN,λi=>R i\/i=k,upd (upd Ls (p.base+k) Lk) 0 ((Ls 0).join Gv),Sh,sv,mv,rfl,?_,rfl⟩
  · refine Prod.Lex.left _ _ (Prod.Lex.left _ _ ?_)
    rw[hstg];have:=Gu (n:=p.n) (s:=10) hk hjn (show 10<st k by omega);have hmr:1<=lV mt:=by rcases PI with e | e <;> rw[e] <;> simp[lV]
    simp only[lV];omega
  · refine{cast:=⟨λi y h1 h2 _ hy=>?_,λk' CB _=>?_,λhks _=>?_,λ_=>⟨a',hg0,?_⟩⟩,size:=by rw[hsz];exact h.size,eJ:=hb,jn:=hjn,nn:=h.nn,jm:=⟨hjn',rfl⟩,kk:=λe=>(by cases e),gF:=λk' CB=>?_,above:=λi hi=>?_,res:=by rw[hsz];exact hres,sO:=h.sO,MA:=h.MA,KR:=h.KR,CX:=h.CX,HH:=h.HH,HI:=h.HI,iC:=λk' CB h7=>?_,same:=hsame,wg:=h.wg.of_block (hheap _ h.HH),
             mode:=by rw[hstg];have:=h.mode;rw[htag] at this;exact this,ch:=⟨s+1,by rw[hheapC,hclo,Bool.and_false]⟩,cd:=?_,xD:=(λe=>by cases e),pk:=(λe=>by cases e),rel:=λk' CB hs=>?_,said:=λidx a ha hl hs=>⟨λe=>(by cases e),λ_=>((h.said idx a (old ha) hl hs).2 rfl).app _⟩,acq:=λe=>?_,nr:=λk' CB hR hkj=>?_,rr:=λk' hR=>?_,r0:=(λe=>nomatch e),xZ:=?_}
    · rw[hgo i (by omega) (by omega)] at hy
      rw[hdf,hFs i (by omega) (by omega)];exact h.cast.old i y h1 h2 (by have:=h.size;omega) hy
    · by_cases e:k'=k
      · subst e
        refine⟨y',hgk,?_⟩;rw[hdf,hDk,upd_same,upd_ne _ _ (by omega),upd_same,upd_ne _ _ (by omega),upd_same];exact .post hw
      · obtain⟨y,hy,hs⟩:=h.cast.wk k' CB (by have:=h.lt_size CB;omega)
        refine⟨y,by rw[hgo _ (by omega) (by omega)];exact hy,?_⟩;rw[hst' k' e,hdf,hLs _ (by omega) (by omega),hFs _ (by omega) (by omega)];exact hs.rely (λh7=>hheap _ (h.iC k' CB h7).2.2.1) (λ⟨a,b,x⟩=>⟨a,b,x.of_block (hheap _ h.HH)⟩) (h.gF k' CB)
    · obtain⟨y,hy,hs⟩:=h.cast.cl rfl (by rw[h.size,hjn'];simp)
      refine⟨y,by rw[hgo _ (by omega) (by omega)];exact hy,?_⟩;rw[hdf,hLs _ (by omega) (by omega),hFs _ (by omega) (by omega)];exact hs
    · rw[hdf,hD0,upd_same,upd_same]
      exact .sN hm
    · by_cases e:k'=k
      · subst e;rw[upd_same];omega
      · rw[hst' k' e];exact h.gF k' CB
    · rw[hdf];exact h.above i (by rw[<-hsz];exact hi)
    · have CC:k'≠k:=by intro e;subst e;rw[upd_same] at h7;omega
      rw[hst' k' CC] at h7;obtain⟨a1,a2,a3,a4,a5⟩:=h.iC k' CB h7;refine⟨a1,a2,a3,a4,λk'' hk'' hn h7'=>?_⟩;have hne':k''≠k:=by intro e;subst e;rw[upd_same] at h7';omega
      rw[hst' k'' hne'] at h7';exact a5 k'' hk'' hn h7'
    · by_cases e:p.C=p.D
      · rw[<-e]
        exact⟨s+1,by rw[hheapC,hclo]⟩
      · obtain⟨s',hd⟩:=h.cd
        exact⟨s',by rw[hheap _ (Ne.symm e)];exact hd⟩
    · have CC:k'≠k:=by intro e;subst e;rw[upd_same] at hs;omega
      rw[hst' k' CC] at hs;obtain⟨r,h1,h2⟩:=h.rel k' CB hs;exact⟨r,h1,Ad h2 λop ho=>(hnt op ho).1⟩
    · have:=h.Ae e hk
      omega
    · have CC:k'≠k:=λe=>hR (.inr e)
      rw[hst' k' CC];exact h.nr k' CB (λx=>hR (.inl x)) hkj
    · rcases hR with hR | rfl
      · obtain⟨h1,h2⟩:=h.rr k' hR
        refine⟨h1,?_⟩
        by_cases e:k'=k
        · subst e;rw[upd_same];omega
        · rw[hst' k' e];exact h2
      · exact⟨hk,by rw[upd_same];omega⟩
    · rw[hsz]
      exact h.xZ.mute (λop ho=>(hnt op ho).1) λop ho=>(hnt op ho).2 _
end
section
open Go.ConcN
open Go.ConcR (KK wgBlock WgAt stA smA rd wr Payload Aside2 DC0 Bk bk_of_mute)
def vR.N6{p:eh}{T:Tree}{v:Value}{d:Nat}(h:vR p k n T m v d g L w)(a:n=11):
  ∃u f z q i,g=parked u #[scase p.C f z] .send/\T=.leaf/\d=0/\(∀b x,q b=some x->L b=some x)/\(∀b x,i b=some x->L b=some x)/\(∀b,q b=none\/i b=none)/\p.out k f i/\Way p.P false p.Φ (vg p) (Go.Conc.served u undef) q:=by
 cases h with
 | own=>omega
 | post=>omega
 | gP h1 h2 h3 h4 h5=>exact⟨_,_,_,_,_,rfl,rfl,rfl,h1,h2,h3,h4,h5⟩
 | iC h=>have:=qC.le7 h;omega
def gI.rv{p:eh}{G:dr}{H:Bool}{r:bP}{F:eN}{B:bP}{E:fJ}{q:bP}{kt:CTag}{kx:Nat}{W:gp}{R:bt}{X:dD}{Sh:bt}{f:Int}(hT:jH p)(h:gI p u D k G w Y m H r F B E q kt kx W R X Sh c f){i:Nat}(I:G[i]?=some g):
  (g.status≠.blocked\/g.offers=none)\/(∃d,d<m/\i=p.base+d/\r d=11/\∃o v z,g=parked o #[scase p.C v z] .send)\/
  (i=0/\W=.gP/\∃o j K shape Q kd t S,g=parked j K shape/\pP p R o (X 0) j K shape Q kd t S):=by
 let u1:=(iL.1 I).1;let J:=h.size;have hb:=h.eJ;rcases pU i with rfl | hp
 .let⟨a,s,b⟩:=h.cast.mn M;rw[I] at s;cases s;rcases b.status (λR g L x=>(hT R g L x).1) with⟨_,e⟩ | ⟨e,_,_,o,j,K,shape,Q,kd,t,S,rfl,BK⟩
  .exact .inl (.inl xT)
  .exact .inr (.inr ⟨rfl,e,o,j,K,shape,Q,kd,t,S,rfl,BK⟩)
 by_cases h1:i<p.base
 .let⟨hq,_⟩:=h.cast.old i g hp h1 M I;exact .inl (.inl (by rcases hq.status with e | e <;> rw[e] <;> simp))
 by_cases h2:i<p.base+m
 .let⟨y,l,b⟩:=h.cast.wk (i - p.base) M M;rw[show p.base+(i - p.base)=i by omega] at l b;rw[I] at l;cases l;rcases b.status with e | e | ⟨e,o,v,z,rfl⟩
  .exact .inl (.inl xT)
  .exact .inl (.inl xT)
  .exact .inr (.inl ⟨i - p.base,M,M,e,o,v,z,rfl⟩)
 .have T:H=true:=by
   cases H with
   | true=>rfl
   | false=>simp at J;omega
  subst T;let u2:=BL h.jm rfl;simp[yS] at J;let⟨y,l,b⟩:=h.cast.cl rfl M;rw[show p.base+p.n=i by omega] at l b;rw[I] at l;cases l;rcases b.status with⟨_,e | e⟩ | ⟨_,_,_,_,o,rfl,hk⟩
  .exact .inl (.inl xT)
  .exact .inl (.inl xT)
  .exact .inl (.inr hk.2.1)
def nd(h:g.status≠.blocked\/g.offers=none)(r:Nat)(b:Bool):offersAt g r b=[]:=by
 rcases h with h | h
 .exact offersAt_of_not_blocked h r b
 .unfold offersAt;rw[h];cases g.status <;> rfl
def pP.recvs{p:eh}{q:aT}{i:Array CommCase}{u:CommShape}{t v:Value}(h:pP p D g L q i u n k t v):∀c∈i,c.send=none:=by
 intro c b;obtain⟨m,o⟩:=IM.1 b;rcases h.no m c o with rfl | rfl
 .rw[h.f] at o;cases o;rfl
 .rw[h.d] at o;cases o;rfl
def pP.only{p:eh}{R:bt}{q:aT}{i:Array CommCase}{u:CommShape}{t v:Value}(h:pP p R g L q i u n k t v):∀(m:Nat) (c:CommCase),m≠n->i[m]?=some c->p.C≠p.D/\m=k/\c=rcase p.D v:=by
 intro m c o b;rcases h.no m c b with e | e
 .exact ar e o
 .subst e;rw[h.d] at b;cases b;exact⟨λe=>o (h.one.1 e).symm,rfl,rfl⟩
def gI.aaF{p:eh}{s:bt}{y:dr}{I:Bool}{r:bP}{F:eN}{J:bP}{K:fJ}{q:bP}{x:CTag}{G:gp}{R:bt}{H:dD}{Q:bt}{f:Int}(S:jH p)(h:gI p u s n y w Y k I r F J K q x m G R H Q c f)(b:p.C≠p.D)(i:Nat):partners (y.setIfInBounds i ph) p.D true=[]:=by
 refine partners_nil λe g o=>?_;rcases getElem?_stand y i e g o with⟨_,rfl⟩ | ⟨_,o⟩
 .exact offersAt_ph _ _
 .rcases h.rv S o with T | ⟨d,_,_,_,j,v,z,rfl⟩ | ⟨_,_,j,l,W,shape,X,kd,t,B,rfl,a⟩
  .exact nd T _ _
  .rw[offersAt_parked_send,A b]
  .exact offersAt_parked_sends a.recvs _
def gI.aaE{p:eh}{a:dr}{b:Bool}{r:bP}{F:eN}{I:bP}{J:fJ}{q:bP}{x:CTag}{s:Nat}{K:gp}{R:bt}{i:dD}{G:bt}{H:Int}(Q:jH p)(h:gI p u D n a w Y k b r F I J q x s K R i G c H){j:Nat}(o:(m,j)∈partners (a.setIfInBounds 0 ph) p.C true):j=0/\m≠0/\∃S T W l,a[m]?=some (parked S #[scase p.C T W] l):=by
 obtain⟨g,t,f⟩:=mem_partners.1 o;rcases getElem?_stand a 0 m g t with⟨_,rfl⟩ | ⟨CC,t⟩
 .rw[offersAt_ph] at f;cases f
 .rcases h.rv Q t with X | ⟨d,_,e,_,y,v,z,rfl⟩ | ⟨e,_⟩
  .rw[nd X] at f;cases f
  .rw[offersAt_parked_send,ax rfl] at f;simp at f;exact⟨f,CC,_,_,_,_,t⟩
  .exact ar e CC
def gI.Wl{p:eh}{v:dr}{z:Bool}{r:bP}{F:eN}{I:bP}{J:fJ}{q:bP}{x:CTag}{K:gp}{R:bt}{G:dD}{H:bt}{f:Int}(Q:jH p)(h:gI p u D n v w Y k z r F I J q x m K R G H c f)(y:∀d,d<k->r d≠11)(l i:Nat):partners (v.setIfInBounds i ph) l true=[]:=by
 refine partners_nil λo g j=>?_;rcases getElem?_stand v i o g j with⟨_,rfl⟩ | ⟨_,j⟩
 .exact offersAt_ph _ _
 .rcases h.rv Q j with S | ⟨d,T,_,e,_⟩ | ⟨_,_,b,s,W,shape,X,kd,t,C,rfl,a⟩
  .exact nd S _ _
  .exact ar e (y d T)
  .exact offersAt_parked_sends a.recvs _
def gI.I5{p:eh}{a:dr}{z:Bool}{r:bP}{F:eN}{j:bP}{l:fJ}{q:bP}{s:CTag}{e:gp}{R:bt}{I:dD}{K:bt}{f:Int}(h:gI p u D n a w Y k z r F j l q s m e R I K c f){x:Nat}(W:x<a.size){y:aT}:Bq p (a.setIfInBounds x y) w Y k z r F j l q s m e R I x:=by
 have o:=BL h.jm;let b:=Bq.less (x:=x) h.cast h.size h.eJ o;let get:∀i,i≠x->(a.setIfInBounds x y)[i]?=a[i]?:=λi G=>jI (dG G);exact⟨λi g H Q J S=>b.old i g H Q J (by rwa[<-get i J]),λd T v=>by rw[get _ v];exact b.wk d T v,λt v=>by rw[get _ v];exact b.cl t v,λv=>by rw[get _ v];exact b.mn v⟩
def gI.aaD{p:eh}{B:dr}{j:Nat}{ks:Bool}{r:bP}{F:eN}{cc:bP}{cv:fJ}{q:bP}{kt:CTag}{kx:Nat}{mt:gp}{R:bt}{Ls:dD}{Sh:bt}{mv:Int}(hT:jH p)(h:gI p u D m B w Y j ks r F cc cv q kt kx mt R Ls Sh c mv)(hk:k<j)(sl:gw)(hx:B[p.base+k]?=some g)(v2:r k=12)(hF:F (p.base+k)=.leaf)(hd:Deaf Y (p.base+k)=0)
  (hs:AtSend p k g (Ls (p.base+k))):
  ∃m' u8 E,runT p.P (crowd B w sl) (p.base+k)=(.next m',u8)/\pO (p.base+p.n+1) E (meas p j ks r F kt kx mt)/\nE p u D m E m' (Y++u8):=by
 let⟨_,v,z,I,Lk,Gv,u4,u9,u5,q0,u2,u3⟩:=hs;have hb:=h.eJ;have q6:=h.jn;have t:(p.base+k==0)=false:=bU
 have q1:stepG p.P (p.base+k==0) g w=.comm I #[scase p.C v z] true .send w #[]:=by rw[t];exact u4 w (h.res.sub _)
 have q2:eF kt kx=false:=h.Kc (.inl ⟨k,hk,M⟩);obtain⟨s,hC⟩:=h.ch;rw[q2,zg] at hC;have Q:=h.lt_size hk;have q3:¬R k:=λe=>by have:=(h.rr k e).2;omega
 by_cases hp:mt=.gP
 .-- it meets C4 first one
  obtain⟨a,ha,hm⟩:=h.cast.mn M;rcases hm.status (λR g L x=>(hT R g L x).1) with⟨e,_⟩ | ⟨_,hT0,hd0,qJ,ga,cs,shape,kf,kd,zf,zd,rfl,BK⟩
  .exact ar hp e
  have G:partners (B.setIfInBounds (p.base+k) ph) p.C false=[(0,kf)]:=by
   have h0:(B.setIfInBounds (p.base+k) ph)[0]?=some (parked ga cs shape):=by rw[jI M];exact ha
   rw[partners_one h0 λl y hm S=>?_]
   .rw[offersAt_parked_at BK.f λl d hm hc=>?_]
    .rfl
    .obtain⟨T,_,h3⟩:=BK.only l d hm hc;rw[h3];simp[rcase];exact λe=>T e.symm
   .rcases getElem?_stand B (p.base+k) l y S with⟨_,rfl⟩ | ⟨_,S⟩
    .exact offersAt_ph _ _
    .rcases h.rv hT S with T | ⟨_,_,_,_,qJ,v,z,rfl⟩ | ⟨e,_⟩
     .exact nd T _ _
     .exact offersAt_parked_send' _ _ _ _ _ _
     .exact ar e hm
  have W:=crowd_send_meets_sel (P:=p.P) (sl:=sl) (j:=0) (k:=kf) hx q1 hC M ha BK.f G;have q4:∀b o,Gv b=some (o,true)->Ls 0 b=none:=λb o hb=>h.res.apart (p.base+k) 0 b o M (u5 b _ hb);obtain⟨Tw,q7⟩:=u3.at;obtain⟨Tm,q8⟩:=(BK.take k v Gv M q3 u2 q4).at;have q9:0<B.size:=M
  obtain⟨E,T,h2⟩:=h.pass (gs':=(B.setIfInBounds 0 (ga.finishComm p.P cs shape kf v true)).setIfInBounds (p.base+k) (I.finishComm p.P #[scase p.C v z] .send 0 undef false)) hk M (.inr hp) hC hd0 hd (a':=ga.finishComm p.P cs shape kf v true) (y':=I.finishComm p.P #[scase p.C v z] .send 0 undef false) U
   (by rw[jI M,oZ q9]) (by rw[oZ (by simpa using Q)]) (λi T h2=>by rw[jI (dG h2),jI (dG T)])
   (fn:=I.frame.fn) (fn':=ga.frame.fn) (pos:=I.frame.place) (pos':=ga.frame.place) w.drawn u9 u5 q0 q7 q8 sl (cap:=0)
  refine⟨_,_,E,W,T,?_⟩;have e:Y++(MemOp.ofEvents (p.base+k) g.frame.fn g.frame.place #[]++#[{g:=p.base+k,fn:=I.frame.fn,pos:=I.frame.place,act:=.send p.C s},{g:=0,fn:=ga.frame.fn,pos:=ga.frame.place,act:=.recv p.C s 0},{g:=p.base+k,fn:=I.frame.fn,pos:=I.frame.place,act:=.sendDone p.C s},{g:=0,fn:=ga.frame.fn,pos:=ga.frame.place,act:=.recvDone p.C s}])=
    Y++#[{g:=p.base+k,fn:=I.frame.fn,pos:=I.frame.place,act:=.send p.C s},{g:=0,fn:=ga.frame.fn,pos:=ga.frame.place,act:=.recv p.C s 0},{g:=p.base+k,fn:=I.frame.fn,pos:=I.frame.place,act:=.sendDone p.C s},{g:=0,fn:=ga.frame.fn,pos:=ga.frame.place,act:=.recvDone p.C s}]:=by
   rw[show MemOp.ofEvents (p.base+k) g.frame.fn g.frame.place #[]=#[] from rfl,uo]
  rw[e];exact h2
 .-- it waits
  have G:partners (B.setIfInBounds (p.base+k) ph) p.C false=[]:=by
   refine partners_nil λl y S=>?_;rcases getElem?_stand B (p.base+k) l y S with⟨_,rfl⟩ | ⟨_,S⟩
   .exact offersAt_ph _ _
   .rcases h.rv hT S with T | ⟨_,_,_,_,qJ,v,z,rfl⟩ | ⟨_,e,_⟩
    .exact nd T _ _
    .exact offersAt_parked_send' _ _ _ _ _ _
    .exact ar e hp
  have W:=crowd_waits (P:=p.P) (sl:=sl) hx q1 (λd hc=>by simp at hc;subst hc;exact ways_send_none hC (dA _) G);refine⟨_,_,meas p j ks (upd r k 11) F kt kx mt,W,?_,?_⟩
  .refine Prod.Lex.left _ _ (Prod.Lex.left _ _ ?_);rw[uh r k 11 M];have:=Gu (n:=p.n) (s:=11) hk q6 (show 11<r k by omega);omega
  .have et:Y++MemOp.ofEvents (p.base+k) g.frame.fn g.frame.place #[]=Y:=by rw[show MemOp.ofEvents (p.base+k) g.frame.fn g.frame.place #[]=#[] from rfl,rQ]
   rw[et];have H:∀J,J≠k->upd r k 11 J=r J:=λJ e=>upd_ne _ _ e;have u1:=h.I5 Q (y:=parked I #[scase p.C v z] .send);have X:∀J,upd r k 11 J<=7->J≠k:=λJ h7 e=>by subst e;rw[upd_same] at h7;omega
   refine⟨_,w,sl,j,ks,upd r k 11,F,cc,cv,q,kt,kx,mt,R,Ls,Sh,c,mv,rfl,?_,rfl⟩;refine{h with cast:=⟨λi y T h2 _ S=>u1.old i y T h2 M S,λJ K _=>?_,λv0 _=>u1.cl v0 M,λ_=>u1.mn M⟩,size:=(by simp[h.size]),gF:=λJ K=>?_,above:=λi hi=>h.above i (by simpa using hi),res:=(by simpa using h.res),iC:=λJ K h7=>?_,mode:=(by rw[uh r k 11 M];exact h.mode),pk:=λe=>ar e hp,rel:=λJ K h6=>?_,nr:=λJ K hR v1=>?_,rr:=λJ hR=>?_,xZ:=(by simpa using h.xZ)}
   .by_cases e:J=k
    .subst e;refine⟨_,by rw[oZ Q],?_⟩;rw[upd_same,hF,hd];exact .gP u9 u5 q0 u2 u3
    .obtain⟨y,S,hs⟩:=u1.wk J K M;exact⟨y,S,by rw[H J e];exact hs⟩
   .by_cases e:J=k
    .subst e;rw[upd_same];omega
    .rw[H J e];exact h.gF J K
   .have e:=X J h7;rw[H J e] at h7;obtain⟨a1,a2,a3,a4,a5⟩:=h.iC J K h7;refine⟨a1,a2,a3,a4,λu6 q5 hn u7=>?_⟩;have e':=X u6 u7;rw[H u6 e'] at u7;exact a5 u6 q5 hn u7
   .have e:=X J M;rw[H J e] at h6;exact h.rel J K h6
   .by_cases e:J=k
    .subst e;rw[upd_same];omega
    .rw[H J e];exact h.nr J K hR v1
   .by_cases e:J=k
    .subst e;exact ar hR q3
    .rw[H J e];exact h.rr J hR
def TB{l:aT}{v b z i:Value}{a m:CommShape}(h:parked g #[scase n v z] a=parked l #[scase n b i] m):v=b/\a=m/\∀u,Go.Conc.served g u=Go.Conc.served l u:=by
 cases g;cases l;simp[parked,scase] at h;obtain⟨q,d,r⟩:=h
 simp_all [Go.Conc.served]
def OH(p:eh)(R:bt)(g:aT)(L:LH):Prop:=
 p.ML R g L\/∃qJ kF cs shape kf kd zf zd,g={parked kF cs shape with status:=.running}/\pP p R qJ L kF cs shape kf kd zf zd
def OH.get{p:eh}(v:jH p)(h:OH p D g L):∃k d i shape q kd t n,pP p D k L d i shape q kd t n/\∀w,Sub L w->stepG p.P true g w=.comm d i true shape w #[]:=by
 rcases h with h | ⟨k,d,i,shape,q,kd,t,n,rfl,a⟩
 .obtain⟨_,d,i,shape,q,kd,t,n,a⟩:=v D g L h;exact⟨g,d,i,shape,q,kd,t,n,a,a.comm⟩
 .exact⟨k,d,i,shape,q,kd,t,n,a,λw u=>(stepG_tries true i w).trans (a.again w u)⟩
def gI.aaw{p:eh}{S:dr}{ks:Bool}{st:bP}{F:eN}{cc:bP}{cv:fJ}{q:bP}{kt:CTag}{kx:Nat}{R:bt}{Ls:dD}{Sh:bt}{mv:Int}(hT:jH p)(h:gI p u D k S w Y m ks st F cc cv q kt kx .sN R Ls Sh c mv)(sl:gw)(hx:S[0]?=some g)(hF:F 0=.leaf)(u1:Deaf Y 0=0)(hs:OH p R g (Ls 0))(J:eF kt kx=false):
  ∃m' u2 Q,runT p.P (crowd S w sl) 0=(.next m',u2)/\pO (p.base+p.n+1) Q (meas p m ks st F kt kx .sN)/\nE p u D k Q m' (Y++u2):=by
 let⟨qJ,j,cs,shape,kf,kd,zf,zd,I,T⟩:=hs.get hT;have hb:=h.eJ;have v0:=h.jn;have K:=(iL.1 hx).1;have u3:stepG p.P (0==0) g w=.comm j cs true shape w #[]:=T w (h.res.sub 0);let⟨s,hC⟩:=h.ch;rw[J,zg] at hC;let⟨Yy,hD⟩:=h.cd;rw[J] at hD;have a:∀(H:Nat) (c':CommCase),H≠kf->cs[H]?=some c'->NoWays w (S.setIfInBounds 0 ph) c':=by
  intro H c' W hc;let⟨h1,_,h3⟩:=I.only H c' W hc;rw[h3];exact ways_recv_none hD (h.aaF hT h1 0)
 have u4:∀l:Array MemOp,Y++(MemOp.ofEvents 0 g.frame.fn g.frame.place #[]++l)=Y++l:=λl=>by rw[show MemOp.ofEvents 0 g.frame.fn g.frame.place #[]=#[] from rfl,uo]
 by_cases hp:partners (S.setIfInBounds 0 ph) p.C true=[]
 .-- afC is there:it waits
  have q0:∀r,r<m->st r≠11:=by
   intro r X e;let⟨y,hy,hw⟩:=h.cast.wk r X (by have:=h.lt_size X;omega);obtain⟨acJ,v',z,_,_,rfl,_⟩:=hw.N6 e;have:(p.base+r,0)∈partners (S.setIfInBounds 0 ph) p.C true:=mem_partners.2 ⟨_,by rw[jI M];exact hy,by rw[offersAt_parked_send,ax rfl];simp⟩;rw[hp] at this;cases this
  have G:=crowd_waits (P:=p.P) (sl:=sl) hx u3 (λx hc=>by
   obtain⟨H,W⟩:=IM.1 hc
   by_cases e:H=kf
   .subst e;rw[I.f] at W;cases W;exact ways_recv_none hC hp
   .exact a H x e W)
  refine⟨_,_,meas p m ks st F kt kx .gP,G,?_,?_⟩
  .refine Prod.Lex.left _ _ (Prod.Lex.left _ _ ?_);simp only[lV];omega
  .have et:Y++MemOp.ofEvents 0 g.frame.fn g.frame.place #[]=Y:=by rw[show MemOp.ofEvents 0 g.frame.fn g.frame.place #[]=#[] from rfl,rQ]
   rw[et];have B:=h.I5 K (y:=parked j cs shape);refine⟨_,w,sl,m,ks,st,F,cc,cv,q,kt,kx,.gP,R,Ls,Sh,c,mv,rfl,?_,rfl⟩;exact{h with cast:=⟨λi y h1 h2 _ hy=>B.old i y h1 h2 M hy,λk' q1 _=>B.wk k' q1 M,λq2 _=>B.cl q2 M,λ_=>⟨_,by rw[oZ K],by rw[hF,u1];exact .gP I⟩⟩,size:=(by simp[h.size]),jm:=h.jm,above:=λi hi=>h.above i (by simpa using hi),res:=(by simpa using h.res),mode:=h.mode,xD:=λ_=>J,pk:=λ_=>q0,xZ:=(by simpa using h.xZ)}
 .-- it meets one
  obtain⟨H,v,vj,zj,v1,d,q3,t,G⟩:=Ak (P:=p.P) (sl:=sl) hx u3 I.f a hC hp (λH k' W=>h.aaE hT W);rcases h.rv hT t with h1 | ⟨r,X,rfl,e,_⟩ | ⟨e,_⟩
  .rcases h1 with h1 | h1
   .exact ar rfl h1
   .cases h1
  .obtain⟨y,hy,hw⟩:=h.cast.wk r X (by have:=h.lt_size X;omega);obtain⟨acJ,v',z,Lk,Gv,rfl,_,q4,q5,u5,q6,u6,u7⟩:=hw.N6 e;rw[t] at hy;obtain⟨rfl,rfl,E⟩:=TB (bR hy);have u8:∀b o,Gv b=some (o,true)->Ls 0 b=none:=λb o hb=>h.res.apart (p.base+r) 0 b o M (u5 b _ hb);have q7:¬R r:=λe=>by have:=(h.rr r e).2;omega
   obtain⟨Tw,q8⟩:=u7.at;obtain⟨Tm,q9⟩:=(I.take r vj Gv M q7 u6 u8).at;have u9:=h.lt_size X;obtain⟨Q,h1,h2⟩:=h.pass (gs':=(S.setIfInBounds (p.base+r) (v.finishComm p.P #[scase p.C vj zj] .send 0 undef false)).setIfInBounds 0 (j.finishComm p.P cs shape kf vj true)) X M (.inl rfl) hC u1 q4 (a':=j.finishComm p.P cs shape kf vj true) (y':=v.finishComm p.P #[scase p.C vj zj] .send 0 undef false) U
    (by rw[oZ (by simpa using K)]) (by rw[jI M,oZ u9]) (λi h1 h2=>by rw[jI (dG h1),jI (dG h2)])
    (fn:=v.frame.fn) (fn':=j.frame.fn) (pos:=v.frame.place) (pos':=j.frame.place) d q5 u5 q6 (Tw:=Tw) (by rw[finishComm_send,E];exact q8) q9 sl (cap:=0)
   exact⟨_,_,Q,G,h1,by rw[u4];exact h2⟩
  .exact ar e q3
def gI.Vr{p:eh}{S0:bt}{E:dr}{ks:Bool}{st:bP}{F:eN}{cc:bP}{cv:fJ}{q:bP}{mt:gp}{R:bt}{Ls:dD}{Sh:bt}{mv:Int}(hT:jH p)(h:gI p u S0 k E w Y m ks st F cc cv q .ret 1 mt R Ls Sh c mv)(sl:gw)(T:E[p.base+p.n]?=g)(hd:Deaf Y (p.base+p.n)=0)(hs:vn p g L):
  ∃m' q3 vd,runT p.P (crowd E w sl) (p.base+p.n)=(.next m',q3)/\pO (p.base+p.n+1) vd (meas p m ks st F .ret 1 mt)/\nE p u S0 k vd m' (Y++q3):=by
 obtain⟨z3,B,q',v1,u8,v2,v4⟩:=hs;obtain⟨rfl,u9⟩:=h.EI U;have hb:=h.eJ;have v5:=BL h.jm rfl;have v6:=h.size;simp only[yS] at v6;have v7:(p.base+p.n==0)=false:=bU
 obtain⟨s,hC⟩:=h.ch;obtain⟨I,hD⟩:=h.cd;rw[show eF .ret 1=false from rfl] at hC hD;rw[zg] at hC;have G:=runT_crowd_go (P:=p.P) (sl:=sl) (i:=p.base+p.n) T (by rw[v7];exact v2 w _ _ hD);have q4:p.D<w.heap.size:=(iL.1 hD).1;have J:∀b,b≠p.D->(w.setChan p.D 0 #[] true I I false).heap[b]?=w.heap[b]?:=λb hb=>heap_setChan w p.D 0 #[] true I I false b hb;have K:(w.setChan p.D 0 #[] true I I false).heap[p.D]?=some (.chan 0 #[] true I I false):=uE w q4;have u6:(w.setChan p.D 0 #[] true I I false).heap.size=w.heap.size:=by simp[World.setChan]
 have u1:mI u (w.setChan p.D 0 #[] true I I false):=⟨h.same.tape,h.same.os,h.same.out⟩;generalize w.setChan p.D 0 #[] true I I false=w' at G J K u6 u1;have hU:MemOp.ofEvents (p.base+p.n) g.frame.fn g.frame.place (closeEvents p.D)=#[{g:=p.base+p.n,fn:=g.frame.fn,pos:=g.frame.place,act:=.access ⟨.obj p.D,false,true⟩},{g:=p.base+p.n,fn:=g.frame.fn,pos:=g.frame.place,act:=.close p.D}]:=by
  rw[ofEvents_eq];simp[closeEvents,MemAct.ofEvent]
 rw[hU] at G;generalize hX:({g:=p.base+p.n,fn:=g.frame.fn,pos:=g.frame.place,act:=.access ⟨.obj p.D,false,true⟩}:MemOp)=X at G;generalize hY:({g:=p.base+p.n,fn:=g.frame.fn,pos:=g.frame.place,act:=.close p.D}:MemOp)=l at G;have u4:X.g=p.base+p.n/\X.act=.access ⟨.obj p.D,false,true⟩:=Qu
 have v:l.g=p.base+p.n/\l.act=.close p.D:=Lt
 have t:∀Q∈(#[X,l]:Array MemOp),Q.g=p.base+p.n/\(∀H,Q.act≠.mark H)/\∀x,Q.act.touch?=some x->x.kind=.atomic/\dQ x.loc=p.D:=by
  intro Q j;simp only[zh,eP,kB,or_false] at j;rcases j with rfl | rfl
  .refine⟨u4.1,by rw[u4.2];simp,λx T=>?_⟩;rw[u4.2] at T;simp only[MemAct.touch?,kR] at T;subst T;exact⟨rfl,rfl⟩
  .refine⟨v.1,by rw[v.2];simp,λx T=>?_⟩;rw[v.2] at T;simp[MemAct.touch?] at T
 have u2:∀i,Deaf (Y++#[X,l]) i=Deaf Y i:=oX λQ j=>(t Q j).2.1;have q5:∀o,o<m->st o=1:=λo f=>h.Ae rfl f;have u3:p.base+p.n<E.size:=M
 have v8:∀R g L,p.ML R g L->g.status=.running:=λR g L x=>(hT R g L x).1;have get:∀i,i≠p.base+p.n->((E.map (woken p.P g B w')).setIfInBounds (p.base+p.n) B)[i]?=(E[i]?).map (woken p.P g B w'):=λi hi=>by
  rw[jI (dG hi),yn]
 have q0:((E.map (woken p.P g B w')).setIfInBounds (p.base+p.n) B)[p.base+p.n]?=B:=by rw[oZ (by simpa using u3)]
 have S:((E.map (woken p.P g B w')).setIfInBounds (p.base+p.n) B).size=E.size:=U
 have q6:oD Ls Sh (λb=>b=p.W\/b=p.D) (λi=>i=0\/(p.base<=i/\i<E.size)) w' (Y++#[X,l]):=by
  refine h.res.sync (i:=p.base+p.n) ⟨u6,λb hb=>J b λe=>hb (e▸h.KR)⟩ (.inr ⟨M,u3⟩) (λQ j=>(t Q j).1) λQ j x T=>?_;obtain⟨h1,h2⟩:=(t Q j).2.2 x T;exact⟨by rw[h1];simp,⟨_,h2,.inr rfl⟩,λh3=>by rw[h1] at h3;cases h3⟩
 have q1:∃a',((E.map (woken p.P g B w')).setIfInBounds (p.base+p.n) B)[0]?=some a'/\uZ p .sN R (F 0) (Deaf Y 0) a' (Ls 0):=by
  obtain⟨a,ha,hm⟩:=h.cast.mn M;rcases hm.status v8 with⟨CC,e⟩ | ⟨e,hT0,hd0,qJ,kF,cs,shape,kf,kd,zf,zd,rfl,BK⟩
  .have:mt=.sN:=u9.resolve_right CC;rw[this] at hm;exact⟨a,by rw[get 0 M,ha,mg,qA (.inl e)],hm⟩
  .have hw:woken p.P g B w' (parked kF cs shape)={parked kF cs shape with status:=.running}:=by
    unfold Go.Conc.woken;rw[ax (by simp[v1,u8])];exact again_some_closed BK.d K
   exact⟨_,by rw[get 0 M,ha,mg,hw],by rw[hT0,hd0];exact .again BK⟩
 have q7:lC .ret mt=.ret:=by rcases u9 with e | e <;> rw[e] <;> rfl
 have q8:=h.mode;rw[q7] at q8;obtain⟨qp,u7,_⟩:=h.acq rfl;have q2:Ij p k (Y++#[X,l]) qp:=u7.app λo r f hr=>hr.appOther (λQ j=>(t Q j).1) M;refine⟨_,_,meas p m true st (upd F (p.base+p.n) (Tree.num q')) .ret 0 .sN,G,?_,?_⟩
 .refine Prod.Lex.left _ _ (Prod.Lex.left _ _ ?_);have z4:1<=lV mt:=by rcases u9 with e | e <;> rw[e] <;> simp[lV]
  simp only[lV,jj];omega
 .refine⟨_,w',sl,m,true,st,upd F (p.base+p.n) (Tree.num q'),cc,cv,q,.ret,0,.sN,R,Ls,Sh,c,mv,rfl,?_,rfl⟩;refine{h with cast:=⟨λi y h1 h2 _ hy=>?_,λo f _=>?_,λ_ _=>⟨B,q0,?_⟩,λ_=>?_⟩,size:=S.trans h.size,jm:=⟨v5,rfl⟩,kk:=(λe=>nomatch e),above:=λi hi=>?_,res:=(by rw[S];exact q6),same:=u1,wg:=h.wg.of_block (J _ h.HI),mode:=q8,ch:=?_,cd:=⟨I,K⟩,xD:=(λe=>nomatch e),pk:=(λe=>nomatch e),rel:=λo f hs=>?_,said:=λv9 a ha hl hs=>?_,acq:=λ_=>⟨qp,q2,λ_=>?_⟩,xZ:=?_}
  .rw[get i M] at hy;obtain⟨z,hz,rfl⟩:=il.1 hy;obtain⟨q9,z1⟩:=h.cast.old i z h1 h2 M hz;rw[woken_quitsD q9,u2,upd_ne _ _ M];exact⟨q9,z1⟩
  .obtain⟨y,hy,hs⟩:=h.cast.wk o f Qt;have e1:=q5 o f;refine⟨y,by rw[get _ M,hy,mg,hs.woken (s₁:=0) (r₁:=0) λe=>by omega],?_⟩;rw[u2,upd_ne _ _ M];exact hs.rely (λh7=>J _ (h.iC o f h7).2.2.2.1) (λ⟨a,b,x⟩=>⟨a,b,x.of_block (J _ h.HI)⟩) (h.gF o f)
  .rw[u2,hd,upd_same];exact .quit v4
  .rw[u2,upd_ne _ _ M];exact q1
  .rw[u2];exact h.above i (by rw[<-S];exact hi)
  .by_cases e:p.C=p.D
   .refine⟨I,?_⟩;rw[e,K];simp[eF]
   .refine⟨s,?_⟩;rw[J _ e,hC];simp[e]
  .obtain⟨r,h1,h2⟩:=h.rel o f hs;exact⟨r,h1,h2.appOther (λQ j=>(t Q j).1) M⟩
  .obtain⟨z,hz,v0⟩:=touch_of ha;rcases getElem?_append_cases hz with⟨_,hz'⟩ | ⟨_,hzu⟩
   .obtain⟨h1,h2⟩:=h.said v9 a (by rw[touchAt_of hz'];exact v0) hl hs;exact⟨λe=>eA,λe=>(h2 e).app _⟩
   .have:=((t z hzu).2.2 a v0).1;rw[this] at hs;cases hs
  .have u5:(Y++#[X,l])[Y.size+1]?=l:=by rw[Fa M];simp
   have z2:(Y++#[X,l])[Y.size]?=X:=by rw[Fa (dA _)];simp
   refine⟨Y.size+1,by rw[act?_of u5,v.2],QU,⟨p.base+p.n,QU,?_⟩,?_,λi Q j hg ht=>?_⟩
   .rw[deaf_succ z2,deaf_old (dA _)];simp only[deafStep,u4.2];exact hd
   .have:=lt_of_act? u7.1;omega
   .rcases getElem?_append_cases j with⟨hi,_⟩ | ⟨hi,oK⟩
    .omega
    .by_cases e:i=Y.size+1
     .subst e;rw[u5] at j;cases j;rw[v.2] at ht;exact ar rfl ht
     .have:=lt_size_of_getElem? j;simp at this;omega
  .rw[S];refine h.xZ.app (x:=p.base+p.n) (λQ j=>(t Q j).1) (.inl (.inr ⟨M,u3⟩)) (λQ j=>(t Q j).2.1 _) λQ j x T _=>?_;obtain⟨_,h2⟩:=(t Q j).2.2 x T;exact⟨_,h2,.inr rfl⟩
def gI.at{p:eh}{v:dr}{z:Bool}{r:bP}{F:eN}{o:bP}{t:fJ}{q:bP}{j:CTag}{y:gp}{R:bt}{l:dD}{s:bt}{f:Int}(h:gI p u D n v w Y k z r F o t q j m y R l s c f)(d:Nat):gI p u D n v (w.at d) Y k z r F o t q j m y R l s c f:=
  {h with
    cast:=⟨h.cast.old,λe I i=>let⟨g,J,K⟩:=h.cast.wk e I i;⟨g,J,K.rely (λ_=>rfl) (λ⟨a,b,x⟩=>⟨a,b,x⟩) (h.gF e I)⟩,h.cast.cl,h.cast.mn⟩
    res:=⟨h.res.sub,h.res.apart,h.res.sh,h.res.ml,h.res.qm,h.res.seen,h.res.clean,h.res.qH,h.res.atomic⟩
    same:=h.same.at d
    wg:=h.wg
    ch:=h.ch
    cd:=h.cd}
def gI.awake{p:eh}{I:dr}{J:Bool}{r:bP}{F:eN}{G:bP}{H:fJ}{q:bP}{Q:CTag}{S:Nat}{T:gp}{R:bt}{W:dD}{X:bt}{f:Int}(C:jH p)(h:gI p u D k I w Y m J r F G H q Q S T R W X c f):∀g∈I,Go.Conc.awake g:=by
 intro g B tm;let⟨i,b⟩:=IM.1 B;let E:i<I.size:=(iL.1 b).1;let l:=h.size;let d:=h.eJ;rcases pU i with rfl | hp
 .let⟨a,s,t⟩:=h.cast.mn M;rw[b] at s;cases s;rcases t.status (λR g L x=>(C R g L x).1) with⟨_,e⟩ | ⟨e,_,_,o,kF,cs,shape,kf,kd,zf,zd,rfl,BK⟩
  .rw[e];simp
  .simp[parked]
 by_cases h1:i<p.base
 .let⟨hq,_⟩:=h.cast.old i g hp h1 M b;rcases hq.status with e | e <;> rw[e] <;> simp
 by_cases h2:i<p.base+m
 .let⟨y,j,t⟩:=h.cast.wk (i - p.base) M M;rw[show p.base+(i - p.base)=i by omega] at j t;rw[b] at j;cases j;rcases t.status with e | e | ⟨e,o,v,z,rfl⟩
  .rw[e];simp
  .rw[e];simp
  .simp[parked]
 .have K:J=true:=by
   cases J with
   | true=>rfl
   | false=>simp at l;omega
  subst K;have u1:=BL h.jm rfl;simp[yS] at l;let⟨y,j,t⟩:=h.cast.cl rfl M;rw[show p.base+p.n=i by omega] at j t;rw[b] at j;cases j;rcases t.status with⟨_,e | e⟩ | ⟨_,_,_,_,o,rfl,hk⟩
  .rw[e];simp
  .rw[e];simp
  .simp
def vR.runs{p:eh}{T:Tree}{v:Value}{d:Nat}(h:vR p k n T m v d g L w)(q:n≠1)(o:n≠11):g.status=.running:=by
 cases h with
 | own h=>exact h.running λ_ _ x=>x.run
 | gP=>exact ar rfl o
 | post h=>exact h.running λ_ _ x=>x.1
 | iC h=>exact WSit.running_of h q
def gI.K0{p:eh}{K:dr}{z:Bool}{r:bP}{F:eN}{Q:bP}{S:fJ}{q:bP}{j:CTag}{T:Nat}{G:gp}{R:bt}{W:dD}{X:bt}{C:Int}(B:jH p)(h:gI p u D k K w Y m z r F Q S q j T G R W X c C):∃(i:Nat) (g:aT),K[i]?=some g/\g.status=.running:=by
 let hb:=h.eJ;let l:=h.size;let⟨a,E,H⟩:=h.cast.mn M;rcases H.status (λR g L x=>(B R g L x).1) with⟨_,e⟩ | ⟨e,_⟩
 .exact⟨0,a,E,e⟩
 .-- C4 first one waits
  by_cases s:∃d,d<m/\r d≠1
  .let⟨d,f,v⟩:=s;let⟨y,I,hw⟩:=h.cast.wk d f Qt;exact⟨_,y,I,hw.runs v (h.pk e d f)⟩
  .let s:∀d,d<m->r d=1:=λd f=>qF λhn=>s ⟨d,f,hn⟩;have J:z=true:=by have:=h.jm;rw[e] at this;exact this.2
   subst J;simp[yS] at l;let u1:=BL h.jm rfl;obtain⟨y,I,f⟩:=h.cast.cl rfl M;let t:=h.xD e;let o:=h.mode;rw[show lC j G=j by rw[e];rfl] at o;generalize u2:F (p.base+p.n)=b at f;generalize u3:Deaf Y (p.base+p.n)=d0 at f;cases f with
   | blk H=>
    exfalso
    cases o with
    | opn v=>exact v.elim
    | reg v h2 h3=>
     obtain⟨i,hi,h5⟩:=exists_counted h3;simp only[cB,s i hi] at h5;omega
    | last L v h2 h3 h4=>simp only[cB,s L h2] at h3;omega
    | fin v=>exact v.elim
   | quit hq=>cases t
   | _ dq=>exact⟨_,y,I,dq.running λ_ _ x=>x.1⟩
def vg.iC{p:eh}(h:vg p g L)(a:Sub L w)(u:WgLive p.ty p.W w):∃k v m o,L k=some (o,true)/\qC p.P p.ty p.W k v 7 m 0 g w:=by
 let⟨_,m,k,v,c,e,t,q,z,r⟩:=h;refine⟨k,v,m,_,q,.r0 (r w u ?_)⟩;exact a.cell (by unfold LH.cell?;rwa[q])
def gI.workerStep{p:eh}{gs:dr}{j:Nat}{ks:Bool}{r:bP}{F:eN}{cc:bP}{cv:fJ}{q:bP}{kt:CTag}{kx:Nat}{mt:gp}{R:bt}{i:dD}{Sh:bt}{mv:Int}(hT:jH p)(h:gI p u D m gs w Y j ks r F cc cv q kt kx mt R i Sh c mv)(f:k<j)(b:gw)(X:gs[p.base+k]?=some g)(a:g.status=.running):
  ∃t K G,runT p.P (crowd gs w b) (p.base+k)=(.next t,K)/\pO (p.base+p.n+1) G (meas p j ks r F kt kx mt)/\nE p u D m G t (Y++K):=by
 let hb:=h.eJ;let u2:(p.base+k==0)=false:=bU
 let H:=h.res.sub (p.base+k);have u1:=h.lt_size f;obtain⟨y,hy,T⟩:=h.cast.wk k f M;rw[X] at hy;cases hy;have own:∀{S:cg},10<=r k->(∀C B E w',At p.P false p.Φ S C B E->vR p k (r k) C (cc k) (cv k) (Deaf Y (p.base+k)) B E w')->
   (∀w,Sub (i (p.base+k)) w->p.Φ w->∃B w' es E C,stepG p.P false g w=.go B w' es/\Tr (i (p.base+k)) E w w' es/\At p.P false p.Φ S C B E/\Tree.sub C (F (p.base+k)))->
   ∃t K G,runT p.P (crowd gs w b) (p.base+k)=(.next t,K)/\pO (p.base+p.n+1) G (meas p j ks r F kt kx mt)/\nE p u D m G t (Y++K):=by
  intro S u3 hK I;obtain⟨B,w',es,E,C,h1,z,h3,h4⟩:=I w H ⟨_,_,h.wg⟩;let u5:=h.jn;exact h.wU hT b X (.inr ⟨M,u1⟩) (by rw[u2];exact h1) z h4 (λe=>by omega) (λk' u6 e=>by
   obtain rfl:k'=k:=M
   exact⟨u3,hK _ _ _ _ h3⟩) (λ_ e=>by omega) (λ_ e=>by omega) (λe=>by omega)
 generalize I:r k=s at T;generalize Q:F (p.base+k)=T0 at T;generalize J:Deaf Y (p.base+k)=d0 at T;generalize W:i (p.base+k)=L0 at T;generalize u4:cc k=c0 at T;generalize u7:cv k=v0 at T;cases T with
 | own dq=>
  rcases dq.cases with⟨hs | ⟨hmu,hs⟩,hl⟩ | ⟨_,wT⟩
  .exact h.aaD hT f b X I (Q.trans hl) J (by rw[W];exact hs)
  .obtain⟨d,v,l,o,h1,z⟩:=hs.iC (W▸H) ⟨_,_,h.wg⟩;exact h.zQ hT f b X a (by rw[J];exact z) (.inr ⟨rfl,M,M,λ_=>hmu,o,by rw[W];exact h1⟩)
  .exact own M (λ_ _ _ _ x=>by rw[I,J];exact .own x) (by rw[Q,W];exact wT)
 | gP=>cases a
 | post dq=>
  rcases dq.cases with⟨hs,hl⟩ | ⟨_,wT⟩
  .obtain⟨d,v,l,o,h1,z⟩:=hs.iC (W▸H) ⟨_,_,h.wg⟩;exact h.zQ hT f b X a (by rw[J];exact z) (.inr ⟨rfl,M,M,λe=>by omega,o,by rw[W];exact h1⟩)
  .exact own M (λ_ _ _ _ x=>by rw[I,J];exact .post x) (by rw[Q,W];exact wT)
 | iC hl=>exact h.zQ hT f b X a (by rw[J];exact hl) (.inl ⟨I.symm,u4.symm,Q⟩)
def gI.Jg{p:eh}{u9:dp}{S0:bt}{gs:dr}{t:Trace}{ks:Bool}{st:bP}{F:eN}{cc:bP}{cv:fJ}{q:bP}{kt:CTag}{R:bt}{Ls:dD}{Sh:bt}{mv:Int}(hT:jH p)(v7:∀g L,p.Fin g L->pJ p.P u9 u g L)(h:gI p u S0 n gs w t k ks st F cc cv q kt m .sN R Ls Sh c mv)(sl:gw)(hx:gs[0]?=some g)(v8:Deaf t 0=0)(hs:OH p R g (Ls 0))(q0:eF kt m=true):
  ∃m' v9,runT p.P (crowd gs w sl) 0=(.next m',v9)/\fM p.P u9 m' (t++v9):=by
 obtain⟨rfl,rfl⟩:=zr q0;obtain⟨qJ,S,cs,shape,kf,kd,zf,zd,K,q7⟩:=hs.get hT;obtain⟨rfl,_⟩:=h.EI U;have hb:=h.eJ;have i2:=BL h.jm rfl;have d3:=h.size;simp only[yS] at d3;have z1:0<gs.size:=(iL.1 hx).1;have u1:∀l,l<k->st l=1:=λl G=>h.Ae rfl G;have d4:stepG p.P (0==0) g w=.comm S cs true shape w #[]:=q7 w (h.res.sub 0);obtain⟨s,hC⟩:=h.ch;obtain⟨Yy,hD⟩:=h.cd;rw[q0] at hC hD;have z2:=h.Wl hT (λl G=>by have:=u1 l G;omega);have z3:=crowd_sel_recv_closed (P:=p.P) (sl:=sl) hx d4 K.d (λI c' hm hc=>by
  rcases K.no I c' hc with e | e
  .subst e;rw[K.f] at hc;cases hc;have X:p.C≠p.D:=λe=>hm (K.one.1 e);rw[show decide (p.C=p.D)=false by simp[X],yQ] at hC;exact ways_recv_none hC (z2 _ _)
  .exact ar e hm) hD (z2 _ _)
 refine⟨_,_,z3,?_⟩;rw[show MemOp.ofEvents 0 g.frame.fn g.frame.place #[]=#[] from rfl,uo];generalize hY:({g:=0,fn:=S.frame.fn,pos:=S.frame.place,act:=.recvClosed p.D}:MemOp)=Y;have v:Y.g=0/\Y.act=.recvClosed p.D:=Lt
 have q8:∀J∈(#[Y]:Array MemOp),J.act.touch?=none/\∀I,J.act≠.mark I:=by
  intro J j;simp only[zh,eP,kB,or_false] at j;subst j;rw[v.2];exact⟨rfl,U⟩
 have u2:∀i,Deaf (t++#[Y]) i=Deaf t i:=oX λJ j=>(q8 J j).2;have q9:∀{idx:Nat} {a:Touch},touchAt (t++#[Y]) idx=some a->touchAt t idx=some a:=nk λJ j=>(q8 J j).1;have u5:(t++#[Y])[t.size]?=some Y:=by rw[Fa (dA _)];simp
 obtain⟨qp,z4,z5⟩:=h.acq rfl;obtain⟨q1,q2,q3,q4⟩:=z4;obtain⟨H,c1,c2,c3,c4,c5⟩:=z5 rfl;have v1:=lt_of_act? q1;have u6:=lt_of_act? c1
 -- close SW before C4 adA
 have z6:HappensBefore (t++#[Y]) H t.size:=.single (.inr ⟨.closed (c:=p.D) (by rw[act?_old u6];exact c1) (by rw[act?_of u5,v.2]),(heard_old u6).2 c3,⟨0,QU,by rw[deaf_old (dA _)];exact v8⟩⟩);have d5:HappensBefore (t++#[Y]) qp t.size:=.trans (.single (.inl ⟨c4,p.base+p.n,by rw[g?_old v1];exact q2,by rw[g?_old u6];exact c2⟩)) z6;have z7:∀l r,l<p.n->n<=r->RelBy (stA p.W) t (p.base+l) r->r<qp->HappensBefore (t++#[Y]) r t.size:=by
  intro l r G hn hr u7;have u8:=lt_of_act? hr.act;refine .trans (.single (.inr ⟨.marked u7 (.inr (by rw[act?_old u8];exact hr.act)) (by rw[act?_old v1];exact q1) (λi i3 i4=>?_),(heard_old u8).2 hr.heard,(heard_old v1).2 q3⟩)) d5;rw[act?_old M];exact h.xZ.norel i M
 -- ah8 a ajN did ajm counts,or ajp not atomically,SW before C4 adA
 have q5:∀i J,n<=i->t[i]?=some J->J.g≠0->J.act.touch?≠none->HappensBefore (t++#[Y]) i t.size\/(¬t.counts i):=by
  intro i J T j X ht;have Q:=lt_size_of_getElem? j;have v2:t.g? i=J.g:=by simp[Trace.g?,j]
  rcases h.xZ.rv i J T j ht with e | ⟨e1,e2⟩
  .exact ar e X
  .by_cases e3:J.g=p.base+p.n
   .left
    have:=c5 i J j e3 ht;exact .trans (.single (.inl ⟨this,p.base+p.n,by rw[g?_old Q,v2,e3],by rw[g?_old u6];exact c2⟩)) z6
   .have G:J.g - p.base<p.n:=by omega
    obtain⟨r,hn,hr,u7⟩:=q4 (J.g - p.base) G;rw[show p.base+(J.g - p.base)=J.g by omega] at hr;have u8:=lt_of_act? hr.act;rcases Nat.lt_trichotomy i r with d6 | rfl | hgt
    .left
     exact .trans (.single (.inl ⟨d6,J.g,by rw[g?_old Q];exact v2,by rw[g?_old u8];exact hr.g⟩)) (z7 (J.g - p.base) r G hn YD u7)
    .left
     exact z7 (J.g - p.base) i G hn YD u7
    .right
     exact hr.after i hgt v2
 have z8:∀i,∃o,∀y,0<i->gs[i]?=some y->QuitsD p.P o (Deaf (t++#[Y]) i) y:=by
  intro i
  by_cases T:0<i/\i<gs.size
  .by_cases h1:i<p.base
   .exact⟨q i,λy _ hy=>by rw[u2];exact(h.cast.old i y T.1 h1 M hy).1⟩
   .by_cases h2:i<p.base+k
    .obtain⟨y,hy,hw⟩:=h.cast.wk (i - p.base) M M;rw[show p.base+(i - p.base)=i by omega] at hy hw;have e1:=u1 (i - p.base) M;rw[e1] at hw;generalize d7:F i=T0 at hw;generalize v4:Deaf t i=d0 at hw;generalize hL:Ls i=L0 at hw;generalize cc (i - p.base)=c0 at hw;generalize cv (i - p.base)=v0 at hw;cases hw with
     | iC hl=>
      cases hl with
      | quit hq=>exact⟨_,λy' _ u3=>by rw[hy] at u3;cases u3;rw[u2,v4];exact hq⟩
    .obtain⟨y,hy,G⟩:=h.cast.cl rfl M;rw[show p.base+p.n=i by omega] at hy G;generalize d7:F i=T0 at G;generalize v4:Deaf t i=d0 at G;cases G with
     | quit hq=>exact⟨_,λy' _ u3=>by rw[hy] at u3;cases u3;rw[u2,v4];exact hq⟩
  .exact⟨0,λy h0 hy=>ar ⟨h0,(iL.1 hy).1⟩ T⟩
 have get:∀i,i≠0->(gs.setIfInBounds 0 (S.finishComm p.P cs shape kd zd false))[i]?=gs[i]?:=λi T=>jI (dG T);have z9:∀b,(S0 b\/b=p.W\/b=p.D)->Sh b:=λb hb=>hb.elim (h.CX b) λhb=>hb.elim (λe=>e▸h.sO) (λe=>e▸h.KR);refine v7 _ _ (K.fin λl G=>?_) _ w sl _ (λi=>(z8 i).choose) (λb=>S0 b\/b=p.W\/b=p.D) (by rw[oZ z1]) (h.res.sub 0) h.same ⟨λi y T hy=>?_,λi T=>?_⟩ ⟨λsaid=>xE (h.res.clean said) λJ j=>(q8 J j).1,λi a b ha B=>?_,λi gg hg X hc=>?_,by rw[u2];exact v8,λi a b ha B=>h.res.seen i a b (q9 ha) B⟩ λb hb=>⟨h.res.ml b (z9 b hb),h.res.sh 0 b (z9 b hb)⟩
 .by_cases hR:R l
  .exact .inl hR
  .rcases h.nr l G hR M with e | e
   .have:=u1 l M;omega
   .exact .inr e.2
 .rw[get i M] at hy;exact(z8 i).choose_spec y T hy
 .rw[u2];exact h.above i (by simpa using T)
 .have E:=q9 ha;obtain⟨J,j,v5⟩:=touch_of E;have Q:=lt_size_of_getElem? j
  by_cases T:i<n
  .exact(h.xZ.known i a b T E B).imp (·.app _) λx=>⟨.inl x.1,x.2⟩
  .by_cases d1:J.g=0
   .left
    have:=knows_own (t:=t++#[Y]) (i:=i) (z:=J) (by rw[getElem?_append_old Q];exact j);rw[d1] at this;exact this
   .rcases q5 i J M j d1 (by rw[v5];simp) with hh | hh
    .exact .inl ⟨t.size,Y,u5,v.1,.inr hh⟩
    .right
     have u4:a.kind=.atomic:=qF λG=>hh ⟨a,E,by cases hl:a.loc <;> rw[hl] at B <;> simp[dQ] at B <;> rfl,.inl G⟩;exact⟨.inr (h.xZ.xk i a b M E (by rw[u4];simp) B),u4⟩
 .have d8:(t++#[Y]).counts i:=hc;obtain⟨x,d9,i5,i6⟩:=d8;have E:=q9 (idx:=i) (a:=x) d9;obtain⟨J,j,v5⟩:=touch_of E;have Q:=lt_size_of_getElem? j;have q6:t.counts i:=(counts_old Q).1 hc;rw[g?_old Q] at hg;have d2:J.g=gg:=by simpa [Trace.g?,j] using hg
  by_cases T:i<n
  .obtain⟨j',v6,i0⟩:=h.xZ.over i gg T hg X q6;have i1:j'<t.size:=by
    unfold Trace.g? at v6;obtain⟨z,hz,_⟩:=il.1 v6;exact lt_size_of_getElem? hz
   exact⟨j',by rw[g?_old i1];exact v6,hb_app _ i0⟩
  .rcases q5 i J M j (by rw[d2];exact X) (by rw[v5];simp) with hh | hh
   .exact⟨t.size,QU,hh⟩
   .exact ar q6 hh
def Wy{p:eh}{W0:World}{I:dp}{S0:bt}{n0:Nat}(J:jH p)(hA:∀g L,p.Anch g L->Way p.P false p.Φ (U5 p) g L)(o:∀g L,p.Fin g L->pJ p.P I W0 g L):∀μ m t,nE p W0 S0 n0 μ m t->fM p.P I m t:=by
 intro μ
 induction μ using (pO.wf (p.base+p.n+1)).induction with
 | _ μ ih=>
 intro m t hI;obtain⟨c,w,sl,j,B,st,F,cc,cv,q,E,s,mt,R,Ls,Sh,sv,mv,rfl,h,rfl⟩:=hI;let⟨i,g,d,u,l,C,H⟩:=crowd_pick (P:=p.P) (w:=w) (sl:=sl) (h.awake J) (h.K0 J);have h:=h.at d;have done:(∃Q x K,runT p.P (crowd c (w.at d) u) i=(.next Q,x)/\pO (p.base+p.n+1) K (meas p j B st F E s mt)/\nE p W0 S0 n0 K Q (t++x))->fM p.P I (crowd c w sl) t:=by
  rintro⟨Q,x,K,S,z,h3⟩;exact fM.next (H.trans S) (ih K z Q _ h3)
 have e:i<c.size:=(iL.1 l).1;have W:=h.size;have hb:=h.eJ;rcases pU i with rfl | hp
 .obtain⟨a,ha,hm⟩:=h.cast.mn M;rw[l] at ha;cases ha;rcases h.ahC J u l hm C with hd | ⟨r,rfl,v,G⟩ | ⟨rfl,v,G⟩ | ⟨rfl,hF,v,G⟩
  .exact done hd
  .exact done (h.Py u l v G)
  .exact done (h.acF (h.r0 h.jm.2) u l v G)
  .cases D:eF E s with
   | false=>exact done (h.aaw J u l hF v G D)
   | true=>
    obtain⟨Q,x,S,z⟩:=h.Jg J o u l v G D;exact fM.next (H.trans S) z
 by_cases S:i<p.base
 .exact done (h.J9 J hp S u l C)
 by_cases z:i<p.base+j
 .have:=h.workerStep J (k:=i - p.base) M u (by rw[show p.base+(i - p.base)=i by omega];exact l) C;rw[show p.base+(i - p.base)=i by omega] at this;exact done this
 .have u1:B=true:=by
   cases B with
   | true=>rfl
   | false=>simp at W;omega
  subst u1;have u2:=BL h.jm rfl;simp only[yS] at W;obtain rfl:i=p.base+p.n:=M
  obtain⟨y,hy,f⟩:=h.cast.cl rfl M;rw[l] at hy;cases hy
  by_cases b:E=.ret/\s=1/\vn p g (Ls (p.base+p.n))/\F (p.base+p.n)=.leaf
  .obtain⟨rfl,rfl,b,hF⟩:=b;have hd:Deaf t (p.base+p.n)=0:=by
    generalize u3:Deaf t (p.base+p.n)=d0 at f;generalize F (p.base+p.n)=T0 at f;cases f
    rfl
   exact done (h.Vr J u l hd b)
  .exact done (h.ahr J hA rfl u l C f λT X=>b ⟨X.1,X.2.1,X.2.2.1,by rw[X.2.2.2.2];exact X.2.2.2.1⟩)
def LH.kJ(L:LH)(W C D:Nat):LH:=λb=>if b=W\/b=C\/b=D then none else L b
def pJ.aja{K:dp}{W0:World}(p:eh)(hn:p.n<2147483647)(J:p.W≠p.C/\p.W≠p.D)
  (hW:L p.W=some (wgBlock p.ty 0 0,true))(hC:L p.C=some (.chan 0 #[] false 0 0 false,true))(hD:L p.D=some (.chan 0 #[] false 0 0 false,true))
  (hT:∀b,jH {p with base:=b})(hA:∀b g L,p.Anch g L->Way p.P false p.Φ (U5 {p with base:=b}) g L)(u1:∀g L,p.Fin g L->pJ p.P K W0 g L)
  (hM:∀b,vP {p with base:=b} p.n g (L.kJ p.W p.C p.D)):pJ p.P K W0 g L:=by
 intro c w sl t q S h0 H hS u2 v Q;let u3:0<c.size:=(iL.1 h0).1;let u7:∀b,L b≠none->¬S b:=λb d H=>d (Q b H).2;let R:∀i a b,touchAt t i=some a->dQ a.loc=some b->L b≠none->Knows t 0 i:=λi a b s d F=>(v.known i a b s d).resolve_right λx=>u7 b F x.1;obtain⟨mt,T,u8,m,l,u4⟩:∃mt T,uZ {p with base:=c.size} mt (λ_=>False) T 0 g (L.kJ p.W p.C p.D)/\JB p.n 0 false mt/\ConcN.Mode 0 (cB λ_=>0) (lC .kd mt) 0 0/\mt≠.gP:=by
  let hm:=hM c.size;let G:∀E,isOpen E->pend E=0->(∀vs,E≠.w2 vs)->ConcN.Mode 0 (cB λ_=>0) E 0 0:=λE h1 h2 h3=>by
   have:=ConcN.Mode.opn (tag:=E) (j:=0) (D:=cB λ_=>0) h1 (λa s=>ar s (nW _)) (λvs e=>ar e (h3 vs));rw[h2] at this
   simpa [Vc,sumTo] using this
  obtain⟨n,u5⟩:∃n,p.n=n:=⟨_,rfl⟩;have u6:vP {p with base:=c.size} n g (L.kJ p.W p.C p.D):=by rw[<-u5];exact hm
  clear hm;cases n with
  | zero=>
   obtain⟨T,X⟩:=Way.at (show Way p.P true p.Φ (GA {p with base:=c.size}) g _ from u6);exact⟨.D8,T,.D8 X,⟨u5.symm,rfl⟩,G _ trivial rfl (by simp[lC]),U⟩
  | succ r=>
   obtain⟨T,X⟩:=Way.at (show Way p.P true p.Φ (RH {p with base:=c.size} (p.n - (r+1)) (vP {p with base:=c.size} r)) g _ from u6);exact⟨.kd r,T,.kd X,⟨M,rfl⟩,G _ trivial rfl (by simp[lC]),U⟩
 have z:∀b o wr,L.kJ p.W p.C p.D b=some (o,wr)->L b=some (o,wr)/\b≠p.W/\b≠p.C/\b≠p.D:=by
  intro b o wr d;unfold LH.kJ at d
  split at d
  .cases d
  .rename_i u;exact⟨d,λe=>u (.inl e),λe=>u (.inr (.inl e)),λe=>u (.inr (.inr e))⟩
 have h:Sub (L.kJ p.W p.C p.D) w:=λb o wr d=>H b o wr (z b o wr d).1;have B:∀b,L b≠none->b<w.heap.size:=λb d=>H.lt d;refine Wy (p:={p with base:=c.size}) (W0:=W0) (S0:=S) (n0:=t.size) (hT c.size) (hA c.size) u1 _ _ t ⟨c,w,sl,0,false,λ_=>0,λi=>if i=0 then T else Tree.num (q i),λ_=>0,λ_=>undef,q,.kd,0,mt,λ_=>False,upd (λ_=>LH.nil) 0 (L.kJ p.W p.C p.D),λb=>b=p.W\/b=p.C\/b=p.D\/S b,0,0,rfl,?_,rfl⟩;refine{cast:=⟨λi y h1 h2 _ hy=>⟨u2.old i y h1 hy,by rw[A M]⟩,λk f=>ar f (nW _),λe=>eA,λ_=>⟨g,h0,?_⟩⟩,size:=U,eJ:=u3,jn:=fj _,nn:=hn,jm:=m,kk:=λ_=>⟨rfl,rfl⟩,gF:=λk f=>ar f (nW _),above:=u2.above,res:=?_,sO:=.inl rfl,MA:=.inr (.inl rfl),KR:=.inr (.inr (.inl rfl)),CX:=λb d=>.inr (.inr (.inr d)),HH:=J.1,HI:=J.2,iC:=λk f=>ar f (nW _),same:=hS,wg:=H _ _ _ hW,mode:=l,ch:=⟨0,?_⟩,cd:=⟨0,H _ _ _ hD⟩,xD:=(λe=>ar e u4),pk:=(λe=>ar e u4),rel:=λk f=>ar f (nW _),said:=λI a s F _=>⟨λ_=>?_,λe=>eA⟩,acq:=(λe=>nomatch e),nr:=λk _ _ f=>ar f (nW _),rr:=λk f=>f.elim,r0:=λ_ _ f=>f,xZ:=?_}
 .rw[ax rfl,upd_same,v.hears];exact u8
 .refine⟨λi=>?_,λi j b o u9 d=>?_,λi b d=>?_,λb d=>?_,λi I a b o wr s d F hw=>?_,v.seen,v.clean,λb d=>?_,λI a b s d hA hp i hi=>?_⟩
  .by_cases e:i=0
   .subst e;rw[upd_same];exact h
   .rw[upd_ne _ _ e];intro b o wr d;cases d
  .by_cases e:i=0
   .subst e;rw[upd_ne _ _ (dG u9)];rfl
   .rw[upd_ne _ _ e] at d;cases d
  .by_cases e:i=0
   .subst e;rw[upd_same];unfold LH.kJ
    split
    .rfl
    .rename_i u;rcases d with e | e | e | e
     .exact ar (.inl e) u
     .exact ar (.inr (.inl e)) u
     .exact ar (.inr (.inr e)) u
     .exact(Q b e).2
   .rw[upd_ne _ _ e];rfl
  .rcases d with e | e | e | e
   .subst e;exact B _ (by rw[hW];simp)
   .subst e;exact B _ (by rw[hC];simp)
   .subst e;exact B _ (by rw[hD];simp)
   .exact(Q b e).1
  .by_cases e:i=0
   .subst e;rw[upd_same] at F;exact R I a b s d (by rw[(z b o wr F).1];simp)
   .rw[upd_ne _ _ e] at F;cases F
  .rcases d with e | e
   .exact .inl e
   .exact .inr (.inr (.inl e))
  .have q0:i=0:=by
    rcases hi with e | e
    .exact e
    .simp only at e;omega
   subst q0;refine R I a b s d ?_;rcases hA with e | e
   .simp only at e;subst e;rw[hW];simp
   .simp only at e;subst e;rw[hD];simp
 .have:=H _ _ _ hC;simp only[eF,zg];exact this
 .refine R I a p.W s (by rw[F];rfl) (by rw[hW];simp)
 .exact⟨dA _,λi a b _ s d=>v.known i a b s d,λi g _ hg J hc=>v.over i g hg J hc,λi op hi ho=>by have:=lt_size_of_getElem? ho;omega,λi hi s=>by have:=lt_of_act? s;omega,λi a b hi s=>by
   obtain⟨x,hx,_⟩:=touch_of s;have:=lt_size_of_getElem? hx;omega⟩
end
end Go.Mz
