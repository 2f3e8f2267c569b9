/- Lemmas for the claim. -/
import Derived.Test.YtjhpkghkgaekcaaGreatDoorMzAs
import Derived.Conc.ClockLaws
import Derived.Conc.WgGenAddNeg
import Derived.KernelRfl
set_option linter.defProp false
namespace Go.Mz
open Go.Conc Go.ConcN
open Go.ConcR (KK wgBlock WgAt stA smA rd wr Payload Aside2 DC0 Bk bk_of_mute)
namespace Mu
def sum_add(f g:x9):∀l:List Th,sum (λT=>f T+g T) l=sum f l+sum g l
 | []=>rfl
 | T::l=>by have:=sum_add f g l;simp[sum];omega
def Uw{f:x9}(h:∀T,f T<=1):∀l:List Th,sum f l<=l
 | []=>dA _
 | T::l=>by have:=Uw h l;have:=h T;simp[sum,pR];omega
def Inv.aiC{l:oR}{S:Sh}(h:Inv l S):S.w.c<=l:=by
 let q:=Uw (f:=λT=>fQ T+gE T) (λT=>by
  let⟨m,y,u,v,n,e,left,j⟩:=T;cases m <;> cases j <;> simp[fQ,gE,dj]) l
 rw[sum_add] at q;have:=h.cnt;omega
variable {T:Th}{S:Sh}
def Fits.c6(h:Fits T S):S.w.c<=6:=by let⟨l,i,_,o⟩:=h;have:=i.aiC;omega
def Fits.held(h:Fits T S)(a:T.pc=.own\/T.pc=.u0):S.w.l=true:=by let⟨l,i,u,_⟩:=h;exact i.held u a
def Fits.handed(h:Fits T S)(a:0<gE T):S.w.l=false/\S.w.s=true/\S.w.w=false/\0<S.w.c:=by let⟨l,i,u,_⟩:=h;exact i.handed u a
def Fits.woken(h:Fits T S)(a:T.pc=.r2)(u:S.w.s=true):0<gE T:=by let⟨l,i,q,_⟩:=h;exact i.woken q a u
def Fits.tok(h:Fits T S):S.n+S.h<=2:=by
 let⟨l,i,u,_⟩:=h;let q:=i.wok;let z:=i.hnd;have:=O1 S.w.w;have:=O1 (!S.w.l&&S.w.s);omega
end Mu
structure qD(b:bH)(pre post:List Value)(e:TypeId):Prop where
 xo:b.xo=λst sm=>.cells (pre++.int .i32 st::.int .u32 sm::post).toArray e (0,0)
 ma:b.ma=⟨b.X,pre.length,none⟩
 ms:b.ms=⟨b.X,pre.length+1,none⟩
section
variable {b:bH}{pre post:aR}{e:bh}{w:World}{S:Mu.Sh}
def qD.at(h:qD b pre post e)(u:b.yz w S):w.heap[b.X]?=some (.cells (pre++.int .i32 (Mu.enc S.w)::.int .u32 ((S.n+S.h:Nat):Int)::post).toArray e (0,0)):=by
 have:w.heap[b.X]?=_:=u;rw[h.xo] at this;exact this
def qD.O9(h:qD b pre post e)(u:b.yz w S):w.cell? b.ma=some (.int .i32 (Mu.enc S.w)):=by
 rw[h.ma,jE (h.at u)];simp
def qD.XK(h:qD b pre post e)(u:b.yz w S):w.cell? b.ms=some (.int .u32 ((S.n+S.h:Nat):Int)):=by
 rw[h.ms,jE (h.at u)];simp[List.getElem?_append]
def qD.thaw(h:qD b pre post e)(u:b.yz w S){a:Addr}(s:a.block=b.X):w.frozen? a=false:=by
 have:=h.at u;rw[<-s] at this;simp[World.frozen?,this]
def qD.adH(h:qD b pre post e)(u:b.yz w S)(z:Mu.Wd):b.yz (w.setCell b.ma (.int .i32 (Mu.enc z))) {S with w:=z}:=by
 unfold bH.yz;rw[heap_setCell,h.ma,ax rfl,h.at u,h.xo];simp[ng]
def qD.WR(h:qD b pre post e)(u:b.yz w S)(q p:Nat):b.yz (w.setCell b.ms (.int .u32 ((q+p:Nat):Int))) {S with n:=q,h:=p}:=by
 unfold bH.yz;rw[heap_setCell,h.ms,ax rfl,h.at u,h.xo];simp[ng,List.set_append]
def ui.refl(X:Nat)(w:World):ui X w w:=⟨rfl,λ_ _=>rfl,rfl,rfl,.refl _⟩
def ui.set{m:Nat}(w:World){a:Addr}(s:a.block=m)(v:Value):ui m w (w.setCell a v):=
 ⟨by simp[World.setCell],λk f=>by rw[heap_setCell,A (λe=>f (e.trans s))],rfl,rfl,.refl _⟩
def ui.later(X:Nat)(w:World):ui X w w.later:=⟨rfl,λ_ _=>rfl,rfl,rfl,⟨w.tick,rfl⟩⟩
def ui.asked(X:Nat)(w:World):ui X w w.asked:=⟨rfl,λ_ _=>rfl,rfl,rfl,.refl _⟩
def zo:b.Y5 #[]:=⟨λe z=>by simp at z,rfl⟩
def ag5:b.Y5 #[⟨.cell b.ma,false,true⟩]:=by
 refine⟨λe z=>?_,Lq⟩;simp at z;subst z;exact⟨λy g=>by simp[MemAct.ofEvent,MemAct.touch?,kR] at g;subst g;exact⟨rfl,.inl rfl⟩,lX,lX⟩
def XJ:b.Y5 #[⟨.cell b.ma,false,true⟩,⟨.cell b.ma,true,true⟩]:=by
 refine⟨λe z=>?_,Lq⟩;simp at z;rcases z with rfl | rfl <;> exact⟨λy g=>by simp[MemAct.ofEvent,MemAct.touch?,kR] at g;subst g;exact⟨rfl,.inl rfl⟩,lX,lX⟩
def I0:b.Y5 (semEvents b.ms):=by
 refine⟨λe z=>?_,Qs⟩;simp[semEvents] at z;rcases z with rfl | rfl | rfl | rfl
 .exact⟨λy g=>by simp[MemAct.ofEvent,MemAct.touch?] at g,lX,lX⟩
 .exact⟨λy g=>by simp[MemAct.ofEvent,MemAct.touch?,kR] at g;subst g;exact⟨rfl,.inr rfl⟩,lX,lX⟩
 .exact⟨λy g=>by simp[MemAct.ofEvent,MemAct.touch?,kR] at g;subst g;exact⟨rfl,.inr rfl⟩,lX,lX⟩
 .exact⟨λy g=>by simp[MemAct.ofEvent,MemAct.touch?] at g,lX,lX⟩
end
abbrev LK(b:bH)(H:Nat)(f:Nat)(s:Ws):aM b.P:=iY b.P false (b.Φ H) (vO b H f s)
def BN(u:Bool):Mu.Th->Ph:=if u then EN else Ha
def JU(u:Bool):Ph:=if u then .ul else .lk
section
variable {b:bH}{H:Nat}{C:Cx b.P}{n:Nat}{l:cj}{k:bI}{E:Env}{B:aX}{L:LH}{j:cU}{i:Nat}{q:List Nat}
variable {f:Nat}{u:Bool}{T:Mu.Th}{J:Option Nat}
def W.mu{d:Nat}{o:Oper}(hX:C.X=LK b H f ⟨JU u,T,J⟩)(y:C.ro=none)(ho:nth j.toList i=o)(hd:o.dst=d)(p:Nat.blt d n=true)(hg:bG (get E) j.toList o.guard=true)
  (h:∀f',f=f'+1->∀(r:aK) (g:aT) (z:Value->Goroutine),(∀x sv v,bZ (get E) x=some sv->den fe sv=some v->(⟨r,l⟩:Act).eval x=v)->Region.wanted o (yielded j (⟨r,l⟩:Act).tmps)=true->j[i]?=o->
   g=G ((bF C.f C.kd).at ⟨r,l⟩ (.inRegion j (i::q)::k)) C.cs->(∀v,z v=G ((bF C.f C.kd).at ((⟨r,l⟩:Act).put o.dst v) (.inRegion j q::k)) C.cs)->
   ∀S w,Mu.Fits T S->b.yz w S->(u=false/\T.pc=.s1/\S.n+S.h=0/\stepG b.P false g w=.go {g with status:=.blocked} w #[])\/
    ∃m s v c F,Mu.Step T S m s/\stepG b.P false g w=.go (z v) c F/\b.yz c s/\ui b.X w c/\b.Y5 F/\((S.n+S.h=0->s.n+s.h=0)\/mayWake b.P g=true)/\
     W (C.to (LK b H f' ⟨BN u m,m,J⟩)) n l (.inRegion j q::k) ((d,v)::E) B L):W C n l (.inRegion j (i::q)::k) E B L:=by
 refine W.atom hX y ho hd p hg λr R g z Q u1 u2 t a I K=>?_;cases f with
 | zero=>exact aE
 | succ f=>
  let D:b.SMu (λs' g' L'=>Way b.P false (b.Φ H) (vO b H f s') g' L') ⟨JU u,T,J⟩ g R (BN u):=by
   refine⟨by rw[t];rfl,λS w hF hx _=>?_⟩;rcases h f rfl r g z Q u1 u2 t a S w hF hx with⟨e1,e2,e3,e4⟩ | ⟨m,s,v,c,F,h1,h2,h3,h4,h5,h6,h7⟩
   .exact .inl ⟨by rw[e1];rfl,e2,e3,e4⟩
   .exact .inr ⟨m,s,z v,c,F,h1,h2,h3,h4,h5,h6.imp id λe=>⟨e,by rw[a];rfl⟩,K (LK b H f ⟨BN u m,m,J⟩) v h7⟩
  exists I;cases u
  .exact D
  .exact D
variable {d:Nat}{g:bO}{c:Func}{R:jk}{Q:fX}{ty:bh}{r:ck}{z:cR}{s:cZ}{pre post:aR}{e:TypeId}
def W.JS{x y h:aW}{old nw:Mu.Wd}{Ty Tn:Mu.Th}(I:qD b pre post e)(hf:b.P.funcs[g]?=c)(K:(c.name== "runtime.NumGoroutine")=false)(hb:c.body.isNone=true)(hn:Extern.findNext c=none)(he:Extern.find c=Extern.Atomic.casT (.int .i32))
  (hX:C.X=LK b H f ⟨JU u,T,J⟩)(u5:C.ro=none)(F:C.kd≠.early)(ho:nth j.toList i=some ⟨some d,.call {callee:=.value (.func g),args:=#[x,y,h],argTypes:=Q},ty,r,z,s⟩)(p:Nat.blt d n=true)(hg:bG (get E) j.toList s=some true)
  (hx:bZ (get E) x=b.ma)(hy:bZ (get E) y=some (.v (.int .i32 (Mu.enc old))))(G:bZ (get E) h=some (.v (.int .i32 (Mu.enc nw))))
  (R:∀S,Mu.Fits T S->S.w=old->Mu.Step T S Ty {S with w:=nw})(u6:∀S,Mu.Fits T S->S.w≠old->Mu.Step T S Tn S)
  (wy:∀D,f=D+1->W (C.to (LK b H D ⟨BN u Ty,Ty,J⟩)) n l (.inRegion j q::k) ((d,true)::E) B L)(wn:∀D,f=D+1->W (C.to (LK b H D ⟨BN u Tn,Tn,J⟩)) n l (.inRegion j q::k) ((d,false)::E) B L):
  W C n l (.inRegion j (i::q)::k) E B L:=by
 refine W.mu hX u5 ho rfl p hg λD u1 T0 g0 fin m u2 u3 t a S w hF o=>.inr ?_;let hc:=I.O9 o;let u4:=I.thaw o (show b.ma.block=b.X by rw[I.ma])
 by_cases eq:S.w=old
 .refine⟨Ty,{S with w:=nw},true,_,_,R S hF eq,?_,I.adH o nw,ui.set w (by rw[I.ma]) _,XJ,.inl id,wy D u1⟩;rw[t,a];rw[eq] at hc;exact stepG_cas_hit u3 u2 F rfl hf K hb hn .i32 he (m _ _ _ hx rfl) (m _ _ _ hy rfl) (m _ _ _ G rfl) hc u4
 .refine⟨Tn,S,false,_,_,u6 S hF eq,?_,o,ui.refl _ _,ag5,.inl id,wn D u1⟩;rw[t,a];exact stepG_cas_miss u3 u2 F rfl hf K hb hn .i32 he (m _ _ _ hx rfl) (m _ _ _ hy rfl) (m _ _ _ G rfl) hc u4 λe=>eq (Mu.SA e)
def W.PY{x y:aW}{dl:Int}(m:qD b pre post e)(hf:b.P.funcs[g]?=c)(I:(c.name== "runtime.NumGoroutine")=false)(hb:c.body.isNone=true)(hn:Extern.findNext c=none)(he:Extern.find c=Extern.Atomic.update (Op.intArith .add) .i32 true)
  (hX:C.X=LK b H f ⟨JU u,T,J⟩)(G:C.ro=none)(R:C.kd≠.early)(ho:nth j.toList i=some ⟨some d,.call {callee:=.value (.func g),args:=#[x,y],argTypes:=Q},ty,r,z,s⟩)(p:Nat.blt d n=true)(hg:bG (get E) j.toList s=true)
  (hx:bZ (get E) x=b.ma)(hy:bZ (get E) y=some (.v (.int .i32 dl)))
  (h:∀S,Mu.Fits T S->∃K nw,Mu.Step T S K {S with w:=nw}/\IntKind.i32.wrap (Mu.enc S.w+dl)=Mu.enc nw/\∀F,f=F+1->W (C.to (LK b H F ⟨BN u K,K,J⟩)) n l (.inRegion j q::k) ((d,.v (.int .i32 (Mu.enc nw)))::E) B L):
  W C n l (.inRegion j (i::q)::k) E B L:=by
 refine W.mu hX G ho rfl p hg λF u1 T0 g0 fin D u2 u3 t a S w hF o=>.inr ?_;let⟨K,nw,h1,h2,h3⟩:=h S hF;let hc:=m.O9 o;let u4:=m.thaw o (show b.ma.block=b.X by rw[m.ma]);refine⟨K,{S with w:=nw},.int .i32 (Mu.enc nw),_,_,h1,?_,m.adH o nw,ui.set w (by rw[m.ma]) _,XJ,.inl id,h3 F u1⟩;rw[t,a];exact(stepG_add_atomic u3 u2 R rfl hf I hb hn .i32 he (D _ _ _ hx rfl) (D _ _ _ hy rfl) hc u4).trans (by rw[h2])
def W.Tq{x:aW}{t:bh}(G:qD b pre post e)(hq:(b.P.funcs[C.f]?).any (·.norace)=true)(hX:C.X=LK b H f ⟨JU u,T,J⟩)(y:C.ro=none)(Q:C.kd≠.early)(ht:iZ b.P t=false)
  (ho:nth j.toList i=some ⟨some d,.load t x,ty,r,z,s⟩)(p:Nat.blt d n=true)(hg:bG (get E) j.toList s=some true)(hx:bZ (get E) x=b.ma)
  (h:∀S,Mu.Fits T S->∃m,Mu.Step T S m S/\∀D,f=D+1->W (C.to (LK b H D ⟨BN u m,m,J⟩)) n l (.inRegion j q::k) ((d,.v (.int .i32 (Mu.enc S.w)))::E) B L):
  W C n l (.inRegion j (i::q)::k) E B L:=by
 refine W.mu hX y ho rfl p hg λD R F g0 fin c u1 g u2 I S w hF K=>.inr ?_;let⟨m,h1,h2⟩:=h S hF;have hc:=G.O9 K;refine⟨m,S,.int .i32 (Mu.enc S.w),w,#[],h1,?_,K,ui.refl _ _,zo,.inl id,h2 D R⟩;have hp:ev F x=b.ma:=by rw[<-mJ F l];exact c _ _ _ hx rfl
 have hr:=Ag (o:=⟨some d,.load t x,ty,r,z,s⟩) rfl ht hp hc;rw[Sem.runT_eq] at hr;obtain⟨u3,u4⟩:=Prod.mk.inj hr;rw[u2,I];have:=stepG_value (P:=b.P) (main:=false) (b:=bF C.f C.kd) (a:=⟨F,l⟩) (k:=k) (cs:=C.cs) (w:=w) (rest:=q) g u1 Q (by rw[mJ];exact u3);refine this.trans ?_;have hl:listed b.P (bF C.f C.kd).fn ⟨F,l⟩ ⟨d,.load t x,ty,r,z,s⟩ w=#[]:=by
  unfold listed;rw[mJ,u4,seen_def];simp only[lJ,List.foldl_nil,seenStep];rw[show(bF C.f C.kd).fn=C.f from rfl,hq]
  rfl
 rw[hl]
def W.X7(G:b.P.funcs[g]?=c)(m:(c.name== "runtime.NumGoroutine")=false)(hb:c.body.isNone=true)(hn:Extern.findNext c=none)(he:Extern.find c=Extern.OsHooks.nano)(hq:c.norace=true)
  (hX:C.X=LK b H f ⟨JU u,T,J⟩)(y:C.ro=none)(o:C.kd≠.early)(ho:nth j.toList i=some ⟨some d,.call {callee:=.value (.func g),args:=R,argTypes:=Q},ty,r,z,s⟩)(p:Nat.blt d n=true)(hg:bG (get E) j.toList s=true)
  (h:∀v:Int,∃e,(∀S,Mu.Step T S e S)/\∀x,f=x+1->W (C.to (LK b H x ⟨BN u e,e,J⟩)) n l (.inRegion j q::k) ((d,v)::E) B L):
  W C n l (.inRegion j (i::q)::k) E B L:=by
 refine W.mu hX y ho rfl p hg λx I T0 g0 fin u1 K D t a S w hF F=>.inr ?_;let⟨e,h1,h2⟩:=h ((w.os.mono+w.tick:Nat):Int);refine⟨e,S,.int .i64 ((w.os.mono+w.tick:Nat):Int),w.later,#[],h1 S,?_,F,ui.later _ _,zo,.inl id,h2 x I⟩;rw[t,a];exact stepG_nanotime D K o rfl G m hb hn he hq
def W.X8{x:aW}{kk:fE}{e:Int}{Tt Tn:Mu.Th}(hf:b.P.funcs[g]?=some c)(m:(c.name== "runtime.NumGoroutine")=false)(hb:c.body.isNone=true)(hn:Extern.findNext c=none)(he:Extern.find c=some Extern.Sync.canSpin)
  (hX:C.X=LK b H f ⟨JU u,T,J⟩)(u1:C.ro=none)(o:C.kd≠.early)(ho:nth j.toList i=some ⟨some d,.call {callee:=.value (.func g),args:=#[x],argTypes:=Q},ty,r,z,s⟩)(p:Nat.blt d n=true)(hg:bG (get E) j.toList s=true)
  (hx:bZ (get E) x=some (.v (.int kk e)))(ht:e<4->∀S,Mu.Step T S Tt S)(R:∀S,Mu.Step T S Tn S)
  (wt:e<4->∀I,f=I+1->W (C.to (LK b H I ⟨BN u Tt,Tt,J⟩)) n l (.inRegion j q::k) ((d,true)::E) B L)(wn:∀I,f=I+1->W (C.to (LK b H I ⟨BN u Tn,Tn,J⟩)) n l (.inRegion j q::k) ((d,false)::E) B L):
  W C n l (.inRegion j (i::q)::k) E B L:=by
 refine W.mu hX u1 ho rfl p hg λI y T0 g0 fin K D F t h S w hF G=>.inr ?_
 by_cases h4:e<4
 .by_cases hs:w.spins=true
  .refine⟨Tt,S,true,w.asked,#[],ht h4 S,?_,G,ui.asked _ _,zo,.inl id,wt h4 I y⟩;rw[t,h];have:=stepG_canSpin_ask (main:=false) (b:=bF C.f C.kd) (a:=⟨T0,l⟩) (kk:=k) (cs:=C.cs) (w:=w) (rest:=q) (as:=#[x]) (k:=kk) (n:=e) F D o rfl hf m hb hn he (by simp[K _ _ _ hx rfl]) h4;rw[hs] at this;exact this
  .refine⟨Tn,S,false,w.asked,#[],R S,?_,G,ui.asked _ _,zo,.inl id,wn I y⟩;rw[t,h];have:=stepG_canSpin_ask (P:=b.P) (main:=false) (b:=bF C.f C.kd) (a:=⟨T0,l⟩) (kk:=k) (cs:=C.cs) (w:=w) (rest:=q) (as:=#[x]) (k:=kk) (n:=e) F D o rfl hf m hb hn he (by simp[K _ _ _ hx rfl]) h4;rw[show w.spins=false by simpa using hs] at this;exact this
 .refine⟨Tn,S,false,w,#[],R S,?_,G,ui.refl _ _,zo,.inl id,wn I y⟩;rw[t,h];exact stepG_canSpin_no (as:=#[x]) (k:=kk) (n:=e) F D o rfl hf m hb hn he (by simp[K _ _ _ hx rfl]) M
def W.adb{x y m:aW}(I:qD b pre post e)(hf:b.P.funcs[g]?=some c)(K:(c.name== "runtime.NumGoroutine")=false)(hb:c.body.isNone=true)(hn:Extern.findNext c=none)(he:Extern.find c=some Extern.Sync.semacquire)
  (hX:C.X=LK b H f ⟨.lk,T,J⟩)(F:T.pc=.s1)(u5:C.ro=none)(u6:C.kd≠.early)(ho:nth j.toList i=some ⟨some d,.call {callee:=.value (.func g),args:=#[x,y,m],argTypes:=Q},ty,r,z,s⟩)(p:Nat.blt d n=true)(hg:bG (get E) j.toList s=true)
  (hx:bZ (get E) x=b.ms)
  (h:∀(hh:Bool) G,f=G+1->W (C.to (LK b H G ⟨Ha {T with pc:=if T.sv then .r2 else .t2,h:=hh},{T with pc:=if T.sv then .r2 else .t2,h:=hh},J⟩)) n l (.inRegion j q::k) ((d,.v (.tuple #[]))::E) B L):
  W C n l (.inRegion j (i::q)::k) E B L:=by
 refine W.mu (u:=false) hX u5 ho rfl p hg λG R T0 g0 fin u7 u1 u2 t D S w hF o=>?_;have hc:=I.XK o;have u8:=I.thaw o (show b.ms.block=b.X by rw[I.ms]);have u3:((#[x,y,m]:Array Operand).map (⟨T0,l⟩:Act).eval)[0]?=b.ms:=by simp[u7 _ _ _ hx rfl]
 by_cases h0:S.n+S.h=0
 .refine .inl ⟨rfl,F,h0,?_⟩;rw[t];rw[h0] at hc;exact stepG_semacquire_wait u2 u1 rfl hf K hb hn he u3 hc
 .have u9:((S.n+S.h:Nat):Int)≠0:=by omega
  have u4:=stepG_semacquire (P:=b.P) (main:=false) (b:=bF C.f C.kd) (a:=⟨T0,l⟩) (kk:=k) (cs:=C.cs) (w:=w) (rest:=q) u2 u1 u6 rfl hf K hb hn he u3 hc u9 u8
  by_cases hh:0<S.h
  .refine .inr ⟨_,{S with h:=S.h - 1},.tuple #[],_,_,.s1h F hh,?_,I.WR o S.n (S.h - 1),ui.set w (by rw[I.ms]) _,I0,.inl (λe=>ar e h0),h true G R⟩;rw[t,D];refine u4.trans ?_;rw[show((S.n+S.h:Nat):Int) - 1=((S.n+(S.h - 1):Nat):Int) by omega]
  .refine .inr ⟨_,{S with n:=S.n - 1},.tuple #[],_,_,.s1n F M M,?_,I.WR o (S.n - 1) S.h,ui.set w (by rw[I.ms]) _,I0,.inl (λe=>ar e h0),h false G R⟩;rw[t,D];refine u4.trans ?_;rw[show((S.n+S.h:Nat):Int) - 1=((S.n - 1+S.h:Nat):Int) by omega]
def W.X9{x y m:aW}(I:qD b pre post e)(hf:b.P.funcs[g]?=some c)(K:(c.name== "runtime.NumGoroutine")=false)(hb:c.body.isNone=true)(hn:Extern.findNext c=none)(he:Extern.find c=some Extern.Sync.semrelease)
  (hX:C.X=LK b H f ⟨.ul,T,J⟩)(R:T.pc=.us)(u1:C.ro=none)(u2:C.kd≠.early)(ho:nth j.toList i=some ⟨some d,.call {callee:=.value (.func g),args:=#[x,y,m],argTypes:=Q},ty,r,z,s⟩)(p:Nat.blt d n=true)(hg:bG (get E) j.toList s=true)
  (hx:bZ (get E) x=b.ms)
  (h:∀G,f=G+1->W (C.to (LK b H G ⟨.fin,{pc:=.out,left:=T.left},J⟩)) n l (.inRegion j q::k) ((d,.v (.tuple #[]))::E) B L):
  W C n l (.inRegion j (i::q)::k) E B L:=by
 refine W.mu (u:=true) hX u1 ho rfl p hg λG u3 T0 g0 fin u4 u5 D t F S w hF o=>.inr ?_;have hc:=I.XK o;have u6:=I.thaw o (show b.ms.block=b.X by rw[I.ms]);have u7:((#[x,y,m]:Array Operand).map (⟨T0,l⟩:Act).eval)[0]?=b.ms:=by simp[u4 _ _ _ hx rfl]
 have u8:=stepG_semrelease (main:=false) (b:=bF C.f C.kd) (a:=⟨T0,l⟩) (kk:=k) (cs:=C.cs) (w:=w) (rest:=q) D u5 u2 rfl hf K hb hn he u7 hc u6;have u9:=hF.tok;refine⟨_,_,.tuple #[],_,_,.us R,?_,I.WR o (S.n+(if T.h then 0 else 1)) (S.h+(if T.h then 1 else 0)),ui.set w (by rw[I.ms]) _,I0,.inr (by rw[t];exact Go.ConcR.Gen.mayWake_entry D rfl hf hb),h G u3⟩;rw[t,F];refine u8.trans ?_;have hw:IntKind.u32.wrap (((S.n+S.h:Nat):Int)+1)=((S.n+(if T.h then 0 else 1)+(S.h+(if T.h then 1 else 0)):Nat):Int):=by
  rw[IntKind.wrap_u32];cases T.h <;> simp <;> omega
 rw[hw]
def W.mkP{o:bD}{T:Mu.Th}{s2:Ws}(m:Mark)(F:∀g,m≠.extern g)(a:b.P.funcs[g]?=c)(t:(c.name== "runtime.NumGoroutine")=false)(G:c.body.isNone=true)(S:Extern.findNext c=none)
  (he:Extern.find c=some (λ_=>do mark m;pure Extern.Race.none_)){h:Ws}(D:C.X=LK b H f h)(y:C.ro=none)(J:C.kd≠.early)
  (K:∀u x e I,f=u+1->x.status=.running->(∀w,stepG b.P false x w=.go e w #[Go.ConcR.mk m])->Way b.P false (b.Φ H) (vO b H u s2) e I->vO b H (u+1) h x I)
  (ho:nth j.toList i=some ⟨o,.call {callee:=.value (.func g),args:=R,argTypes:=Q},ty,r,z,s⟩)(hg:bG (get E) j.toList s=true)(p:(o.all λd=>Nat.blt d n)=true)
  (w:∀u,f=u+1->W (C.to (LK b H u s2)) n l (.inRegion j q::k) ((o.toList.map λd=>(d,SV.v (.tuple #[])))++E) B L):W C n l (.inRegion j (i::q)::k) E B L:=by
 cases f with
 | zero=>exact W.stop D λ_ _ _ _ _ _=>trivial
 | succ f=>exact W.zV m F a t G S he D y J (λx e I h1 h2 h3=>K f x e I rfl h1 h2 h3) ho hg p (w f rfl)
def W.mkA{o:bD}{s2:Ws}{x:aW}{ad:Addr}(m:Addr->Mark)(G:∀a g,m a≠.extern g)(R:b.P.funcs[g]?=c)(t:(c.name== "runtime.NumGoroutine")=false)(S:c.body.isNone=true)(T:Extern.findNext c=none)
  (he:Extern.find c=Extern.Race.marked m){h:Ws}(F:C.X=LK b H f h)(y:C.ro=none)(K:C.kd≠.early)
  (D:∀u e I J,f=u+1->e.status=.running->(∀w,stepG b.P false e w=.go I w #[Go.ConcR.mk (m ad)])->Way b.P false (b.Φ H) (vO b H u s2) I J->vO b H (u+1) h e J)
  (ho:nth j.toList i=some ⟨o,.call {callee:=.value (.func g),args:=#[x],argTypes:=Q},ty,r,z,s⟩)(hg:bG (get E) j.toList s=true)(p:(o.all λd=>Nat.blt d n)=true)(hx:bZ (get E) x=ad)
  (w:∀u,f=u+1->W (C.to (LK b H u s2)) n l (.inRegion j q::k) ((o.toList.map λd=>(d,SV.v (.tuple #[])))++E) B L):W C n l (.inRegion j (i::q)::k) E B L:=by
 cases f with
 | zero=>exact W.stop F λ_ _ _ _ _ _=>trivial
 | succ f=>exact W.V7 m G R t S T he F y K (λe I J h1 h2 h3=>D f e I J rfl h1 h2 h3) ho hg p hx (w f rfl)
def W.ada{o:bD}{x:aW}(a:b.P.funcs[g]?=c)(t:(c.name== "runtime.NumGoroutine")=false)(F:c.body.isNone=true)(S:Extern.findNext c=none)
  (he:Extern.find c=Extern.Race.marked .acquire)(hX:C.X=LK b H f ⟨.Ea,T,J⟩)(y:C.ro=none)(e:C.kd≠.early)
  (I:nth j.toList i=some ⟨o,.call {callee:=.value (.func g),args:=#[x],argTypes:=Q},ty,r,z,s⟩)(hg:bG (get E) j.toList s=true)(p:(o.all λd=>Nat.blt d n)=true)(hx:bZ (get E) x=b.ma)
  (w:∀u K,f=u+1->(∀i,J=some i->i∉K)->W (C.to (LK b H u ⟨.hold K,T,J⟩)) n l (.inRegion j q::k) ((o.toList.map λd=>(d,SV.v (.tuple #[])))++E) B L):W C n l (.inRegion j (i::q)::k) E B L:=by
 refine W.stop hX λD R β hT h hH=>?_;cases f with
 | zero=>exact aE
 | succ f=>
  let m:=I;rw[dF,iN] at m;let ex:=(bR (h.val hx)).symm;refine⟨rfl,G ((Fr C.f D (.inRegion j (i::q)::k) l .run C.kd C.ro).finish (.tuple #[])) C.cs,λw'=>?_,λK hK=>W.behind I rfl p hT h hH (w f K rfl hK)⟩;rw[y,AU,zn,show(j[i]?).bind (·.dst)=o by rw[m];rfl];exact stepG_markAt .acquire U m (cA h hg) e rfl a t F S he (by simp[mJ,ex])
end
def W.ag2{P:aV}{C:Cx P}{D:Bool}{Φ:iF}{S:cg}{n:Nat}{l:cj}{k:bI}{E:Env}{B:aX}{L:LH}{j:cU}{i:Nat}{q:aU}{d:Nat}{ty:bh}{r:ck}{z:cR}{s:cZ}{t:bh}{x:aW}{e:Addr}{m:fE}
  (F:C.X=iY P D Φ S)(hq:(P.funcs[C.f]?).any (·.norace)=true)(y:C.ro=none)(I:C.kd≠.early)(ht:iZ P t=false)(hc:∀w,Φ w->∃v,w.cell? e=some (.int m v))
  (H:nth j.toList i=some ⟨some d,.load t x,ty,r,z,s⟩)(p:Nat.blt d n=true)(hg:bG (get E) j.toList s=true)(hx:bZ (get E) x=e)
  (w:∀v,W C n l (.inRegion j q::k) ((d,.v (.int m v))::E) B L):W C n l (.inRegion j (i::q)::k) E B L:=by
 intro T R β hT h hH;let g:=H;rw[dF,iN] at g;rw[F];refine Way.EF _ _ rfl λc u=>?_;let⟨v,hv⟩:=hc c u.2;let hp:=(bR (h.val hx)).symm;let Q:=Ag (o:=⟨some d,.load t x,ty,r,z,s⟩) rfl ht hp hv;rw[Sem.runT_eq] at Q;let⟨J,K⟩:=Prod.mk.inj Q;refine⟨G ((Fr C.f T (.inRegion j (i::q)::k) l .run C.kd C.ro).finish (.int m v)) C.cs,c,#[],R,?_,Tr.refl u.1,?_⟩
 .rw[y,AU,g,zn];refine(stepG_value (k:=k) (cs:=C.cs) (w:=c) (rest:=q) g (cA h hg) I (by rw[mJ];exact J)).trans ?_;let hl:listed P (bF C.f C.kd).fn ⟨T,l⟩ ⟨d,.load t x,ty,r,z,s⟩ c=#[]:=by
   unfold listed;rw[mJ,K,seen_def];simp only[lJ,List.foldl_nil,seenStep];rw[show(bF C.f C.kd).fn=C.f from rfl,hq]
   rfl
  rw[hl];rfl
 .have:=W.iB (C:=C) (sv:=.v (.int m v)) H rfl (eH p) hT h hH rfl (w v);rw[F] at this;exact this
end Go.Mz
set_option maxRecDepth 100000
namespace Go.Mz
open Go.Conc
section
open Go.ConcN
open Go.ConcR (KK wgBlock WgAt stA smA rd wr)
def Rd{P:aV}(X:aM P)(L:LH)(a:Addr)(v:Value):Prop:=X.pk a v\/L.cell? a=v
def Rd.le{P:aV}{X:aM P}{L u:LH}{a:Addr}{v:Value}(h:Rd X L a v)(o:Le L u):Rd X u a v:=h.imp id λh=>o.cell h
section
variable {P:aV}[S:Seat P]{C:Cx P}{n:Nat}{l:cj}{k:bI}{E:Env}{B:aX}{L:LH}{j:cU}{i:Nat}{q:aU}{d:Nat}{e:bh}{r:ck}{z:cR}{s:cZ}{t:bh}{x:aW}{u:TI}{h:Addr}{v:Value}
def W.rd(b:Rd C.X L h v)(y:C.ro=none)(f:nth j.toList i=some ⟨some d,.load t x,e,r,z,s⟩)(c:bG (get E) j.toList s=true)(p:Nat.blt d n=true)(I:bZ (get E) x=h)(J:S.τ.find t=u)(K:u.agg=false)
  (w:W C n l (.inRegion j q::k) ((d,v)::E) B L):W C n l (.inRegion j (i::q)::k) E B L:=by
 rcases b with a | D
 .intro T R β F m G;let g:=f;rw[dF,iN] at g;refine aM.Yg ⟨t,x,h,rfl,by rw[(TT.bj S.ok J).agg,K],(bR (m.val I)).symm,a⟩ g (cA m c) (W.iB (C:=C) (sv:=.v v) f rfl (eH p) F m G rfl w)
 .exact W.vf f c p rfl (Vf.load I J K D) w
variable {m:Nat}{w:LH}{o:aU}{aA y:Env}
def DD.rd(i:Nat)(b:Rd C.X w h v)(q:nth j.toList i=some ⟨some d,.load t x,e,r,z,s⟩)(f:iX o i=false)(a:qv o (eM j.toList i)=true)(g:bG (cM j.toList i aA y) j.toList s=true)(p:bZ (cM j.toList i aA y) x=h)(I:S.τ.find t=u)(J:u.agg=false)
  (c:DD C S.τ n l j k m w (i::o) ((d,v)::aA) y B L):DD C S.τ n l j k m w o aA y B L:=by
 rcases b with K | D
 .exact .pk i q f a rfl g rfl (by rw[(TT.bj S.ok I).agg,J]) p K c
 .exact DD.vf i q f a g rfl (Vf.load p I J D) c
end
def Vf.J0{P:aV}{E:cK}{B:aX}{L:LH}{x:aW}{a:ck}{t:bh}{u:Value}{h l:aK}{y:SV}(d:bZ E x=y)(i:den fe y=some (.func (.method a) h l))(q:h[0]?=some (.iface t u))
  (f:∀(Q:Option Bool->LH->Prop) (H:bC) (R:LH),aP P Q H (nilAhead (P.types.size+Made.depth) t u a) R=Q false R):Vf P (.nilCheck x) E B L (.v (.func (.method a) h l)):=λT R β o _ _=>by
 let m:=bR ((o.val d).symm.trans (fw i β));refine⟨_,rfl,λe w r z s Q H c=>?_⟩;simp[execOp,m,q];rwa[Z,gG,Z,f]
structure RL{P:Program}(C:Cx P)(fn:Func)(Q:aM P->LH->Prop):Prop where
 fn:P.funcs[C.f]?=some fn
 ro:C.ro=none
 kd:C.kd=.deferred
 cs:∃c cs,C.cs=c::cs/\c.mode=.returning/\∀Y R' L',Q Y L'->Post C.L0 C.R0 L' R'->Y.Go (G c cs) R'
def RN{P:aV}(X:aM P)(f:bO)(args:aR)(L:LH)(Q:aM P->LH->Prop):Prop:=
 qN P f/\∀R,Le L R->∀(c:Frame) (cs:dX),c.mode=.returning->(∀Y R' L',Q Y L'->Post L R L' R'->Y.Go (G c cs) R')->X.Go (G (Frame.enter P f args.toArray .deferred) (c::cs)) R
section
variable {P:aV}{n:Nat}{l:cj}{k:bI}{E:Env}{B:aX}{L:LH}{j:cU}{i:Nat}{q:List Nat}
def RL.to{C:Cx P}{fn:Func}{Q:aM P->LH->Prop}(r:RL C fn Q)(Y:aM P):RL (C.to Y) fn Q:=⟨r.fn,r.ro,r.kd,r.cs⟩
def RN.enter{X:aM P}{f:bO}{fn:Func}{z:Code}{e:aR}{Q:aM P->LH->Prop}(a:P.funcs[f]?=fn)(d:fn.body=z)(y:(fn.name== "runtime.NumGoroutine")=false)(p:fn.ntmps=n)(m:Nat.ble e n=true)
  (h:∀C:Cx P,C.X=X->C.f=f->C.L0=L->RL C fn Q->W C n [] [.code z] (rA 0 e) [] L):RN X f e L Q:=by
 refine⟨⟨fn,a,y,by rw[d];rfl⟩,λR l c i j q=>?_⟩;rw[wR a d];let o:(e.toArray++Array.replicate (fn.ntmps - e.toArray.size) undef:Array Value).size=n:=by
  have:=qE m;simp;omega
 refine h ⟨X,f,.deferred,none,c::i,L,R⟩ rfl rfl rfl ⟨a,rfl,rfl,c,i,rfl,j,λY r w I J=>q Y r w I J⟩ _ R fe o ?_ ⟨(λ_ _ _ h=>by cases h),(λ_ _ h=>by cases h),(λ_ _ h=>by cases h),(λk b x K=>by cases K),l,λb x _ h=>h,λb d=>.inl d,λb d=>d⟩;intro s x u;obtain⟨_,v,D,rfl⟩:=pj u;let t:=F3
 let g:s<e:=by
  rcases Cn s e with h | h
  .exact h
  .rw[mh h] at t;cases t
 rw[den]
 congr 1
 rw[Ds,IK F4,gq,t];rfl
variable {C:Cx P}
def W.ahP{fn:Func}{Q:aM P->LH->Prop}(r:RL C fn Q)(z:fn.results=#[])(f:k=[]\/∃d,k=.code .ret::d)(t:Q C.X L):W C n [] k E B L:=by
 let⟨m,y,o,c,i,h,u,g⟩:=r;exact W.Yk (Q:=λa v=>a=.returning/\Q C.X v) ⟨m,y,o,c,i,h,u,λa j v b p=>by
  obtain⟨rfl,b⟩:=b;let q:=g C.X j v b p;let e:({c with mode:=.returning}:Frame)=c:=by cases c;subst u;rfl
  rwa[e]⟩ z f ⟨rfl,t⟩
def WM.aeQ{g:bO}{Q:aM P->LH->Prop}{args:aR}(a:RN C.X g args L Q)(w:∀Y v,Q Y v->WM (C.to Y) n l .returning E B v):WM C n (dcall g args.toArray::l) .returning E B L:=by
 intro T R β k i o r;let⟨⟨fn,u,t,z⟩,m⟩:=a;let j:=m R r.le (Fr C.f T k l .returning C.kd C.ro) C.cs rfl (λY y v c p=>w Y v c T y β k i o (r.call p));let⟨h,q⟩:∃h,fn.body=some h:=by
  cases d:fn.body with
  | none=>rw[d] at z;cases z
  | some h=>exact⟨h,rfl⟩
 let x:¬fn.name= "runtime.NumGoroutine":=by simpa using t
 refine C.X.quiet rfl (λb=>?_) j;simp[G,Fr,stepG,unwind,callDeferred,invoke,dcall,callFunc,u,x,q,GStep.after,seen_none]
end
section
variable {b:bH}{H:Nat}{C:Cx b.P}{n:Nat}{l:cj}{k:bI}{E:Env}{B:aX}{L:LH}{j:cU}{i:Nat}{q:List Nat}
variable {f:Nat}{T:Mu.Th}{J:Option Nat}
variable {d:Nat}{g:bO}{fn:Func}{R:jk}{Q:fX}{e:bh}{r:ck}{z:cR}{s:Option (Nat×Bool)}
def W.ahf{x y:aW}(hf:b.P.funcs[g]?=fn)(I:(fn.name== "runtime.NumGoroutine")=false)(hb:fn.body.isNone=true)(hn:Extern.findNext fn=none)(he:Extern.find fn=Extern.Atomic.update (Op.intArith .add) .i64 true)
  (hX:C.X=LK b H f ⟨.idle,T,J⟩)(hJ:∀i,J=some i->b.keep i=false)(hl:b.len+b.n<1000000000)(S:C.ro=none)(o:C.kd≠.early)(ho:nth j.toList i=some ⟨some d,.call {callee:=.value (.func g),args:=#[x,y],argTypes:=Q},e,r,z,s⟩)(p:Nat.blt d n=true)(hg:bG (get E) j.toList s=true)
  (hx:bZ (get E) x=b.na)(hy:bZ (get E) y=some (.v (.int .i64 1)))
  (wy:∀u c,f=u+1->c<b.len->W (C.to (LK b H u ⟨.idle,{T with left:=T.left+1},c⟩)) n l (.inRegion j q::k) ((d,.v (.int .i64 ((c:Int)+1)))::E) B L)
  (wn:∀u c,f=u+1->b.len<=c->c<=b.len+b.n->W (C.to (LK b H u ⟨.done,T,none⟩)) n l (.inRegion j q::k) ((d,.v (.int .i64 ((c:Int)+1)))::E) B L):
  W C n l (.inRegion j (i::q)::k) E B L:=by
 refine W.atom hX S ho rfl p hg λT0 R g0 fin D u1 u2 t F G m=>?_;cases f with
 | zero=>exact aE
 | succ f=>
  refine⟨G,.inl ⟨hJ,λc hc=>⟨fin (.int .i64 ((c:Int)+1)),λw hw=>?_,λh=>m _ _ (wy f c rfl h),λh=>m _ _ (wn f c rfl h hc)⟩⟩⟩;let K:w.cell? b.na=some (.int .i64 (c:Int)):=by rw[jE hw];rfl
  let u3:w.frozen? b.na=false:=by
   have:w.heap[b.na.block]?=bH.cnt H c:=hw;simp[World.frozen?,this,bH.cnt]
  let h1:IntKind.i64.wrap ((c:Int)+1)=(c:Int)+1:=by rw[IntKind.wrap_i64];omega
  rw[t,F];exact(stepG_add_atomic u2 u1 o rfl hf I hb hn .i64 he (D _ _ _ hx rfl) (D _ _ _ hy rfl) K u3).trans (by rw[h1];rfl)
def W.upd{t S et:bh}{x y u:aW}{sk su:SV}{p uv:Value}{es:x8}{clk i0:Nat}{K:aU}(hX:C.X=LK b H f ⟨.hold K,T,J⟩)(hJ:J=i0)(u1:b.keep i0=true)(u2:C.ro=none)
  (ho:nth j.toList i=some ⟨none,.mapUpdate t x y u,e,r,z,s⟩)(hg:bG (get E) j.toList s=true)
  (hx:bZ (get E) x=some (.v (.map b.B)))(hy:bZ (get E) y=sk)(dk:den fe sk=p)(hw:bZ (get E) u=su)(du:den fe su=uv)(hu:b.P.underlying t=some (.map S et))(u3:b.ob K=.map es clk)(g:b.ob (K++[i0])=.map (es.push {key:=p,val:=uv,born:=clk}) (clk+1))
  (hc:∀(α:Bool) (Q:x6) (c:bC) (R:LH),aP b.P Q c (Instr.checkKey α 10000 S p) R=Q () R)(a:∀(Q:Q6) (c:bC) (R:LH),aP b.P Q c (Instr.findKey S p es.toList) R=Q none R)
  (w:∀f',f=f'+1->W (C.to (LK b H f' ⟨.put,T,none⟩)) n l (.inRegion j q::k) E B L):
  W C n l (.inRegion j (i::q)::k) E B L:=by
 refine W.stop hX λm R β hT h hH=>?_;cases f with
 | zero=>exact aE
 | succ f=>
  refine⟨rfl,i0,hJ,u1,λw0 hB hs=>?_⟩;let I:=ho;rw[dF,iN] at I;let ex:=(bR (h.val hx)).symm;let ey:=bR ((h.val hy).symm.trans (fw dk β));let eu:=bR ((h.val hw).symm.trans (fw du β));let hL:(R.put b.B (b.ob K)) b.B=some (.map es clk,true):=by rw[aj,u3]
  let u4:aP b.P (jP b.P (λD F=>D=G ((Fr C.f m (.inRegion j (i::q)::k) l .run C.kd C.ro).finish undef) C.cs/\F=R.put b.B (b.ob (K++[i0]))) (Fr C.f m (.inRegion j (i::q)::k) l .run C.kd C.ro) C.cs .normal)
    (qZ (λD F=>D=G ((Fr C.f m (.inRegion j (i::q)::k) l .run C.kd C.ro).finish undef) C.cs/\F=R.put b.B (b.ob (K++[i0]))) (Fr C.f m (.inRegion j (i::q)::k) l .run C.kd C.ro) C.cs)
    (execOp (ev m) ⟨none,.mapUpdate t x y u,e,r,z,s⟩) (R.put b.B (b.ob K)):=by
   simp only[execOp,ex,ey,eu];rw[Z];unfold Instr.mapUpdate;rw[Z,aD hu];rw[Z,pH hL];rw[Z,hc,Z,a];rw[lN hL rfl rfl];exists rfl;rw[g]
   funext y
   by_cases α:y=b.B
   .subst α;rw[aj,aj]
   .rw[aB _ _ α,aB _ _ α,aB _ _ α]
  obtain⟨D,w',u5,F,h1,h2,rfl,rfl⟩:=tv hs u4;refine⟨G ((Fr C.f m (.inRegion j (i::q)::k) l .run C.kd C.ro).finish undef) C.cs,w',u5,?_,h2,W.behind (C:=C) (Y:=LK b H f ⟨.put,T,none⟩) (d:=none) ho rfl rfl hT h hH (w f rfl)⟩;rw[<-h1,<-zB C.f m (.inRegion j (i::q)::k) l .run C.kd C.ro];let u6:Region.wanted ⟨none,.mapUpdate t x y u,e,r,z,s⟩ (yielded j m)=true:=cA (o:=⟨none,.mapUpdate t x y u,e,r,z,s⟩) h hg;rw[u2];unfold Fr;simp[G,stepG,stepG.exec,stepG.oper,Frame.oper?,I,u6]
end
end
variable {α:Type}{R J:LH}{t:bh}{w u:World}{x:aW}{Y:Trace}{r:List α}{Q:bC}{D:bt}{d:bA}{F:Env}{g:aT}{o:bD}{N:Nm}{K:bI}{z:SV}{I:cj}{H:ck}
section
open Go.ConcN
open Go.ConcR (KK wgBlock WgAt stA smA rd wr mk)
def Tr.beside{L:LH}{q:gW}(h:Tr L R w u q){X:Nat}{o:Obj}(j:L X=none)(a:Sub (L.put X o) w):Tr (L.put X o) (R.put X o) w u q/\R X=none:=by
 let d:=a.lt QX;let k:R X=none:=by
  cases e:R X with
  | none=>rfl
  | some x=>
   rcases h.jZ X xT with i | i
   .exact ar j i
   .omega
 refine⟨⟨λy m wr g=>?_,h.tape,h.os,h.out,h.size,λy g v=>?_,λy g=>?_,λy x g=>?_,λy m g=>?_,λy x v g=>?_,λe z=>(h.ev e z).mono λy x g=>⟨x.1,?_⟩⟩,k⟩
 .by_cases e:y=X
  .subst e;rw[aj] at g;rw[h.keep y d j];obtain rfl:=aJ Prod.fst (bR g);exact a y _ true (aj _ _ _)
  .rw[aB _ _ e] at g;exact h.sub y m wr g
 .by_cases e:y=X
  .subst e;rw[aj] at v;cases v
  .rw[aB _ _ e] at v;exact h.keep y g v
 .by_cases e:y=X
  .subst e;exact .inl QX
  .rw[aB _ _ e] at g ⊢;exact h.jZ y g
 .by_cases e:y=X
  .subst e;rw[aj] at g ⊢;exact⟨o,by rw[<-bR g]⟩
  .rw[aB _ _ e] at g ⊢;exact h.old y x g
 .by_cases e:y=X
  .subst e;rw[aj] at g;cases g
  .rw[aB _ _ e] at g ⊢;exact h.vG y m g
 .by_cases e:y=X
  .subst e;rw[aj] at v;cases v
  .rw[aB _ _ e] at v g;exact h.new y x v g
 .by_cases e:y=X
  .subst e;rw[k] at g;cases g
  .rwa[aB _ _ e]
def LJn(b:bH)(c:dp)(m:World)(hxb:b.X≠b.B):aM b.P where
 main:=true
 Go:=λg L=>∀K st sm,b.KOk K->L b.X=none->L b.B=none->pJ b.P c m g ((L.put b.X (b.xo st sm)).put b.B (b.ob K))
 step:=λg L hr hs K st sm hK hX hB=>pJ.step g _ hr λw hw=>by
  let hB2:(L.put b.X (b.xo st sm)) b.B=none:=by rwa[aB _ _ (dG hxb)]
  let hw1:Sub (L.put b.X (b.xo st sm)) w:=λy o wr hy=>hw y o wr (Le.put hB2 _ _ _ hy);let hw0:Sub L w:=λy o wr hy=>hw1 y o wr (Le.put hX _ _ _ hy);let⟨g',w',es,L',h1,h2,h3⟩:=hs w hw0;let⟨h4,h5⟩:=h2.beside hX hw1;let⟨h6,h7⟩:=h4.beside hB2 hw;rw[aB _ _ (dG hxb)] at h7;exact⟨g',w',es,_,h1,h6,h3 K st sm hK h5 h7⟩
 pk:=λ_ _=>False
 BQ:=λ_ _ _ _ _ _ h=>h.elim
section
variable {b:bH}{c:dp}{m:World}{hxb:b.X≠b.B}{C:Cx b.P}{n:Nat}{l:cj}{k:bI}{E:Env}{B:aX}{L:LH}
def W.join(j:C.X=LJn b c m hxb)(z:Ah 0 E=true)
  (w:∀R K r v,Le L R->b.KOk K->R b.X=none->R b.B=none->W (⟨jV b.P c m,C.f,C.kd,C.ro,C.cs,(R.put b.X (b.xo r v)).put b.B (b.ob K),(R.put b.X (b.xo r v)).put b.B (b.ob K)⟩:Cx b.P) n l k E [] ((R.put b.X (b.xo r v)).put b.B (b.ob K))):W C n l k E B L:=by
 intro T R β h i a;rw[j];exact λK r v q u d=>w R K r v a.le q u d T _ fe h (i.adZ z) (bJ.all _)
end
section
variable {P:aV}{C:Cx P}{n:Nat}{l:cj}{k:bI}{E:Env}{B:aX}{L:LH}{j:cU}{i:Nat}{q:aU}{e:Bool}{Φ:iF}{h:Goroutine->LH->Prop}
def W.X6{d:bD}{g:bO}{b:Func}{x:aW}{z:fX}{p:bh}{s:ck}{G:cR}{K:cZ}{ad:Addr}{Y:aM P}(m:Addr->Mark)(H:∀a g,m a≠.extern g)(Q:P.funcs[g]?=b)(f:(b.name== "runtime.NumGoroutine")=false)(S:b.body.isNone=true)(hn:Extern.findNext b=none)
  (he:Extern.find b=Extern.Race.marked m)(hX:C.X=iY P e Φ h)(y:C.ro=none)(o:C.kd≠.early)
  (I:∀g D L,g.status=.running->(∀w,stepG P e g w=.go D w #[mk (m ad)])->Y.Go D L->h g L)
  (F:nth j.toList i=some ⟨d,.call {callee:=.value (.func g),args:=#[x],argTypes:=z},p,s,G,K⟩)(hg:bG (get E) j.toList K=true)(hz:(d.all λd=>Nat.blt d n)=true)(u:bZ (get E) x=ad)
  (w:W (C.to Y) n l (.inRegion j q::k) ((d.toList.map λd=>(d,SV.v (.tuple #[])))++E) B L):W C n l (.inRegion j (i::q)::k) E B L:=by
 refine W.stop hX λT R β hT J r=>?_;let t:=F;rw[dF,iN] at t;let ex:=(bR (J.val u)).symm;refine I _ _ _ rfl (λc=>?_) (W.behind F rfl hz hT J r w);rw[y,AU,zn,show(j[i]?).bind (·.dst)=d by rw[t];rfl];exact stepG_markAt m H t (cA J hg) o rfl Q f S hn he (by simp[mJ,ex])
end
end
end Go.Mz
namespace Go.Mz
open Go.Conc
def uO{α β:Type}{a f:α}{b u:β}(h:(a,b)=(f,u)):a=f/\b=u:=Prod.mk.inj h
def pr3{α β γ:Type}{a f:α}{b u:β}{c o:γ}(h:(a,b,c)=(f,u,o)):a=f/\b=u/\c=o:=⟨(uO h).1,uO (uO h).2⟩
def pr4{α β γ δ:Type}{a f:α}{b u:β}{c o:γ}{d k:δ}(h:(a,b,c,d)=(f,u,o,k)):a=f/\b=u/\c=o/\d=k:=⟨(uO h).1,pr3 (uO h).2⟩
def pr5{α β γ δ ε:Type}{a f:α}{b u:β}{c o:γ}{d k:δ}{e i:ε}(h:(a,b,c,d,e)=(f,u,o,k,i)):a=f/\b=u/\c=o/\d=k/\e=i:=⟨(uO h).1,pr4 (uO h).2⟩
section
variable {P:aV}[S:Seat P]{C:Cx P}{n:Nat}{ds:cj}{k:bI}{E:Env}{B:aX}{L:LH}
variable {ops:cU}{i:Nat}{rest:aU}{d:Nat}{op:Op}{ty:bh}{pos:ck}{af:cR}{gd:cZ}{sv:SV}
def W.g{v:bI}{u:Env}{q:aX}(h:runK S.τ n [] 99 k E B=(v,u,q))(w:W C n ds v u q L):W C n ds k E B L:=W.run S.ok 99 h w
def W.r{q:Func}{Q:bC}{H:kP}{g:gn}{j:aR}(r:Rt C q Q H)(h:(uP S.τ (get E) B q.results.toList,cW fe g)=(some g,some j))(c:Q (lv j) L):W C n [] (.code .ret::k) E B L:=W.ret r (uO h).1 (uO h).2 c
def W.z{t:Nat}(h:DD C S.τ n ds ops k B L [] [] E B L)(v:Wr ops n=true:=by kernel_rfl):W C n ds (.code (.region t ops true)::k) E B L:=W.drawn v L (Le.refl _) h
def W.f{t:Nat}(h:DD C S.τ n ds ops k B vb [] [] E B L)(v:Wr ops n=true:=by kernel_rfl):W C n ds (.code (.region t ops true)::k) E B L:=W.drawn v vb (ij _) h
variable {m:Nat}{Lf:LH}{td:aU}{aA E0:Env}
def DD.u(i:Nat)(h:(nth ops.toList i,iX td i,qv td (eM ops.toList i),bG (cM ops.toList i aA E0) ops.toList gd,iU op)=(some ⟨some d,op,ty,pos,af,gd⟩,false,true,some true,false))
  (g:Vf P op (cM ops.toList i aA E0) (B.take m) Lf sv)(w:DD C S.τ n ds ops k m Lf (i::td) ((d,sv)::aA) E0 B L):DD C S.τ n ds ops k m Lf td aA E0 B L:=
 let⟨a,b,c,d,e⟩:=pr5 h;DD.vf i a b c d e g w
def DD.a(i:Nat){Q:Az}{o:Oper}(h:(nth ops.toList i,Nat.blt i ops.size,iX td i,qY ops.toList td [i] ops.size,bG (cM ops.toList i aA E0) ops.toList o.guard)=(some o,true,false,true,some true))
  (z:Ef C o (cM ops.toList i aA E0) B L Q)(q:∀sv v u,Q sv v u->Le Lf u/\v=B.length/\(v.take m=B.take m\/BY ops.toList (eM ops.toList i) td=true))
  (w:∀sv v u,Q sv v u->DD C S.τ n ds ops k m Lf (i::td) (Bv o.dst sv aA) E0 v u):DD C S.τ n ds ops k m Lf td aA E0 B L:=
 let⟨a,b,c,d,e⟩:=pr5 h;DD.act i a b c d e z q w
def DD.c(i:Nat){g:bO}{o:jk}{z:fX}{e:aR}{Q:bC}(h:(nth ops.toList i,Nat.blt i ops.size,iX td i,qY ops.toList td [i] ops.size,bG (cM ops.toList i aA E0) ops.toList gd)=(some ⟨some d,.call {callee:=.value (.func g),args:=o,argTypes:=z},ty,pos,af,gd⟩,true,false,true,some true))
  (s:nJ (cM ops.toList i aA E0) o.toList=e)(a:Sp C.X g e L Q)(c:∀v u,Q v u->Le Lf u)
  (w:∀v u,Q v u->DD C S.τ n ds ops k m Lf (i::td) ((d,v)::aA) E0 B u):DD C S.τ n ds ops k m Lf td aA E0 B L:=
 DD.a i h (Ef.call s a) (λ_ _ _ ⟨v,_,f,q⟩=>⟨c v _ q,by rw[f],.inl (by rw[f])⟩) (λ_ _ _ ⟨v,t,f,q⟩=>by subst t f;exact w v _ q)
def DD.w(i:Nat){g:bO}{u:jk}{z:fX}{e:aR}{Q:bC}(h:(nth ops.toList i,Nat.blt i ops.size,iX td i,qY ops.toList td [i] ops.size,bG (cM ops.toList i aA E0) ops.toList gd)=(some ⟨some d,.call {callee:=.value (.func g),args:=u,argTypes:=z},ty,pos,af,gd⟩,true,false,true,some true))
  (s:nJ (cM ops.toList i aA E0) u.toList=e)(a:Sp C.X g e L Q)
  (w:∀v q,Q v q->DD C S.τ n ds ops k m vb (i::td) ((d,v)::aA) E0 B q):DD C S.τ n ds ops k m vb td aA E0 B L:=
 DD.c i h s a (λ_ _ _=>ij _) w
end
section
variable {P:aV}{C:Cx P}{n:Nat}{ds:cj}{k:bI}{E:Env}{B:aX}{L:LH}
variable {ops:cU}{i:Nat}{rest:aU}{d:Nat}{op:Op}{ty:bh}{pos:ck}{af:cR}{gd:cZ}{sv:SV}
def W.s{s:Nat}{sv:SV}{p:Bool}(h:(nB k,get E s,mL sv)=(some s,some sv,some p))(q:p=true->W C n ds k ((s,.lit true)::E) B L)(z:p=false->W C n ds k ((s,.lit false)::E) B L):W C n ds k E B L:=let⟨a,b,c⟩:=pr3 h;W.split a b c q z
def W.T{s:Nat}{sv:SV}{p:Bool}(h:(nB k,get E s,mL sv)=(some s,some sv,some p))(w:W C n ds k ((s,.lit true)::E) B L)(a:¬p=false:=by decide):W C n ds k E B L:=W.s h (λ_=>w) λc=>ar c a
def W.F{s:Nat}{sv:SV}{p:Bool}(h:(nB k,get E s,mL sv)=(some s,some sv,some p))(w:W C n ds k ((s,.lit false)::E) B L)(a:¬p=true:=by decide):W C n ds k E B L:=W.s h (λc=>ar c a) λ_=>w
def W.R{s:Nat}{sv:SV}{p:Bool}(h:(nB k,get E s,mL sv)=(some s,some sv,some p))(w:W C n ds k ((s,.lit true)::E) B L)(a:¬p=false:=by exact λc=>Bool.noConfusion (show true=false from c)):W C n ds k E B L:=W.T h w a
def W.Q{s:Nat}{sv:SV}{p:Bool}(h:(nB k,get E s,mL sv)=(some s,some sv,some p))(w:W C n ds k ((s,.lit false)::E) B L)(a:¬p=true:=by exact λc=>Bool.noConfusion (show false=true from c)):W C n ds k E B L:=W.F h w a
def W.u(h:(nth ops.toList i,bG (get E) ops.toList gd,Nat.blt d n,iU op)=(some ⟨some d,op,ty,pos,af,gd⟩,some true,true,false))(g:Vf P op (get E) B L sv)(w:W C n ds (.inRegion ops rest::k) ((d,sv)::E) B L):W C n ds (.inRegion ops (i::rest)::k) E B L:=
 let⟨a,b,c,d⟩:=pr4 h;W.vf a b c d g w
def W.e{Q:Az}(h:(nth ops.toList i,bG (get E) ops.toList gd,Nat.blt d n)=(some ⟨some d,op,ty,pos,af,gd⟩,some true,true))(z:Ef C ⟨some d,op,ty,pos,af,gd⟩ (get E) B L Q)
  (w:∀sv v u,Q sv v u->W C n ds (.inRegion ops rest::k) ((d,sv)::E) v u):W C n ds (.inRegion ops (i::rest)::k) E B L:=let⟨a,b,c⟩:=pr3 h;W.Pe a b c z w
def W.c{g:bO}{f:jk}{z:fX}{u:aR}{Q:bC}(h:(nth ops.toList i,bG (get E) ops.toList gd,Nat.blt d n,nJ (get E) f.toList)=(some ⟨some d,.call {callee:=.value (.func g),args:=f,argTypes:=z},ty,pos,af,gd⟩,some true,true,some u))
  (t:Sp C.X g u L Q)(w:∀v o,Q v o->W C n ds (.inRegion ops rest::k) ((d,v)::E) B o):W C n ds (.inRegion ops (i::rest)::k) E B L:=
 let⟨a,b,c,e⟩:=pr4 h;W.Pe a b c (Ef.call e t) λ_ _ _ ⟨v,m,j,q⟩=>by subst m j;exact w v _ q
def W.p{g:bO}{f:jk}{z:fX}{e:aR}{u:Value}(h:(nth ops.toList i,bG (get E) ops.toList gd,Nat.blt d n,nJ (get E) f.toList)=(some ⟨some d,.call {callee:=.value (.func g),args:=f,argTypes:=z},ty,pos,af,gd⟩,some true,true,some e))
  (a:Sp C.X g e L (λv o=>v=u/\L=o))(w:W C n ds (.inRegion ops rest::k) ((d,u)::E) B L):W C n ds (.inRegion ops (i::rest)::k) E B L:=
 W.c h a λ_ _ ⟨q,t⟩=>by subst q t;exact w
end
section
variable {P:aV}[S:Seat P]{E:cK}{B:aX}{L:LH}{t t2:bh}{x y:aW}{ti te:TI}{ad:Addr}{v:Value}
def Vf.l(h:(bZ E x,S.τ.find t,ti.agg)=(some (.v (.pointer (some ad))),some ti,false))(u:L.cell? ad=v):Vf P (.load t x) E B L v:=let⟨a,b,c⟩:=pr3 h;Vf.load a b c u
def Vf.q{j:aR}(h:(bZ E x,S.τ.find t,ti.agg)=(some (.v (.pointer (some ad))),some ti,true))(u:cD L ad ti.size j):Vf P (.load t x) E B L (.v (.agg j.toArray)):=let⟨a,b,c⟩:=pr3 h;Vf.JH a b c u
def Vf.b{e:bh}{m u i:Nat}{q:fE}{j:Int}(h:(bZ E x,bZ E y,S.τ.find t,ti.d)=(some (.v (.slice ad m u)),some (.v (.int q j)),some ti,.slice e))(p:(S.τ.find e,te.size,j)=(some te,1,(i:Int)))(z:i<m):
  Vf P (.indexAddr t x y) E B L (ad.add i):=let⟨a,b,c,d⟩:=pr4 h;let⟨e,f,g⟩:=pr3 p;Vf.NH a b c d e f g z
def Vf.j{e:bh}{m u i:Nat}{q:fE}{j:Int}(h:(bZ E x,bZ E y,S.τ.find t,ti.d)=(some (.v (.slice ad m u)),some (.v (.int q j)),some ti,.slice e))(p:(S.τ.find e,j)=(some te,(i:Int)))(z:i<m):
  Vf P (.indexAddr t x y) E B L (ad.add (i *te.size)):=let⟨a,b,c,d⟩:=pr4 h;Vf.idx a b c d (uO p).1 (uO p).2 z
end
section
variable {P:aV}{C:Cx P}{n:Nat}{ds:cj}{k:bI}{E:Env}{B:aX}{L:LH}
def W.a{E':Env}{B':aX}(w:W C n ds k E' B' L)(h:gR E E':=by repeat' (first | exact rfl | exact aE | exact aJ some (cr M) | apply And.intro))(hB:mV B B':=by repeat' (first | exact rfl | exact aE | apply And.intro))(q:Ah B'.length E'=true:=by rfl)(z:CU B'.length B'=true:=by rfl):W C n ds k E B L:=W.kI h hB w q z
def W.l{c:Code}(I:Xd){m:Nat}{u:Env}{v:aX}(f:I m u v L)
  (h:∀m E B L,I m E B L->(∀t u v d,t<m->I t u v d->W C n ds (.inLoop c::k) u v d)->W C n ds (.code c::.inLoop c::k) E B L)(i:gR E u:=by repeat' (first | exact rfl | exact aE | apply And.intro))(hB:mV B v:=by repeat' (first | exact rfl | exact aE | apply And.intro))(q:Ah v.length u=true:=by rfl)(z:CU v.length v=true:=by rfl):W C n ds (.code (.loop c)::k) E B L:=W.loop I f i hB h q z
end
def Sp.e{P:aV}{n:Nat}{L:LH}{X:aM P}{f:bO}{q:Func}{u:Code}{e:aR}{Q:bC}{H:kP}(v:P.funcs[f]?=q)(z:(q.body,(q.name== "runtime.NumGoroutine"),q.ntmps,Nat.ble e n)=(some u,false,n,true))
  (h:∀C:Cx P,C.X=X->C.L0=L->Rt C q Q H->W C n [] [.code u] (rA 0 e) [] L):Sp X f e L Q H:=
 let⟨a,b,c,d⟩:=pr4 z;Sp.enter v a b c d λC i _ o r=>h C i o r
section
variable {P:aV}[S:Seat P]{C:Cx P}{n:Nat}{ds:cj}{k k2:bI}{E E2:Env}{B B2:aX}{L:LH}
variable {ops:cU}{i:Nat}{rest:aU}{d:Nat}{op:Op}{ty:bh}{pos:ck}{af:cR}{gd:cZ}{sv:SV}
def W.I{s:Nat}{sv:SV}{p:Bool}(h:(runK S.τ n [] 99 k E B,nB k2,get E2 s,mL sv)=((k2,E2,B2),some s,some sv,some p))(q:p=true->W C n ds k2 ((s,.lit true)::E2) B2 L)(z:p=false->W C n ds k2 ((s,.lit false)::E2) B2 L):W C n ds k E B L:=W.g (uO h).1 (W.s (uO h).2 q z)
def W.N{s:Nat}{sv:SV}{p:Bool}(h:(runK S.τ n [] 99 k E B,nB k2,get E2 s,mL sv)=((k2,E2,B2),some s,some sv,some p))(w:W C n ds k2 ((s,.lit true)::E2) B2 L)(a:¬p=false:=by decide):W C n ds k E B L:=W.I h (λ_=>w) λc=>ar c a
def W.K{s:Nat}{sv:SV}{p:Bool}(h:(runK S.τ n [] 99 k E B,nB k2,get E2 s,mL sv)=((k2,E2,B2),some s,some sv,some p))(w:W C n ds k2 ((s,.lit false)::E2) B2 L)(a:¬p=true:=by decide):W C n ds k E B L:=W.I h (λc=>ar c a) λ_=>w
def W.G(h:(runK S.τ n [] 99 k E B,nth ops.toList i,bG (get E2) ops.toList gd,Nat.blt d n,iU op)=((.inRegion ops (i::rest)::k2,E2,B2),some ⟨some d,op,ty,pos,af,gd⟩,some true,true,false))(g:Vf P op (get E2) B2 L sv)(w:W C n ds (.inRegion ops rest::k2) ((d,sv)::E2) B2 L):W C n ds k E B L:=
 W.g (uO h).1 (W.u (uO h).2 g w)
def W.v{Q:Az}(h:(runK S.τ n [] 99 k E B,nth ops.toList i,bG (get E2) ops.toList gd,Nat.blt d n)=((.inRegion ops (i::rest)::k2,E2,B2),some ⟨some d,op,ty,pos,af,gd⟩,some true,true))(z:Ef C ⟨some d,op,ty,pos,af,gd⟩ (get E2) B2 L Q)
  (w:∀sv v u,Q sv v u->W C n ds (.inRegion ops rest::k2) ((d,sv)::E2) v u):W C n ds k E B L:=W.g (uO h).1 (W.e (uO h).2 z w)
def W.o{g:bO}{u:jk}{z:fX}{e:aR}{Q:bC}(h:(runK S.τ n [] 99 k E B,nth ops.toList i,bG (get E2) ops.toList gd,Nat.blt d n,nJ (get E2) u.toList)=((.inRegion ops (i::rest)::k2,E2,B2),some ⟨some d,.call {callee:=.value (.func g),args:=u,argTypes:=z},ty,pos,af,gd⟩,some true,true,some e))
  (a:Sp C.X g e L Q)(w:∀v q,Q v q->W C n ds (.inRegion ops rest::k2) ((d,v)::E2) B2 q):W C n ds k E B L:=W.g (uO h).1 (W.c (uO h).2 a w)
def W.y{g:bO}{q:jk}{z:fX}{e:aR}{u:Value}(h:(runK S.τ n [] 99 k E B,nth ops.toList i,bG (get E2) ops.toList gd,Nat.blt d n,nJ (get E2) q.toList)=((.inRegion ops (i::rest)::k2,E2,B2),some ⟨some d,.call {callee:=.value (.func g),args:=q,argTypes:=z},ty,pos,af,gd⟩,some true,true,some e))
  (a:Sp C.X g e L (λv f=>v=u/\L=f))(w:W C n ds (.inRegion ops rest::k2) ((d,u)::E2) B2 L):W C n ds k E B L:=W.g (uO h).1 (W.p (uO h).2 a w)
def W.D{q:Func}{Q:bC}{H:kP}{g:gn}{j:aR}(r:Rt C q Q H)(h:(runK S.τ n [] 99 k E B,uP S.τ (get E2) B2 q.results.toList,cW fe g)=((.code .ret::k2,E2,B2),some g,some j))(c:Q (lv j) L):W C n [] k E B L:=W.g (uO h).1 (W.r r (uO h).2 c)
def W.t{t:Nat}(f:runK S.τ n [] 99 k E B=(.code (.region t ops true)::k2,E2,B2))(h:DD C S.τ n ds ops k2 B2 L [] [] E2 B2 L)(v:Wr ops n=true:=by kernel_rfl):W C n ds k E B L:=W.g f (W.z h v)
end
section
variable {P:aV}{C:Cx P}{n:Nat}{ds:cj}{k:bI}{E:Env}{B:aX}{L:LH}
variable {ops:cU}{i:Nat}{rest:aU}{d:Nat}{op:Op}{ty:bh}{pos:ck}{af:cR}{gd:Option (Nat×Bool)}
def W.h{l:SV}{x:aX}{u:LH}(h:(nth ops.toList i,bG (get E) ops.toList gd,Nat.blt d n)=(some ⟨some d,op,ty,pos,af,gd⟩,some true,true))(z:Ef C ⟨some d,op,ty,pos,af,gd⟩ (get E) B L (λsv v q=>sv=l/\v=x/\q=u))
  (w:W C n ds (.inRegion ops rest::k) ((d,l)::E) x u):W C n ds (.inRegion ops (i::rest)::k) E B L:=W.e h z λ_ _ _ ⟨a,b,c⟩=>by subst a b c;exact w
def W.J{l:SV}{x:aX}{h:LH}(j:nth ops.toList i=some ⟨none,op,ty,pos,af,gd⟩)(u:bG (get E) ops.toList gd=true)(z:Ef C ⟨none,op,ty,pos,af,gd⟩ (get E) B L (λsv v q=>sv=l/\v=x/\q=h))
  (w:W C n ds (.inRegion ops rest::k) E x h):W C n ds (.inRegion ops (i::rest)::k) E B L:=W.fL j u z λ_ _ _ ⟨a,b,c⟩=>by subst a b c;exact w
end
section
variable {P:aV}[S:Seat P]{C:Cx P}{n:Nat}{ds:cj}{k:bI}{B:aX}{L:LH}{ops:cU}{m:Nat}{Lf:LH}{td:aU}{aA E0:Env}
def DD.x(i:Nat){l:SV}{x:aX}{q:LH}{o:Oper}(h:(nth ops.toList i,Nat.blt i ops.size,iX td i,qY ops.toList td [i] ops.size,bG (cM ops.toList i aA E0) ops.toList o.guard)=(some o,true,false,true,some true))
  (z:Ef C o (cM ops.toList i aA E0) B L (λsv v u=>sv=l/\v=x/\u=q))(d:∀sv v u,sv=l/\v=x/\u=q->Le Lf u/\v=B.length/\(v.take m=B.take m\/BY ops.toList (eM ops.toList i) td=true))
  (w:DD C S.τ n ds ops k m Lf (i::td) (Bv o.dst l aA) E0 x q):DD C S.τ n ds ops k m Lf td aA E0 B L:=DD.a i h z d λ_ _ _ ⟨a,b,c⟩=>by subst a b c;exact w
end
end Go.Mz
set_option maxRecDepth 100000
namespace Go.Mz
open Go.Conc
variable {P:aV}{α:Type}{X:aM P}{n k m:Nat}{L R J:LH}{t e:bh}{w u:World}{h:α->List Value}{c:Int}{B:aX}{x:aW}{Y:Trace}{l:aH}{r:List α}{q:aU}{Q:bC}{E:cK}{j:aR}{D:bt}{d:bA}{F:Env}{g:aT}{o:bD}{C:bH}{N:Nm}{K:bI}{z:SV}{I:cj}{H:ck}
def cV(n lo hi:Int):Bool:=decide (lo<=n)&&decide (n<=hi)
def e9{s i:Int}:cV c s i=true↔s<=c/\c<=i:=by unfold cV;simp
def cI(n lo hi:Int):Int:=if n<lo then 7 else if hi<n then 6 else 0
def Ba{s i:Int}:cI c s i=0↔s<=c/\c<=i:=by
 unfold cI
 split
 .constructor
  .intro h;cases h
  .omega
 .split
  .constructor
   .intro h;cases h
   .omega
  .constructor
   .omega
   .intro _;rfl
def bu(l:aH):Int:=l.foldl (·+·) 0
def lz(l:aH)(x:Int):bu (l++[x])=bu l+x:=by unfold bu;rw[zi];rfl
def Ld:∀(n:Nat) (l:aH),l=n->(∀x∈l,0<=x/\x<=100)->0<=bu l/\bu l<=100 *n
 | 0,l,hn,_=>by
  rw[Dt] at hn;subst hn;exact⟨Du _,Du _⟩
 | n+1,l,hn,h=>by
  have i:l≠[]:=λe=>by subst e;simp at hn
  obtain⟨k,x,rfl⟩:∃k x,l=k++[x]:=⟨l.dropLast,l.getLast i,(IP i).symm⟩;rw[lz];let q:=Ld n k (by simp at hn;omega) λy g=>h y (yT _ g);let z:=h x U;omega
structure Want where
 sort:Int
 kind:Int
 cO:Int
 pay:Int
deriving DecidableEq
abbrev dt:=List Want
structure Sw where
 ay:List (List Int)
 aO:List Int
 jO:Int
 aC:List Want
deriving DecidableEq
def upB(p:me)(n:Int):Bool:=match p with
 | some q=>decide (q<n)
 | none=>false
def Fx(p:me)(n:Int):Bool:=match p with
 | some q=>decide (n<=q)
 | none=>false
def ny:Option Int->List Int->Int
 | _,[]=>0
 | p,n::t=>if !cV n 1 9 then 1 else if upB p n then 5 else ny (some n) t
def mC(l:aH):Int:=if cI l 1 4≠0 then cI l 1 4 else ny none l
def Bp(x:Want):Int:=if x.sort=0 then 0 else 1
def Db(ls:gx)(x:Want):Int:=if x.sort=0 then 0 else if x.sort=1 then 60 else((ls.getD x.kind.toNat []):Int) - 1
def Dc(x:Want):Int:=if x.sort=1 then -1 else 0
def gy(ls:gx)(x:Want):Int:=
 if !cV x.sort 0 2 then 8 else
 if !cV x.kind (Dc x) ((ls:Int) - 1) then 3 else
 if cV x.cO (Bp x) (Db ls x)&&cV x.pay 0 30 then 0 else 1
def jo:List (List Int)->Int
 | []=>0
 | x::l=>if mC x≠0 then mC x else jo l
def kW:List Int->Bool
 | []=>true
 | x::l=>cV x 0 4&&kW l
def oy(ls:gx):List Want->Int
 | []=>0
 | x::l=>if gy ls x≠0 then gy ls x else oy ls l
def e8(s:Sw):Int:=
 if cI s.ay 1 3≠0 then cI s.ay 1 3 else
 if jo s.ay≠0 then jo s.ay else
 if s.aO≠s.ay.length then 9 else
 if !kW s.aO then 1 else
 if !cV s.jO 0 3 then 1 else
 if 5<s.aC.length then 6 else oy s.ay s.aC
structure RD(l:List Int):Prop where
 l1:1<=l.length
 l4:l.length<=4
 r:∀n∈l,1<=n/\n<=9
structure Dq(ls:List (List Int))(x:Want):Prop where
 s0:0<=x.sort
 s2:x.sort<=2
 k0:Dc x<=x.kind
 k1:x.kind<ls.length
 a0:Bp x<=x.cO
 a1:x.cO<=Db ls x
 p0:0<=x.pay
 p1:x.pay<=30
structure eD(s:Sw):Prop where
 l1:1<=s.ay.length
 l3:s.ay.length<=3
 lf:∀l∈s.ay,RD l
 st:s.aO.length=s.ay.length
 sr:∀n∈s.aO,0<=n/\n<=8
 k0:0<=s.jO
 k3:s.jO<=3
 w5:s.aC.length<=5
 wt:∀x∈s.aC,Dq s.ay x
theorem NR:∀{l:aH} {p:me},ny p l=0->∀n∈l,1<=n/\n<=9
 | [],_,_,n,o=>by cases o
 | x::l,p,h,n,o=>by
  unfold ny at h
  split at h
  ·cases h
  ·rename_i q;simp only[wF,Dv,e9] at q
   split at h
   ·cases h
   ·rcases eP.1 o with rfl | o
    ·exact q
    ·exact NR h n o
def Tg(h:mC l=0):RD l:=by
 unfold mC at h
 split at h
 .rename_i q;exact ar h q
 .rename_i q;simp[ne_eq,Decidable.not_not,Ba] at q;exact⟨M,M,NR h⟩
def uX{c:gx}{x:Want}(h:gy c x=0):Dq c x:=by
 unfold gy at h
 split at h
 .cases h
 .rename_i q
  split at h
  .cases h
  .rename_i z
   split at h
   .rename_i r;simp[wF,Dv,nF,e9] at q z r;exact⟨q.1,q.2,z.1,M,r.1.1,r.1.2,r.2.1,r.2.2⟩
   .cases h
def JJ{l:gx}:jo l=0↔∀x∈l,mC x=0:=by
 induction l with
 | nil=>simp[jo]
 | cons x l u=>
  simp[jo,eP,forall_eq_or_imp]
  by_cases h:mC x=0
  .simp[h,u]
  .simp[h]
def Gn{c:gx}{l:dt}:oy c l=0↔∀x∈l,gy c x=0:=by
 induction l with
 | nil=>simp[oy]
 | cons x l u=>
  simp[oy,eP,forall_eq_or_imp]
  by_cases h:gy c x=0
  .simp[h,u]
  .simp[h]
def Ap:kW l=true↔∀x∈l,0<=x/\x<=4:=by
 induction l with
 | nil=>simp[kW]
 | cons x l u=>simp[kW,nF,e9,u,eP,forall_eq_or_imp]
def nA{s:Sw}(h:e8 s=0):eD s:=by
 unfold e8 at h
 split at h
 .rename_i q;exact ar h q
 .rename_i q
  split at h
  .rename_i z;exact ar h z
  .rename_i z
   split at h
   .cases h
   .rename_i r
    split at h
    .cases h
    .rename_i v
     split at h
     .cases h
     .rename_i k
      split at h
      .cases h
      .rename_i t;simp[ne_eq,Decidable.not_not,Ba,JJ,wF,Dv,Ap,e9] at q z r v k;exact⟨M,M,λl o=>Tg (z l o),r,λn y=>by have:=v n y;omega,k.1,k.2,M,λx u=>uX (Gn.1 h x u)⟩
def fT(s:Sw)(k:Int):List Int:=s.ay.getD k.toNat []
def kN(s:Sw)(x:Want):Int:=max 0 (bu ((fT s x.kind).take ((fT s x.kind) - x.cO.toNat)) - s.jO)
structure Pl where
 t:List Int
 s:List Int
 d:List Int
 a:Int
deriving DecidableEq
def kZ(l:aH)(k:Nat)(x:Int):List Int:=l.modify k (·+x)
def Mw:Pl:=⟨[0,0,0],[0,0,0],[0,0,0],0⟩
def tL(s:Sw)(p:Pl)(x:Want):Pl:=
 if x.sort=0 then{p with t:=kZ p.t x.kind.toNat 1} else
 if x.sort=1 then(if x.kind<0 then{p with a:=p.a+x.cO} else{p with d:=kZ p.d x.kind.toNat x.cO}) else
 {p with t:=kZ p.t x.kind.toNat 1,s:=kZ p.s x.kind.toNat (kN s x)}
def aZ(s:Sw)(w:aU):List Want:=w.filterMap (s.aC[·]?)
def oq(s:Sw)(w:aU):Pl:=(aZ s w).foldl (tL s) Mw
def pX(s:Sw)(l:aH)(p:Pl)(k:Nat):Pl:={p with t:=kZ p.t k (l.getD k 0),s:=kZ p.s k (l.getD k 0 *bu (s.ay.getD k []))}
def fh(s:Sw)(w:aU)(l:aH):Pl:=(List.range s.ay).foldl (pX s l) (oq s w)
def CH(p:Pl):Int:=bu p.s - bu p.d - p.a
def nz(s:Sw)(p:Pl):Int:=
 if(List.range s.aO).any (λk=>decide (s.aO.getD k 0<p.t.getD k 0)) then 12 else
 if(List.range s.aO).any (λk=>decide (p.s.getD k 0<p.d.getD k 0)) then 9 else
 if CH p<0 then 9 else 0
def uB(s:Sw)(w:aU):Int:=((aZ s w).countP λx=>x.sort==2:Nat)
def jT:List Int->List (List Int)
 | []=>[[]]
 | m::t=>(List.range (m+1).toNat).flatMap λ(n:Nat)=>(jT t).map ((n:Int)::·)
def okW(s:Sw)(w:aU)(l:aH):Bool:=nz s (fh s w l)==0
def fB(s:Sw)(w:aU):List (List Int):=if uB s w<=bu s.aO then(jT s.aO).filter (okW s w) else[]
def mR(lt:α->α->Bool)(b:Option α)(x:α):Option α:=match b with
 | none=>x
 | some y=>if lt x y then x else y
def gT(lt:α->α->Bool)(l:List α):Option α:=l.foldl (mR lt) none
structure Cr where
 w:List Nat
 l:List Int
 c:Int
 p:Int
deriving DecidableEq
abbrev yb:=Option Cr
def zs(s:Sw)(w:aU)(l:aH):Cr:=⟨w,l,bu (fh s w l).t,CH (fh s w l)⟩
def tt(a b:Cr):Bool:=decide (a.c<b.c)||(decide (a.c=b.c)&&decide (a.p<b.p))
def dE(s:Sw)(w:aU):Option Cr:=gT tt ((fB s w).map (zs s w))
def fb(s:Sw)(w:aU):Int:=bu ((aZ s w).map (·.pay))
def bB(m:Nat):List Nat:=(List.range 5).filter (m.testBit ·)
def gm(s:Sw):List Nat:=List.range s.aC
def RV(s:Sw):List (Option Cr):=(List.range (2 ^ s.aC.length)).map λm=>dE s (bB m)
def cT(s:Sw):Bool:=!(fB s (gm s)).isEmpty
def kl(l:aH):List Nat:=l.map Int.toNat
def uL(s:Sw)(ks ns:aH):Int:=
 if e8 s≠0 then e8 s else if ks.all (λk=>cV k 0 ((s.ay:Int) - 1))&&ns.all (λn=>cV n 0 ((s.aC:Int) - 1)) then 0 else 3
def tK(m:Int):Option Int->List Int->Int
 | _,[]=>0
 | p,n::t=>if !cV n 0 m then 3 else if Fx p n then 5 else tK m (some n) t
def wj(s:Sw)(l:aH):Int:=tK ((s.aC:Int) - 1) none l
def tz(s:Sw)(w:aU):List Int×Int×Int:=match dE s w with
 | none=>([],0,11)
 | some c=>(c.l,c.c,0)
def rz(s:Sw)(w:aH):List Int×Int×Int:=if e8 s≠0 then([],0,e8 s) else if wj s w≠0 then([],0,wj s w) else tz s (kl w)
def mU(s:Sw):List Int×Int×Int:=if e8 s≠0 then([],0,e8 s) else tz s (gm s)
def zU:List Nat->List Nat->Bool
 | _,[]=>false
 | [],_::_=>true
 | a::l,b::k=>decide (a<b)||(decide (a=b)&&zU l k)
def yC(s:Sw)(a b:Cr):Bool:=
 if fb s a.w≠fb s b.w\/a.c≠b.c then decide (fb s b.w<fb s a.w)||(decide (fb s a.w=fb s b.w)&&decide (a.c<b.c)) else zU a.w b.w
def qO(s:Sw)(so:C8):Option Cr:=gT (yC s) (((RV s).filterMap id).filter λc=>so c.w)
def nZ(o:yb):List Nat:=match o with | some c=>c.w | none=>[]
def dP(s:Sw):List Nat×Int×Int:=if e8 s≠0 then([],0,e8 s) else(nZ (qO s λ_=>true),fb s (nZ (qO s λ_=>true)),0)
def mF(s:Sw)(x:Want):Sw:={s with aC:=s.aC++[x]}
def MD:Sw:=⟨[],[],0,[]⟩
def nR(s:Sw)(x:Want):Sw×Int:=
 if e8 s≠0 then(MD,e8 s) else if s.aC.length=5 then(MD,6) else if gy s.ay x≠0 then(MD,gy s.ay x) else
 if cT s&&!cT (mF s x) then(MD,9) else(mF s x,0)
end Go.Mz
set_option maxRecDepth 100000
namespace Go.Mz
open Go.Conc
variable {P:aV}{α:Type}{X:aM P}{n m:Nat}{L R J:LH}{t e:bh}{w u:World}{h:α->List Value}{c:Int}{B:aX}{x:aW}{Y:Trace}{l:aH}{r:List α}{s:Sw}{q:aU}{Q:bC}{E:cK}{j:aR}{D:bt}{d:bA}{F:Env}{g:aT}{o:bD}{C:bH}{N:Nm}{K:bI}{z:SV}{I:cj}{H:ck}
def yr(k:Nat)(x:Want):Bool:=x.sort !=1&&x.kind==(k:Int)
def zK(k:Nat)(x:Want):Bool:=x.sort==2&&x.kind==(k:Int)
def NJ(k:Nat)(x:Want):Bool:=x.sort==1&&x.kind==(k:Int)
def isAny(x:Want):Bool:=x.sort==1&&decide (x.kind<0)
def jy(xs:dt)(k:Nat):Int:=(xs.countP (yr k):Nat)
def nP(s:Sw)(xs:dt)(k:Nat):Int:=bu ((xs.filter (zK k)).map (kN s))
def DT(xs:dt)(k:Nat):Int:=bu ((xs.filter (NJ k)).map (·.cO))
def RX(xs:dt):Int:=bu ((xs.filter isAny).map (·.cO))
def Uu(l:aH)(a:Int):l.foldl (·+·) a=a+bu l:=by
 unfold bu
 induction l generalizing a with
 | nil=>simp
 | cons x l u=>rw[lJ,lJ,u,u (0+x)];omega
def ni(x:Int)(l:aH):bu (x::l)=x+bu l:=by
 show l.foldl (·+·) (0+x)=_;rw[Uu];omega
def Oz:bu []=0:=rfl
def U4(x:Want):Prop:=0<=x.sort/\x.sort<=2/\Dc x<=x.kind/\x.kind<3
def U4.k{x:Want}(h:U4 x):x.kind=0\/x.kind=1\/x.kind=2\/(x.kind=-1/\x.sort=1):=by
 let⟨q,z,r,u⟩:=h;unfold Dc at r
 split at r <;> omega
def Af(f:Nat->Int):List Int:=[f 0,f 1,f 2]
def rq(x:Want)(w:dt)(k:Nat):jy (x::w) k=jy w k+if yr k x then 1 else 0:=by
 unfold jy;rw[List.countP_cons]
 split <;> simp
def Be(s:Sw)(x:Want)(w:dt)(k:Nat):nP s (x::w) k=nP s w k+if zK k x then kN s x else 0:=by
 unfold nP;rw[yV]
 split
 .rw[iH,ni];omega
 .omega
def tV(x:Want)(w:dt)(k:Nat):DT (x::w) k=DT w k+if NJ k x then x.cO else 0:=by
 unfold DT;rw[yV]
 split
 .rw[iH,ni];omega
 .omega
def MU(x:Want)(w:dt):RX (x::w)=RX w+if isAny x then x.cO else 0:=by
 unfold RX;rw[yV]
 split
 .rw[iH,ni];omega
 .omega
def KN(s:Sw):∀(w:dt),(∀x∈w,U4 x)->∀d t1 t2 v s1 o g t m a:Int,
  w.foldl (tL s) ⟨[d,t1,t2],[v,s1,o],[g,t,m],a⟩=
   ⟨[d+jy w 0,t1+jy w 1,t2+jy w 2],[v+nP s w 0,s1+nP s w 1,o+nP s w 2],[g+DT w 0,t+DT w 1,m+DT w 2],a+RX w⟩
 | [],_,d,t1,t2,v,s1,o,g,t,m,a=>by simp[jy,nP,DT,RX,bu]
 | x::w,h,d,t1,t2,v,s1,o,g,t,m,a=>by
  have u:=h x fC;let f:=u.k;let l:=KN s w λy c=>h y (fG _ c);rw[lJ,rq,rq,rq,Be,Be,Be,tV,tV,tV,MU];let⟨q,z,_,_⟩:=u;let j:x.sort=0\/x.sort=1\/x.sort=2:=M
  rcases f with e | e | e | ⟨e,i⟩
  case inr.inr.inr=>simp[tL,yr,zK,NJ,isAny,e,i,l];omega
  all_goals
   rcases j with i | i | i
   all_goals
    simp[tL,yr,zK,NJ,isAny,e,i,kZ,l]
    try omega
def T7(h:∀x∈aZ s q,U4 x):oq s q=⟨Af (jy (aZ s q)),Af (nP s (aZ s q)),Af (DT (aZ s q)),RX (aZ s q)⟩:=by
 unfold oq Mw;rw[KN s _ h];simp[Af]
def eD.inp(h:eD s):∀x∈aZ s q,U4 x:=λx v=>by
 unfold aZ at v;rw[Fc] at v;let⟨i,_,z⟩:=v;let u:=h.wt x (fZ z);let r:=h.l3;exact⟨u.s0,u.s2,u.k0,by have:=u.k1;omega⟩
def PQ(s:Sw)(l:aH)(k:Nat):Int:=if k<s.ay then l.getD k 0 else 0
def wV(h:eD s)(w:aU)(l:aH):fh s w l=
  ⟨Af λk=>jy (aZ s w) k+PQ s l k,Af λk=>nP s (aZ s w) k+PQ s l k *bu (s.ay.getD k []),Af (DT (aZ s w)),RX (aZ s w)⟩:=by
 unfold fh;rw[T7 h.inp];let q:=h.l1;let r:=h.l3;have:s.ay.length=1\/s.ay.length=2\/s.ay.length=3:=M
 rcases this with e | e | e
 all_goals
  rw[e];simp[nI,pX,Af,kZ,PQ,e]
def FV{f:Nat->Int}{k:Nat}(h:k<3):(Af f).getD k 0=f k:=by
 match k,h with
 | 0,_=>rfl
 | 1,_=>rfl
 | 2,_=>rfl
def ad0(f:Nat->Int):bu (Af f)=f 0+f 1+f 2:=by simp[bu,Af]
variable {k:Nat}
def qV(w:aU):Nat:=w.foldl (λm i=>m||| 2 ^ i) 0
def zW(w:aU)(i:Nat):qV (w++[i])=qV w||| 2 ^ i:=by unfold qV;rw[zi];rfl
def JN(w:aU)(i:Nat):(qV w).testBit i=w.contains i:=by
 generalize y:w.length=n
 induction n generalizing w with
 | zero=>rw[Dt] at y;subst y;simp[qV]
 | succ n l=>
  let u:w≠[]:=λe=>by subst e;simp at y
  obtain⟨k,x,rfl⟩:∃k x,w=k++[x]:=⟨w.dropLast,w.getLast u,(IP u).symm⟩;rw[zW,yN,l k (by simp at y;omega),Nat.testBit_two_pow,Fe];simp[vp,List.contains_iff_mem,decide_eq_true_eq,fg,dJ]
  constructor
  .rintro(h | h)
   .exact .inl h
   .exact .inr h.symm
  .rintro(h | h)
   .exact .inl h
   .exact .inr h.symm
def Im(w:aU):Prop:=w.Pairwise (·<·)
def zm:∀(n a:Nat) (w:aU),Im w->(∀x∈w,a<=x/\x<a+n)->(List.range' a n).filter (λi=>w.contains i)=w
 | 0,a,w,_,h=>by
  cases w with
  | nil=>rfl
  | cons x w=>have:=h x fC;omega
 | n+1,a,[],_,_=>by simp
 | n+1,a,x::w,hp,h=>by
  let u:=h x fC;let t:=Dw.1 hp;rw[List.range'_succ,yV]
  by_cases e:x=a
  .subst e;rw[ax U]
   congr 1
   rw[List.filter_congr λi m=>?_]
   .exact zm n (x+1) w t.2 λy g=>by let f:=t.1 y g;let z:=h y (fG _ g);omega
   .have:=(List.mem_range'_1.1 m).1;rw[List.contains_cons];have:(i==x)=false:=by simp;omega
    rw[this,By]
  .rw[A]
   .exact zm n (a+1) (x::w) hp λy g=>by
     let z:=h y g;rcases eP.1 g with rfl | v
     .omega
     .let f:=t.1 y v;omega
   .rw[List.contains_iff_mem];intro o;rcases eP.1 o with d | d
    .exact e d.symm
    .let f:=t.1 a d;omega
def GL{w:aU}(a:Im w)(h:∀x∈w,x<5):bB (qV w)=w:=by
 unfold bB;rw[List.range_eq_range',List.filter_congr λi _=>JN w i];exact zm 5 0 w a λx u=>⟨fj _,by have:=h x u;omega⟩
def Hm{c:Int}:∀{l:aH} {p:me},tK c p l=0->(∀i∈l,0<=i/\i<=c)/\l.Pairwise (·<·)/\∀q,p=some q->∀i∈l,q<i
 | [],p,_=>⟨(λi d=>by cases d),.nil,(λ_ _ i d=>by cases d)⟩
 | x::l,p,h=>by
  rw[tK] at h
  split at h
  .cases h
  .rename_i f
   split at h
   .cases h
   .rename_i z;obtain⟨u,a,v⟩:=Hm h;simp[wF,Dv,e9] at f;refine⟨λi d=>?_,Dw.2 ⟨λy g=>v x O y g,a⟩,λq o i d=>?_⟩
    .rcases eP.1 d with rfl | d
     .exact f
     .exact u i d
    .subst o;simp[Fx,Cf,decide_eq_false_iff_not] at z;rcases eP.1 d with rfl | d
     .omega
     .have:=v x rfl i d;omega
def aau(h:wj s l=0):Im (kl l)/\(∀i∈kl l,i<s.aC)/\(kl l).map (λ(n:Nat)=>(n:Int))=l:=by
 let⟨q,z,_⟩:=Hm h;refine⟨?_,λi u=>?_,?_⟩
 .unfold Im kl;rw[Ff];exact z.imp_of_mem λ{a b} v d f=>by have:=q a v;have:=q b d;omega
 .obtain⟨j,t,rfl⟩:=fK.1 u;have:=q j t;omega
 .unfold kl;rw[yW];refine(yX (g:=id) λi u=>?_).trans (List.map_id _);have:=q i u;show((i.toNat:Nat):Int)=i;omega
end Go.Mz
set_option maxRecDepth 100000
namespace Go.Mz
open Go.Conc
variable {P:aV}{α:Type}{X:aM P}{n k m:Nat}{L R J:LH}{t e:bh}{w u:World}{h:α->List Value}{c:Int}{B:aX}{x:aW}{Y:Trace}{l:aH}{r:List α}{s:Sw}{q:aU}{Q:bC}{E:cK}{j:aR}{D:bt}{d:bA}{F:Env}{g:aT}{o:bD}{C:bH}{N:Nm}{K:bI}{z:SV}{I:cj}{H:ck}
def agM:TypeDesc->TD
 | .slice e=>.slice e
 | .array n e=>.arr n e
 | .struct gs=>.str (gs.toList.map λg=>(g.offset,g.type))
 | .int k=>.int k
 | .bool=>.bool
 | .pointer e=>.ptr e
 | .interface _=>.iface
 | .string=>.text
 | _=>.other
def ad1{d:TypeDesc}(h:P.underlying t=d):EJ P t (agM d):=by
 cases d
 case struct gs=>exact⟨gs,h,rfl⟩
 case interface ms=>exact⟨ms,h⟩
 all_goals first | exact h | exact⟨_,h,λ_ e=>by cases e⟩
def PS(P:aV)(t:bh):Option TI:=(P.info? t).bind λi=>i.zero.bind λz=>(P.underlying t).map λd=>⟨abF d,i.size,i.bytes,z,agM d⟩
def aab{i:TI}(h:PS P t=i):IF P t i:=by
 unfold PS at h;cases u:P.info? t with
 | none=>rw[u] at h;cases h
 | some j=>
  rw[u,Option.bind_some] at h;cases p:j.zero with
  | none=>rw[p] at h;cases h
  | some z=>
   rw[p,Option.bind_some] at h;cases hd:P.underlying t with
   | none=>rw[hd] at h;cases h
   | some d=>
    rw[hd,mg] at h;cases h;exact⟨by unfold iZ;rw[hd];rfl,by rw[u];rfl,by rw[u];rfl,by rwa[u],ad1 hd⟩
def TT.rows:TT->List (Nat×TI)
 | .nil=>[]
 | .node l k i r=>l.rows++(k,i)::r.rows
theorem TT.Wt{P:aV}:∀{τ:TT},(∀r∈τ.rows,PS P r.1=some r.2)->τ.Ok P
 | .nil,_=>trivial
 | .node l k i r,h=>⟨Wt λx u=>h x (yT _ u),aab (h (k,i) (IQ _ (fC ..))),Wt λx u=>h x (IQ _ (fG _ u))⟩
def TT.afE{τ:TT}(h:τ.rows.map (λr=>PS P r.1)=τ.rows.map λr=>some r.2):τ.Ok P:=
 TT.Wt λr b=>by
  let⟨i,u⟩:=vr.1 b;have:=aJ (·[i]?) h;simp only[im,u,mg] at this;exact bR this
abbrev tP(e:TypeId):TI:=⟨false,1,8,.pointer none,.ptr e⟩
abbrev tS(e:TypeId):TI:=⟨false,1,24,.slice none 0 0,.slice e⟩
abbrev tI(k:IntKind)(b:Nat):TI:=⟨false,1,b,.int k 0,.int k⟩
abbrev tB:TI:=⟨false,1,1,.bool false,.bool⟩
abbrev tT:TI:=⟨false,1,16,.string {data:=#[]},.text⟩
abbrev tF:TI:=⟨false,1,16,.nilIface,.iface⟩
abbrev tO(b:Nat)(z:Value):TI:=⟨false,1,b,z,.other⟩
abbrev tA(n b:Nat)(z:List Value)(fs:List (Nat×TypeId)):TI:=⟨true,n,b,.agg z.toArray,.str fs⟩
abbrev zI(k:IntKind):Value:=.int k 0
abbrev zS:Value:=.slice none 0 0
abbrev zP:Value:=.pointer none
abbrev zT:Value:=.string {data:=#[]}
abbrev tN:TT:=.nil
end Go.Mz
