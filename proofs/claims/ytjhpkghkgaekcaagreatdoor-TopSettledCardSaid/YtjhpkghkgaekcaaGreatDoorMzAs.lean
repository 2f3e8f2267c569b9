/- Lemmas on which the claim leans. -/
import Derived.Test.YtjhpkghkgaekcaaGreatDoorMzAr
import Derived.Conc.ClockLaws
import Derived.Conc.WgGenAddNeg
namespace Go.Mz
open Go.Conc Go.ConcN
open Go.ConcR (KK wgBlock WgAt stA smA rd wr Payload Aside2 DC0 Bk bk_of_mute)
namespace Mu
theorem sum_add(f g:Th→Nat):∀l:List Th,sum (fun T=>f T+g T) l=sum f l+sum g l
 | []=>rfl
 | T::l=>by have:=sum_add f g l;simp only[sum];omega
theorem HA{f:Th→Nat}(h:∀T,f T≤1):∀l:List Th,sum f l≤l.length
 | []=>Nat.le_refl _
 | T::l=>by have:=HA h l;have:=h T;simp only[sum,List.length_cons];omega
theorem Inv.abd{l:List Th}{S:Sh}(h:Inv l S):S.w.c≤l.length:=by
 have h1:=HA (f:=fun T=>fQ T+dC T) (fun T=>by
  obtain⟨pc,old,aw,sv,ws,it,left,th⟩:=T;cases pc <;> cases th <;> simp[fQ,dC,bB]) l
 rw[sum_add] at h1;have:=h.cnt;omega
variable {T:Th}{S:Sh}
theorem Fits.c6(h:Fits T S):S.w.c≤6:=by obtain⟨l,hi,_,hl⟩:=h;have:=hi.abd;omega
theorem Fits.held(h:Fits T S)(hp:T.pc=.own∨T.pc=.u0):S.w.l=true:=by obtain⟨l,hi,hT,_⟩:=h;exact hi.held hT hp
theorem Fits.handed(h:Fits T S)(hp:0<dC T):S.w.l=false∧S.w.s=true∧S.w.w=false∧0<S.w.c:=by obtain⟨l,hi,hT,_⟩:=h;exact hi.handed hT hp
theorem Fits.woken(h:Fits T S)(hp:T.pc=.r2)(hs:S.w.s=true):0<dC T:=by obtain⟨l,hi,hT,_⟩:=h;exact hi.woken hT hp hs
theorem Fits.tok(h:Fits T S):S.n+S.h≤2:=by
 obtain⟨l,hi,hT,_⟩:=h;have h1:=hi.wok;have h2:=hi.fZ;have:=DF S.w.w;have:=DF (!S.w.l&&S.w.s);omega
end Mu
structure kH(b:aQ)(pre post:List Value)(e:TypeId):Prop where
 xo:b.xo=fun st sm=>.cells (pre++.int .i32 st::.int .u32 sm::post).toArray e (0,0)
 ma:b.ma=⟨b.X,pre.length,none⟩
 ms:b.ms=⟨b.X,pre.length+1,none⟩
section
variable {b:aQ}{pre post:List Value}{e:TypeId}{w:World}{S:Mu.Sh}
theorem kH.at(h:kH b pre post e)(hx:b.qm w S):w.heap[b.X]?=some (.cells (pre++.int .i32 (Mu.enc S.w)::.int .u32 ((S.n+S.h:Nat):Int)::post).toArray e (0,0)):=by
 have:w.heap[b.X]?=_:=hx;rw[h.xo] at this;exact this
theorem kH.DR(h:kH b pre post e)(hx:b.qm w S):w.cell? b.ma=some (.int .i32 (Mu.enc S.w)):=by
 rw[h.ma,eP (a:=⟨b.X,pre.length,none⟩) (h.at hx)];simp
theorem kH.Kx(h:kH b pre post e)(hx:b.qm w S):w.cell? b.ms=some (.int .u32 ((S.n+S.h:Nat):Int)):=by
 rw[h.ms,eP (a:=⟨b.X,pre.length+1,none⟩) (h.at hx)];simp[List.getElem?_append]
theorem kH.thaw(h:kH b pre post e)(hx:b.qm w S){a:Addr}(ha:a.block=b.X):w.frozen? a=false:=by
 have:=h.at hx;rw[←ha] at this;simp[World.frozen?,this]
theorem kH.Sz(h:kH b pre post e)(hx:b.qm w S)(w2:Mu.Wd):b.qm (w.setCell b.ma (.int .i32 (Mu.enc w2))) {S with w:=w2}:=by
 unfold aQ.qm;rw[heap_setCell,h.ma,if_pos rfl,h.at hx,h.xo];simp[iI]
theorem kH.JK(h:kH b pre post e)(hx:b.qm w S)(n' h':Nat):b.qm (w.setCell b.ms (.int .u32 ((n'+h':Nat):Int))) {S with n:=n',h:=h'}:=by
 unfold aQ.qm;rw[heap_setCell,h.ms,if_pos rfl,h.at hx,h.xo];simp[iI,List.set_append]
theorem mN.refl(X:Nat)(w:World):mN X w w:=⟨rfl,fun _ _=>rfl,rfl,rfl,.refl _⟩
theorem mN.set{X:Nat}(w:World){a:Addr}(ha:a.block=X)(v:Value):mN X w (w.setCell a v):=
 ⟨by simp[World.setCell],fun k hk=>by rw[heap_setCell,if_neg (fun e=>hk (e.trans ha))],rfl,rfl,.refl _⟩
theorem mN.later(X:Nat)(w:World):mN X w w.later:=⟨rfl,fun _ _=>rfl,rfl,rfl,⟨w.tick,rfl⟩⟩
theorem mN.asked(X:Nat)(w:World):mN X w w.asked:=⟨rfl,fun _ _=>rfl,rfl,rfl,.refl _⟩
theorem qG:b.LX #[]:=⟨fun e he=>by simp at he,rfl⟩
theorem Yb:b.LX #[⟨.cell b.ma,false,true⟩]:=by
 refine⟨fun e he=>?_,by simp[deafBehind]⟩;simp at he;subst he;exact⟨fun y hy=>by simp only[MemAct.ofEvent,MemAct.touch?,Option.some.injEq] at hy;subst hy;exact⟨rfl,.inl rfl⟩,by simp[MemAct.ofEvent],by simp[MemAct.ofEvent]⟩
theorem Ku:b.LX #[⟨.cell b.ma,false,true⟩,⟨.cell b.ma,true,true⟩]:=by
 refine⟨fun e he=>?_,by simp[deafBehind]⟩;simp at he;rcases he with rfl | rfl <;> exact⟨fun y hy=>by simp only[MemAct.ofEvent,MemAct.touch?,Option.some.injEq] at hy;subst hy;exact⟨rfl,.inl rfl⟩,by simp[MemAct.ofEvent],by simp[MemAct.ofEvent]⟩
theorem zk:b.LX (semEvents b.ms):=by
 refine⟨fun e he=>?_,by simp[deafBehind,semEvents]⟩;simp[semEvents] at he;rcases he with rfl | rfl | rfl | rfl
 ·exact⟨fun y hy=>by simp[MemAct.ofEvent,MemAct.touch?] at hy,by simp[MemAct.ofEvent],by simp[MemAct.ofEvent]⟩
 ·exact⟨fun y hy=>by simp only[MemAct.ofEvent,MemAct.touch?,Option.some.injEq] at hy;subst hy;exact⟨rfl,.inr rfl⟩,by simp[MemAct.ofEvent],by simp[MemAct.ofEvent]⟩
 ·exact⟨fun y hy=>by simp only[MemAct.ofEvent,MemAct.touch?,Option.some.injEq] at hy;subst hy;exact⟨rfl,.inr rfl⟩,by simp[MemAct.ofEvent],by simp[MemAct.ofEvent]⟩
 ·exact⟨fun y hy=>by simp[MemAct.ofEvent,MemAct.touch?] at hy,by simp[MemAct.ofEvent],by simp[MemAct.ofEvent]⟩
end
abbrev LK(b:aQ)(nt:Nat)(f:Nat)(s:Ws):ax b.P:=gy b.P false (b.Φ nt) (nW b nt f s)
def sN(u:Bool):Mu.Th→Ph:=if u then vR else xL
def z9(u:Bool):Ph:=if u then .ul else .lk
section
variable {b:aQ}{nt:Nat}{C:Cx b.P}{n:Nat}{ds:List Deferred}{k:List Item}{E:Env}{B:List (Option Bx)}{L:LH}{ops:Array Oper}{i:Nat}{rest:List Nat}
variable {f:Nat}{u:Bool}{T:Mu.Th}{J:Option Nat}
theorem W.mu{d:Nat}{o:Oper}(hX:C.X=LK b nt f ⟨z9 u,T,J⟩)(bE:C.ro=none)(ho:nth ops.toList i=some o)(hd:o.dst=some d)(hz:Nat.blt d n=true)(hg:aK (get E) ops.toList o.guard=some true)
  (h:∀f',f=f'+1→∀(T0:Array Value) (g:Goroutine) (fin:Value→Goroutine),(∀x sv v,aL (get E) x=some sv→den dr sv=some v→(⟨T0,ds⟩:Act).eval x=v)→Region.wanted o (yielded ops (⟨T0,ds⟩:Act).tmps)=true→ops[i]?=some o→
   g=G ((bF C.f C.kd).at ⟨T0,ds⟩ (.inRegion ops (i::rest)::k)) C.cs→(∀v,fin v=G ((bF C.f C.kd).at ((⟨T0,ds⟩:Act).put o.dst v) (.inRegion ops rest::k)) C.cs)→
   ∀S w,Mu.Fits T S→b.qm w S→(u=false∧T.pc=.s1∧S.n+S.h=0∧stepG b.P false g w=.go {g with status:=.blocked} w #[])∨
    ∃T' S' v w' es,Mu.Step T S T' S'∧stepG b.P false g w=.go (fin v) w' es∧b.qm w' S'∧mN b.X w w'∧b.LX es∧((S.n+S.h=0→S'.n+S'.h=0)∨mayWake b.P g=true)∧
     W (C.to (LK b nt f' ⟨sN u T',T',J⟩)) n ds (.inRegion ops rest::k) ((d,.v v)::E) B L):W C n ds (.inRegion ops (i::rest)::k) E B L:=by
 refine W.atom hX bE ho hd hz hg fun T0 R g fin cN gI bO my dh cx cont=>?_;cases f with
 | zero=>exact trivial
 | succ f=>
  have key:b.TM (fun s' g' L'=>Way b.P false (b.Φ nt) (nW b nt f s') g' L') ⟨z9 u,T,J⟩ g R (sN u):=by
   refine⟨by rw[my];rfl,fun S w hF hx _=>?_⟩;rcases h f rfl T0 g fin cN gI bO my dh S w hF hx with⟨e1,e2,e3,e4⟩ | ⟨T',S',v,w',es,h1,h2,h3,h4,h5,h6,h7⟩
   ·exact .inl ⟨by rw[e1];rfl,e2,e3,e4⟩
   ·exact .inr ⟨T',S',fin v,w',es,h1,h2,h3,h4,h5,h6.imp id fun e=>⟨e,by rw[dh];rfl⟩,cont (LK b nt f ⟨sN u T',T',J⟩) v h7⟩
  refine⟨cx,?_⟩;cases u
  ·exact key
  ·exact key
variable {d:Nat}{g:FuncId}{fn:Func}{xs:Array Operand}{ts:Array TypeId}{ty:TypeId}{pos:String}{af:Array Edge}{gd:Option (Nat×Bool)}{pre post:List Value}{e:TypeId}
theorem W.z8{x y z:Operand}{old nw:Mu.Wd}{Ty Tn:Mu.Th}(kV:kH b pre post e)(hf:b.P.funcs[g]?=some fn)(dD:(fn.name== "runtime.NumGoroutine")=false)(hb:fn.body.isNone=true)(hn:Extern.findNext fn=none)(he:Extern.find fn=some (Extern.Atomic.casT (.int .i32)))
  (hX:C.X=LK b nt f ⟨z9 u,T,J⟩)(bE:C.ro=none)(aM:C.kd≠.early)(ho:nth ops.toList i=some ⟨some d,.call {callee:=.value (.func g),args:=#[x,y,z],argTypes:=ts},ty,pos,af,gd⟩)(hz:Nat.blt d n=true)(hg:aK (get E) ops.toList gd=some true)
  (hx:aL (get E) x=some (.v (.pointer (some b.ma))))(hy:aL (get E) y=some (.v (.int .i32 (Mu.enc old))))(Vg:aL (get E) z=some (.v (.int .i32 (Mu.enc nw))))
  (acC:∀S,Mu.Fits T S→S.w=old→Mu.Step T S Ty {S with w:=nw})(kF:∀S,Mu.Fits T S→S.w≠old→Mu.Step T S Tn S)
  (wy:∀f',f=f'+1→W (C.to (LK b nt f' ⟨sN u Ty,Ty,J⟩)) n ds (.inRegion ops rest::k) ((d,.v (.bool true))::E) B L)(wn:∀f',f=f'+1→W (C.to (LK b nt f' ⟨sN u Tn,Tn,J⟩)) n ds (.inRegion ops rest::k) ((d,.v (.bool false))::E) B L):
  W C n ds (.inRegion ops (i::rest)::k) E B L:=by
 refine W.mu hX bE ho rfl hz hg fun f' n9 T0 g0 fin cN gI bO my dh S w hF dU=>.inr ?_;have hc:=kV.DR dU;have yA:=kV.thaw dU (show b.ma.block=b.X by rw[kV.ma])
 by_cases eq:S.w=old
 ·refine⟨Ty,{S with w:=nw},.bool true,_,_,acC S hF eq,?_,kV.Sz dU nw,mN.set w (by rw[kV.ma]) _,Ku,.inl id,wy f' n9⟩;rw[my,dh];rw[eq] at hc;exact stepG_cas_hit bO gI aM rfl hf dD hb hn .i32 he (cN _ _ _ hx rfl) (cN _ _ _ hy rfl) (cN _ _ _ Vg rfl) hc yA
 ·refine⟨Tn,S,.bool false,_,_,kF S hF eq,?_,dU,mN.refl _ _,Yb,.inl id,wn f' n9⟩;rw[my,dh];exact stepG_cas_miss bO gI aM rfl hf dD hb hn .i32 he (cN _ _ _ hx rfl) (cN _ _ _ hy rfl) (cN _ _ _ Vg rfl) hc yA fun e=>eq (Mu.FL e)
theorem W.EA{x y:Operand}{dl:Int}(kV:kH b pre post e)(hf:b.P.funcs[g]?=some fn)(dD:(fn.name== "runtime.NumGoroutine")=false)(hb:fn.body.isNone=true)(hn:Extern.findNext fn=none)(he:Extern.find fn=some (Extern.Atomic.update (Op.intArith .add) .i32 true))
  (hX:C.X=LK b nt f ⟨z9 u,T,J⟩)(bE:C.ro=none)(aM:C.kd≠.early)(ho:nth ops.toList i=some ⟨some d,.call {callee:=.value (.func g),args:=#[x,y],argTypes:=ts},ty,pos,af,gd⟩)(hz:Nat.blt d n=true)(hg:aK (get E) ops.toList gd=some true)
  (hx:aL (get E) x=some (.v (.pointer (some b.ma))))(hy:aL (get E) y=some (.v (.int .i32 dl)))
  (h:∀S,Mu.Fits T S→∃T' nw,Mu.Step T S T' {S with w:=nw}∧IntKind.i32.wrap (Mu.enc S.w+dl)=Mu.enc nw∧∀f',f=f'+1→W (C.to (LK b nt f' ⟨sN u T',T',J⟩)) n ds (.inRegion ops rest::k) ((d,.v (.int .i32 (Mu.enc nw)))::E) B L):
  W C n ds (.inRegion ops (i::rest)::k) E B L:=by
 refine W.mu hX bE ho rfl hz hg fun f' n9 T0 g0 fin cN gI bO my dh S w hF dU=>.inr ?_;obtain⟨T',nw,h1,h2,h3⟩:=h S hF;have hc:=kV.DR dU;have yA:=kV.thaw dU (show b.ma.block=b.X by rw[kV.ma]);refine⟨T',{S with w:=nw},.int .i32 (Mu.enc nw),_,_,h1,?_,kV.Sz dU nw,mN.set w (by rw[kV.ma]) _,Ku,.inl id,h3 f' n9⟩;rw[my,dh];exact(stepG_add_atomic bO gI aM rfl hf dD hb hn .i32 he (cN _ _ _ hx rfl) (cN _ _ _ hy rfl) hc yA).trans (by rw[h2])
theorem W.GR{x:Operand}{t:TypeId}(kV:kH b pre post e)(hq:(b.P.funcs[C.f]?).any (·.norace)=true)(hX:C.X=LK b nt f ⟨z9 u,T,J⟩)(bE:C.ro=none)(aM:C.kd≠.early)(ht:eV b.P t=some false)
  (ho:nth ops.toList i=some ⟨some d,.load t x,ty,pos,af,gd⟩)(hz:Nat.blt d n=true)(hg:aK (get E) ops.toList gd=some true)(hx:aL (get E) x=some (.v (.pointer (some b.ma))))
  (h:∀S,Mu.Fits T S→∃T',Mu.Step T S T' S∧∀f',f=f'+1→W (C.to (LK b nt f' ⟨sN u T',T',J⟩)) n ds (.inRegion ops rest::k) ((d,.v (.int .i32 (Mu.enc S.w)))::E) B L):
  W C n ds (.inRegion ops (i::rest)::k) E B L:=by
 refine W.mu hX bE ho rfl hz hg fun f' n9 T0 g0 fin cN gI bO my dh S w hF dU=>.inr ?_;obtain⟨T',h1,h2⟩:=h S hF;have hc:=kV.DR dU;refine⟨T',S,.int .i32 (Mu.enc S.w),w,#[],h1,?_,dU,mN.refl _ _,qG,.inl id,h2 f' n9⟩;have hp:ev T0 x=.pointer (some b.ma):=by rw[←j7 T0 ds];exact cN _ _ _ hx rfl
 have hr:=rp (P:=b.P) (o:=⟨some d,.load t x,ty,pos,af,gd⟩) rfl ht hp hc;rw[Sem.runT_eq] at hr;obtain⟨IY,vk⟩:=Prod.mk.inj hr;rw[my,dh];have:=stepG_value (P:=b.P) (main:=false) (b:=bF C.f C.kd) (a:=⟨T0,ds⟩) (k:=k) (cs:=C.cs) (w:=w) (rest:=rest) bO gI aM (by rw[j7];exact IY);refine this.trans ?_;have hl:listed b.P (bF C.f C.kd).fn ⟨T0,ds⟩ ⟨some d,.load t x,ty,pos,af,gd⟩ w=#[]:=by
  unfold listed;rw[j7,vk,seen_def];simp only[List.foldl_cons,List.foldl_nil,seenStep];rw[show(bF C.f C.kd).fn=C.f from rfl,hq]
  rfl
 rw[hl]
theorem W.Ld(hf:b.P.funcs[g]?=some fn)(dD:(fn.name== "runtime.NumGoroutine")=false)(hb:fn.body.isNone=true)(hn:Extern.findNext fn=none)(he:Extern.find fn=some Extern.OsHooks.nano)(hq:fn.norace=true)
  (hX:C.X=LK b nt f ⟨z9 u,T,J⟩)(bE:C.ro=none)(aM:C.kd≠.early)(ho:nth ops.toList i=some ⟨some d,.call {callee:=.value (.func g),args:=xs,argTypes:=ts},ty,pos,af,gd⟩)(hz:Nat.blt d n=true)(hg:aK (get E) ops.toList gd=some true)
  (h:∀v:Int,∃T',(∀S,Mu.Step T S T' S)∧∀f',f=f'+1→W (C.to (LK b nt f' ⟨sN u T',T',J⟩)) n ds (.inRegion ops rest::k) ((d,.v (.int .i64 v))::E) B L):
  W C n ds (.inRegion ops (i::rest)::k) E B L:=by
 refine W.mu hX bE ho rfl hz hg fun f' n9 T0 g0 fin cN gI bO my dh S w hF dU=>.inr ?_;obtain⟨T',h1,h2⟩:=h ((w.os.mono+w.tick:Nat):Int);refine⟨T',S,.int .i64 ((w.os.mono+w.tick:Nat):Int),w.later,#[],h1 S,?_,dU,mN.later _ _,qG,.inl id,h2 f' n9⟩;rw[my,dh];exact stepG_nanotime bO gI aM rfl hf dD hb hn he hq
theorem W.Lg{x:Operand}{kk:IntKind}{it:Int}{Tt Tn:Mu.Th}(hf:b.P.funcs[g]?=some fn)(dD:(fn.name== "runtime.NumGoroutine")=false)(hb:fn.body.isNone=true)(hn:Extern.findNext fn=none)(he:Extern.find fn=some Extern.Sync.canSpin)
  (hX:C.X=LK b nt f ⟨z9 u,T,J⟩)(bE:C.ro=none)(aM:C.kd≠.early)(ho:nth ops.toList i=some ⟨some d,.call {callee:=.value (.func g),args:=#[x],argTypes:=ts},ty,pos,af,gd⟩)(hz:Nat.blt d n=true)(hg:aK (get E) ops.toList gd=some true)
  (hx:aL (get E) x=some (.v (.int kk it)))(ht:it<4→∀S,Mu.Step T S Tt S)(yx:∀S,Mu.Step T S Tn S)
  (wt:it<4→∀f',f=f'+1→W (C.to (LK b nt f' ⟨sN u Tt,Tt,J⟩)) n ds (.inRegion ops rest::k) ((d,.v (.bool true))::E) B L)(wn:∀f',f=f'+1→W (C.to (LK b nt f' ⟨sN u Tn,Tn,J⟩)) n ds (.inRegion ops rest::k) ((d,.v (.bool false))::E) B L):
  W C n ds (.inRegion ops (i::rest)::k) E B L:=by
 refine W.mu hX bE ho rfl hz hg fun f' n9 T0 g0 fin cN gI bO my dh S w hF dU=>.inr ?_
 by_cases h4:it<4
 ·by_cases hs:w.spins=true
  ·refine⟨Tt,S,.bool true,w.asked,#[],ht h4 S,?_,dU,mN.asked _ _,qG,.inl id,wt h4 f' n9⟩;rw[my,dh];have:=stepG_canSpin_ask (P:=b.P) (main:=false) (b:=bF C.f C.kd) (a:=⟨T0,ds⟩) (kk:=k) (cs:=C.cs) (w:=w) (rest:=rest) (as:=#[x]) (k:=kk) (n:=it) bO gI aM rfl hf dD hb hn he (by simp[cN _ _ _ hx rfl]) h4;rw[hs] at this;exact this
  ·refine⟨Tn,S,.bool false,w.asked,#[],yx S,?_,dU,mN.asked _ _,qG,.inl id,wn f' n9⟩;rw[my,dh];have:=stepG_canSpin_ask (P:=b.P) (main:=false) (b:=bF C.f C.kd) (a:=⟨T0,ds⟩) (kk:=k) (cs:=C.cs) (w:=w) (rest:=rest) (as:=#[x]) (k:=kk) (n:=it) bO gI aM rfl hf dD hb hn he (by simp[cN _ _ _ hx rfl]) h4;rw[show w.spins=false by simpa using hs] at this;exact this
 ·refine⟨Tn,S,.bool false,w,#[],yx S,?_,dU,mN.refl _ _,qG,.inl id,wn f' n9⟩;rw[my,dh];exact stepG_canSpin_no (as:=#[x]) (k:=kk) (n:=it) bO gI aM rfl hf dD hb hn he (by simp[cN _ _ _ hx rfl]) (by omega)
theorem W.RX{x y z:Operand}(kV:kH b pre post e)(hf:b.P.funcs[g]?=some fn)(dD:(fn.name== "runtime.NumGoroutine")=false)(hb:fn.body.isNone=true)(hn:Extern.findNext fn=none)(he:Extern.find fn=some Extern.Sync.semacquire)
  (hX:C.X=LK b nt f ⟨.lk,T,J⟩)(qS:T.pc=.s1)(bE:C.ro=none)(aM:C.kd≠.early)(ho:nth ops.toList i=some ⟨some d,.call {callee:=.value (.func g),args:=#[x,y,z],argTypes:=ts},ty,pos,af,gd⟩)(hz:Nat.blt d n=true)(hg:aK (get E) ops.toList gd=some true)
  (hx:aL (get E) x=some (.v (.pointer (some b.ms))))
  (h:∀(hh:Bool) f',f=f'+1→W (C.to (LK b nt f' ⟨xL {T with pc:=if T.sv then .r2 else .t2,h:=hh},{T with pc:=if T.sv then .r2 else .t2,h:=hh},J⟩)) n ds (.inRegion ops rest::k) ((d,.v (.tuple #[]))::E) B L):
  W C n ds (.inRegion ops (i::rest)::k) E B L:=by
 refine W.mu (u:=false) hX bE ho rfl hz hg fun f' n9 T0 g0 fin cN gI bO my dh S w hF dU=>?_;have hc:=kV.Kx dU;have yA:=kV.thaw dU (show b.ms.block=b.X by rw[kV.ms]);have GA:((#[x,y,z]:Array Operand).map (⟨T0,ds⟩:Act).eval)[0]?=some (.pointer (some b.ms)):=by simp[cN _ _ _ hx rfl]
 by_cases h0:S.n+S.h=0
 ·refine .inl ⟨rfl,qS,h0,?_⟩;rw[my];rw[h0] at hc;exact stepG_semacquire_wait bO gI rfl hf dD hb hn he GA hc
 ·have kR:((S.n+S.h:Nat):Int)≠0:=by omega
  have hgo:=stepG_semacquire (P:=b.P) (main:=false) (b:=bF C.f C.kd) (a:=⟨T0,ds⟩) (kk:=k) (cs:=C.cs) (w:=w) (rest:=rest) bO gI aM rfl hf dD hb hn he GA hc kR yA
  by_cases hh:0<S.h
  ·refine .inr ⟨_,{S with h:=S.h - 1},.tuple #[],_,_,.s1h qS hh,?_,kV.JK dU S.n (S.h - 1),mN.set w (by rw[kV.ms]) _,zk,.inl (fun e=>absurd e h0),h true f' n9⟩;rw[my,dh];refine hgo.trans ?_;rw[show((S.n+S.h:Nat):Int) - 1=((S.n+(S.h - 1):Nat):Int) by omega]
  ·refine .inr ⟨_,{S with n:=S.n - 1},.tuple #[],_,_,.s1n qS (by omega) (by omega),?_,kV.JK dU (S.n - 1) S.h,mN.set w (by rw[kV.ms]) _,zk,.inl (fun e=>absurd e h0),h false f' n9⟩;rw[my,dh];refine hgo.trans ?_;rw[show((S.n+S.h:Nat):Int) - 1=((S.n - 1+S.h:Nat):Int) by omega]
theorem W.Lh{x y z:Operand}(kV:kH b pre post e)(hf:b.P.funcs[g]?=some fn)(dD:(fn.name== "runtime.NumGoroutine")=false)(hb:fn.body.isNone=true)(hn:Extern.findNext fn=none)(he:Extern.find fn=some Extern.Sync.semrelease)
  (hX:C.X=LK b nt f ⟨.ul,T,J⟩)(qS:T.pc=.us)(bE:C.ro=none)(aM:C.kd≠.early)(ho:nth ops.toList i=some ⟨some d,.call {callee:=.value (.func g),args:=#[x,y,z],argTypes:=ts},ty,pos,af,gd⟩)(hz:Nat.blt d n=true)(hg:aK (get E) ops.toList gd=some true)
  (hx:aL (get E) x=some (.v (.pointer (some b.ms))))
  (h:∀f',f=f'+1→W (C.to (LK b nt f' ⟨.fin,{pc:=.out,left:=T.left},J⟩)) n ds (.inRegion ops rest::k) ((d,.v (.tuple #[]))::E) B L):
  W C n ds (.inRegion ops (i::rest)::k) E B L:=by
 refine W.mu (u:=true) hX bE ho rfl hz hg fun f' n9 T0 g0 fin cN gI bO my dh S w hF dU=>.inr ?_;have hc:=kV.Kx dU;have yA:=kV.thaw dU (show b.ms.block=b.X by rw[kV.ms]);have GA:((#[x,y,z]:Array Operand).map (⟨T0,ds⟩:Act).eval)[0]?=some (.pointer (some b.ms)):=by simp[cN _ _ _ hx rfl]
 have hgo:=stepG_semrelease (P:=b.P) (main:=false) (b:=bF C.f C.kd) (a:=⟨T0,ds⟩) (kk:=k) (cs:=C.cs) (w:=w) (rest:=rest) bO gI aM rfl hf dD hb hn he GA hc yA;have eI:=hF.tok;refine⟨_,_,.tuple #[],_,_,.us qS,?_,kV.JK dU (S.n+(if T.h then 0 else 1)) (S.h+(if T.h then 1 else 0)),mN.set w (by rw[kV.ms]) _,zk,.inr (by rw[my];exact Go.ConcR.Gen.mayWake_entry bO rfl hf hb),h f' n9⟩;rw[my,dh];refine hgo.trans ?_;have hw:IntKind.u32.wrap (((S.n+S.h:Nat):Int)+1)=((S.n+(if T.h then 0 else 1)+(S.h+(if T.h then 1 else 0)):Nat):Int):=by
  rw[IntKind.wrap_u32];cases T.h <;> simp <;> omega
 rw[hw]
theorem W.ND{o:Option Nat}{T:Mu.Th}{s2:Ws}(m:Mark)(hm:∀g,m≠.extern g)(hf:b.P.funcs[g]?=some fn)(dD:(fn.name== "runtime.NumGoroutine")=false)(hb:fn.body.isNone=true)(hn:Extern.findNext fn=none)
  (he:Extern.find fn=some (fun _=>do mark m;pure Extern.Race.none_)){s:Ws}(hX:C.X=LK b nt f s)(bE:C.ro=none)(aM:C.kd≠.early)
  (cu:∀f' g0 g' L',f=f'+1→g0.status=.running→(∀w,stepG b.P false g0 w=.go g' w #[Go.ConcR.mk m])→Way b.P false (b.Φ nt) (nW b nt f' s2) g' L'→nW b nt (f'+1) s g0 L')
  (ho:nth ops.toList i=some ⟨o,.call {callee:=.value (.func g),args:=xs,argTypes:=ts},ty,pos,af,gd⟩)(hg:aK (get E) ops.toList gd=some true)(hz:(o.all fun d=>Nat.blt d n)=true)
  (w:∀f',f=f'+1→W (C.to (LK b nt f' s2)) n ds (.inRegion ops rest::k) ((o.toList.map fun d=>(d,SV.v (.tuple #[])))++E) B L):W C n ds (.inRegion ops (i::rest)::k) E B L:=by
 cases f with
 | zero=>exact W.stop hX fun _ _ _ _ _ _=>trivial
 | succ f=>exact W.re m hm hf dD hb hn he hX bE aM (fun g0 g' L' h1 h2 h3=>cu f g0 g' L' rfl h1 h2 h3) ho hg hz (w f rfl)
theorem W.mkA{o:Option Nat}{s2:Ws}{x:Operand}{ad:Addr}(m:Addr→Mark)(hm:∀a g,m a≠.extern g)(hf:b.P.funcs[g]?=some fn)(dD:(fn.name== "runtime.NumGoroutine")=false)(hb:fn.body.isNone=true)(hn:Extern.findNext fn=none)
  (he:Extern.find fn=some (Extern.Race.marked m)){s:Ws}(hX:C.X=LK b nt f s)(bE:C.ro=none)(aM:C.kd≠.early)
  (cu:∀f' g0 g' L',f=f'+1→g0.status=.running→(∀w,stepG b.P false g0 w=.go g' w #[Go.ConcR.mk (m ad)])→Way b.P false (b.Φ nt) (nW b nt f' s2) g' L'→nW b nt (f'+1) s g0 L')
  (ho:nth ops.toList i=some ⟨o,.call {callee:=.value (.func g),args:=#[x],argTypes:=ts},ty,pos,af,gd⟩)(hg:aK (get E) ops.toList gd=some true)(hz:(o.all fun d=>Nat.blt d n)=true)(hx:aL (get E) x=some (.v (.pointer (some ad))))
  (w:∀f',f=f'+1→W (C.to (LK b nt f' s2)) n ds (.inRegion ops rest::k) ((o.toList.map fun d=>(d,SV.v (.tuple #[])))++E) B L):W C n ds (.inRegion ops (i::rest)::k) E B L:=by
 cases f with
 | zero=>exact W.stop hX fun _ _ _ _ _ _=>trivial
 | succ f=>exact W.Jf m hm hf dD hb hn he hX bE aM (fun g0 g' L' h1 h2 h3=>cu f g0 g' L' rfl h1 h2 h3) ho hg hz hx (w f rfl)
theorem W.RV{o:Option Nat}{x:Operand}(hf:b.P.funcs[g]?=some fn)(dD:(fn.name== "runtime.NumGoroutine")=false)(hb:fn.body.isNone=true)(hn:Extern.findNext fn=none)
  (he:Extern.find fn=some (Extern.Race.marked .acquire))(hX:C.X=LK b nt f ⟨.uX,T,J⟩)(bE:C.ro=none)(aM:C.kd≠.early)
  (ho:nth ops.toList i=some ⟨o,.call {callee:=.value (.func g),args:=#[x],argTypes:=ts},ty,pos,af,gd⟩)(hg:aK (get E) ops.toList gd=some true)(hz:(o.all fun d=>Nat.blt d n)=true)(hx:aL (get E) x=some (.v (.pointer (some b.ma))))
  (w:∀f' K,f=f'+1→(∀i,J=some i→i∉K)→W (C.to (LK b nt f' ⟨.hold K,T,J⟩)) n ds (.inRegion ops rest::k) ((o.toList.map fun d=>(d,SV.v (.tuple #[])))++E) B L):W C n ds (.inRegion ops (i::rest)::k) E B L:=by
 refine W.stop hX fun T0 R β hT hE hH=>?_;cases f with
 | zero=>exact trivial
 | succ f=>
  have bO:=ho;rw[bU,Array.getElem?_toList] at bO;have ex:ev T0 x=.pointer (some b.ma):=(Option.some.inj (hE.val hx)).symm;refine⟨rfl,G ((Fr C.f T0 (.inRegion ops (i::rest)::k) ds .run C.kd C.ro).finish (.tuple #[])) C.cs,fun w'=>?_,fun K hK=>W.behind (C:=C) (Y:=LK b nt f ⟨.hold K,T,J⟩) ho rfl hz hT hE hH (w f K rfl hK)⟩;rw[bE,rS,qF];rw[show(ops[i]?).bind (·.dst)=o by rw[bO];rfl];exact stepG_markAt .acquire (by simp) bO (aO hE hg) aM rfl hf dD hb hn he (ad:=b.ma) (by simp[j7,ex])
end
theorem W.X9{P:Program}{C:Cx P}{mn:Bool}{Φ:World→Prop}{S1:Goroutine→LH→Prop}{n:Nat}{ds:List Deferred}{k:List Item}{E:Env}{B:List (Option Bx)}{L:LH}{ops:Array Oper}{i:Nat}{rest:List Nat}{d:Nat}{ty:TypeId}{pos:String}{af:Array Edge}{gd:Option (Nat×Bool)}{t:TypeId}{x:Operand}{ad:Addr}{kk:IntKind}
  (hX:C.X=gy P mn Φ S1)(hq:(P.funcs[C.f]?).any (·.norace)=true)(bE:C.ro=none)(aM:C.kd≠.early)(ht:eV P t=some false)(hc:∀w,Φ w→∃v,w.cell? ad=some (.int kk v))
  (ho:nth ops.toList i=some ⟨some d,.load t x,ty,pos,af,gd⟩)(hz:Nat.blt d n=true)(hg:aK (get E) ops.toList gd=some true)(hx:aL (get E) x=some (.v (.pointer (some ad))))
  (w:∀v,W C n ds (.inRegion ops rest::k) ((d,.v (.int kk v))::E) B L):W C n ds (.inRegion ops (i::rest)::k) E B L:=by
 intro T R β hT hE hH;have bO:=ho;rw[bU,Array.getElem?_toList] at bO;rw[hX];refine Way.vM _ _ rfl fun w' hw=>?_;obtain⟨v,hv⟩:=hc w' hw.2;have hp:ev T x=.pointer (some ad):=(Option.some.inj (hE.val hx)).symm;have hr:=rp (P:=P) (o:=⟨some d,.load t x,ty,pos,af,gd⟩) rfl ht hp hv;rw[Sem.runT_eq] at hr;obtain⟨IY,vk⟩:=Prod.mk.inj hr;refine⟨G ((Fr C.f T (.inRegion ops (i::rest)::k) ds .run C.kd C.ro).finish (.int kk v)) C.cs,w',#[],R,?_,Tr.refl hw.1,?_⟩
 ·rw[bE,rS,bO,qF];refine(stepG_value (P:=P) (main:=mn) (b:=bF C.f C.kd) (a:=⟨T,ds⟩) (k:=k) (cs:=C.cs) (w:=w') (rest:=rest) bO (aO hE hg) aM (by rw[j7];exact IY)).trans ?_;have hl:listed P (bF C.f C.kd).fn ⟨T,ds⟩ ⟨some d,.load t x,ty,pos,af,gd⟩ w'=#[]:=by
   unfold listed;rw[j7,vk,seen_def];simp only[List.foldl_cons,List.foldl_nil,seenStep];rw[show(bF C.f C.kd).fn=C.f from rfl,hq]
   rfl
  rw[hl];rfl
 ·have:=W.eQ (C:=C) (sv:=.v (.int kk v)) ho rfl (cC hz) hT hE hH rfl (w v);rw[hX] at this;exact this
end Go.Mz
namespace Go.Mz
open Go.Conc Go.ConcN
open Go.ConcR (KK wgBlock WgAt stA smA rd wr)
def Rd{P:Program}(X:ax P)(L:LH)(a:Addr)(v:Value):Prop:=X.pk a v∨L.cell? a=some v
theorem Rd.le{P:Program}{X:ax P}{L L':LH}{a:Addr}{v:Value}(h:Rd X L a v)(hl:Le L L'):Rd X L' a v:=h.imp id fun h=>hl.cell h
section
variable {P:Program}[S:Seat P]{C:Cx P}{n:Nat}{ds:List Deferred}{k:List Item}{E:Env}{B:List (Option Bx)}{L:LH}{ops:Array Oper}{i:Nat}{rest:List Nat}{d:Nat}{ty:TypeId}{pos:String}{af:Array Edge}{gd:Option (Nat×Bool)}{t:TypeId}{x:Operand}{ti:TI}{ad:Addr}{v:Value}
theorem W.rd(hr:Rd C.X L ad v)(bE:C.ro=none)(ho:nth ops.toList i=some ⟨some d,.load t x,ty,pos,af,gd⟩)(hg:aK (get E) ops.toList gd=some true)(hz:Nat.blt d n=true)(hx:aL (get E) x=some (.v (.pointer (some ad))))(ht:S.τ.find t=some ti)(ha:ti.agg=false)
  (w:W C n ds (.inRegion ops rest::k) ((d,.v v)::E) B L):W C n ds (.inRegion ops (i::rest)::k) E B L:=by
 rcases hr with hp | hc
 ·intro T R β hT hE hH;have bO:=ho;rw[bU,Array.getElem?_toList] at bO;refine ax.Ll (X:=C.X) (o:=⟨some d,.load t x,ty,pos,af,gd⟩) (v:=v) ⟨t,x,ad,rfl,by rw[(TT.aD S.ok ht).agg,ha],(Option.some.inj (hE.val hx)).symm,hp⟩ bO (aO hE hg) ?_;exact W.eQ (C:=C) (sv:=.v v) ho rfl (cC hz) hT hE hH rfl w
 ·exact W.vf ho hg hz rfl (Vf.load hx ht ha hc) w
variable {m:Nat}{Lf:LH}{td:List Nat}{V E0:Env}
theorem DD.rd(i:Nat)(hr:Rd C.X Lf ad v)(ho:nth ops.toList i=some ⟨some d,.load t x,ty,pos,af,gd⟩)(hn:fg td i=false)(jS:kL td (cM ops.toList i)=true)(hg:aK (bJ ops.toList i V E0) ops.toList gd=some true)(hx:aL (bJ ops.toList i V E0) x=some (.v (.pointer (some ad))))(ht:S.τ.find t=some ti)(ha:ti.agg=false)
  (w:DD C S.τ n ds ops k m Lf (i::td) ((d,.v v)::V) E0 B L):DD C S.τ n ds ops k m Lf td V E0 B L:=by
 rcases hr with hp | hc
 ·exact .pk i ho hn jS rfl hg rfl (by rw[(TT.aD S.ok ht).agg,ha]) hx hp w
 ·exact DD.vf i ho hn jS hg rfl (Vf.load hx ht ha hc) w
end
theorem Vf.Af{P:Program}{E:a8}{B:List (Option Bx)}{L:LH}{x:Operand}{name:String}{t:TypeId}{u:Value}{f1 f2:Array Value}{sv:SV}(hx:aL E x=some sv)(hd:den dr sv=some (.func (.method name) f1 f2))(h1:f1[0]?=some (.iface t u))
  (hn:∀(Q:Option Bool→LH→Prop) (H:Value→LH→Prop) (R:LH),az P Q H (nilAhead (P.types.size+Made.depth) t u name) R=Q (some false) R):Vf P (.nilCheck x) E B L (.v (.func (.method name) f1 f2)):=fun T R β hE _ _=>by
 have ex:ev T x=.func (.method name) f1 f2:=Option.some.inj ((hE.val hx).symm.trans (cP hd β));refine⟨_,rfl,fun ty dst pos af gd Q H hq=>?_⟩;simp only[execOp,ex,h1];rw[ae,dV,ae,hn];exact hq
structure Fs{P:Program}(C:Cx P)(fn:Func)(Q:ax P→LH→Prop):Prop where
 fn:P.funcs[C.f]?=some fn
 ro:C.ro=none
 kd:C.kd=.deferred
 cs:∃c cs,C.cs=c::cs∧c.mode=.returning∧∀Y R' L',Q Y L'→Post C.L0 C.R0 L' R'→Y.Go (G c cs) R'
def Ft{P:Program}(X:ax P)(f:FuncId)(args:List Value)(L:LH)(Q:ax P→LH→Prop):Prop:=
 mG P f∧∀R,Le L R→∀(c:Frame) (cs:List Frame),c.mode=.returning→(∀Y R' L',Q Y L'→Post L R L' R'→Y.Go (G c cs) R')→X.Go (G (Frame.enter P f args.toArray .deferred) (c::cs)) R
section
variable {P:Program}{n:Nat}{ds:List Deferred}{k:List Item}{E:Env}{B:List (Option Bx)}{L:LH}{ops:Array Oper}{i:Nat}{rest:List Nat}
theorem Fs.to{C:Cx P}{fn:Func}{Q:ax P→LH→Prop}(r:Fs C fn Q)(Y:ax P):Fs (C.to Y) fn Q:=⟨r.fn,r.ro,r.kd,r.cs⟩
theorem Ft.enter{X:ax P}{f:FuncId}{fn:Func}{body:Code}{args:List Value}{Q:ax P→LH→Prop}(hf:P.funcs[f]?=some fn)(hb:fn.body=some body)(hn:(fn.name== "runtime.NumGoroutine")=false)(hz:fn.ntmps=n)(hle:Nat.ble args.length n=true)
  (h:∀C:Cx P,C.X=X→C.f=f→C.L0=L→Fs C fn Q→W C n [] [.code body] (mo 0 args) [] L):Ft X f args L Q:=by
 refine⟨⟨fn,hf,hn,by rw[hb];rfl⟩,fun R hR c cs hc h1=>?_⟩;rw[oL hf hb];have ed:(args.toArray++Array.replicate (fn.ntmps - args.toArray.size) undef:Array Value).size=n:=by
  have:=Nat.le_of_ble_eq_true hle;simp;omega
 refine h ⟨X,f,.deferred,none,c::cs,L,R⟩ rfl rfl rfl ⟨hf,rfl,rfl,c,cs,rfl,hc,fun Y R' L' hq hp=>h1 Y R' L' hq hp⟩ _ R dr ed ?_ ⟨(fun _ _ _ h=>by cases h),(fun _ _ h=>by cases h),(fun _ _ h=>by cases h),(fun k b x hk=>by cases hk),hR,fun b x _ h=>h,fun b hb=>.inl hb,fun b hb=>hb⟩;intro s x hx;obtain⟨_,v,h3,rfl⟩:=jE hx;have hs:args[s]?=some v:=by simpa using h3
 have aU:s<args.length:=by
  rcases Nat.lt_or_ge s args.length with h | h
  ·exact h
  ·rw[List.getElem?_eq_none h] at hs;cases hs
 rw[den]
 congr 1
 rw[Array.getD_eq_getD_getElem?,Array.getElem?_append_left (by simpa using aU),List.getElem?_toArray,hs];rfl
variable {C:Cx P}
theorem W.aaw{fn:Func}{Q:ax P→LH→Prop}(r:Fs C fn Q)(hr:fn.results=#[])(hk:k=[]∨∃k',k=.code .ret::k')(hq:Q C.X L):W C n [] k E B L:=by
 obtain⟨hf,bE,aM,c,cs,il,hm,hc⟩:=r;exact W.Lr (Q:=fun pN L'=>pN=.returning∧Q C.X L') (md:=.returning) ⟨hf,bE,aM,c,cs,il,hm,fun pN R' L' kS hp=>by
  obtain⟨rfl,kS⟩:=kS;have h1:=hc C.X R' L' kS hp;have e:({c with mode:=.returning}:Frame)=c:=by cases c;simp only at hm;subst hm;rfl
  rw[e];exact h1⟩ hr hk ⟨rfl,hq⟩
theorem WM.Ua{g:FuncId}{Q:ax P→LH→Prop}{args:List Value}(hs:Ft C.X g args L Q)(w:∀Y L',Q Y L'→WM (C.to Y) n ds .returning E B L'):WM C n (dcall g args.toArray::ds) .returning E B L:=by
 intro T R β k hT hE hH;obtain⟨⟨fn,g1,g2,g3⟩,hF⟩:=hs;have h1:=hF R hH.le (Fr C.f T k ds .returning C.kd C.ro) C.cs rfl (fun Y R' L' hq hp=>w Y L' hq T R' β k hT hE (hH.call hp));obtain⟨bd,yj⟩:∃bd,fn.body=some bd:=by
  cases hb:fn.body with
  | none=>rw[hb] at g3;cases g3
  | some bd=>exact⟨bd,rfl⟩
 have h4:¬fn.name= "runtime.NumGoroutine":=by simpa using g2
 refine C.X.quiet rfl (fun w'=>?_) h1;simp[G,Fr,stepG,unwind,callDeferred,invoke,dcall,callFunc,g1,h4,yj,GStep.after,seen_none]
end
section
variable {b:aQ}{nt:Nat}{C:Cx b.P}{n:Nat}{ds:List Deferred}{k:List Item}{E:Env}{B:List (Option Bx)}{L:LH}{ops:Array Oper}{i:Nat}{rest:List Nat}
variable {f:Nat}{T:Mu.Th}{J:Option Nat}
variable {d:Nat}{g:FuncId}{fn:Func}{xs:Array Operand}{ts:Array TypeId}{ty:TypeId}{pos:String}{af:Array Edge}{gd:Option (Nat×Bool)}
theorem W.Ys{x y:Operand}(hf:b.P.funcs[g]?=some fn)(dD:(fn.name== "runtime.NumGoroutine")=false)(hb:fn.body.isNone=true)(hn:Extern.findNext fn=none)(he:Extern.find fn=some (Extern.Atomic.update (Op.intArith .add) .i64 true))
  (hX:C.X=LK b nt f ⟨.idle,T,J⟩)(hJ:∀i,J=some i→b.keep i=false)(hl:b.len+b.n<1000000000)(bE:C.ro=none)(aM:C.kd≠.early)(ho:nth ops.toList i=some ⟨some d,.call {callee:=.value (.func g),args:=#[x,y],argTypes:=ts},ty,pos,af,gd⟩)(hz:Nat.blt d n=true)(hg:aK (get E) ops.toList gd=some true)
  (hx:aL (get E) x=some (.v (.pointer (some b.na))))(hy:aL (get E) y=some (.v (.int .i64 1)))
  (wy:∀f' c,f=f'+1→c<b.len→W (C.to (LK b nt f' ⟨.idle,{T with left:=T.left+1},some c⟩)) n ds (.inRegion ops rest::k) ((d,.v (.int .i64 ((c:Int)+1)))::E) B L)
  (wn:∀f' c,f=f'+1→b.len≤c→c≤b.len+b.n→W (C.to (LK b nt f' ⟨.done,T,none⟩)) n ds (.inRegion ops rest::k) ((d,.v (.int .i64 ((c:Int)+1)))::E) B L):
  W C n ds (.inRegion ops (i::rest)::k) E B L:=by
 refine W.atom hX bE ho rfl hz hg fun T0 R g0 fin cN gI bO my dh cx cont=>?_;cases f with
 | zero=>exact trivial
 | succ f=>
  refine⟨cx,.inl ⟨hJ,fun c hc=>⟨fin (.int .i64 ((c:Int)+1)),fun w hw=>?_,fun h=>cont _ _ (wy f c rfl h),fun h=>cont _ _ (wn f c rfl h hc)⟩⟩⟩;have bW:w.cell? b.na=some (.int .i64 (c:Int)):=by rw[eP (a:=b.na) hw];rfl
  have yA:w.frozen? b.na=false:=by
   have:w.heap[b.na.block]?=some (aQ.cnt nt c):=hw;simp[World.frozen?,this,aQ.cnt]
  have h1:IntKind.i64.wrap ((c:Int)+1)=(c:Int)+1:=by rw[IntKind.wrap_i64];omega
  rw[my,dh];exact(stepG_add_atomic bO gI aM rfl hf dD hb hn .i64 he (cN _ _ _ hx rfl) (cN _ _ _ hy rfl) bW yA).trans (by rw[h1];rfl)
theorem W.upd{t kt et:TypeId}{x y u:Operand}{sk su:SV}{kv uv:Value}{es:Array MapEntry}{clk i0:Nat}{K:List Nat}(hX:C.X=LK b nt f ⟨.hold K,T,J⟩)(hJ:J=some i0)(hkp:b.keep i0=true)(bE:C.ro=none)
  (ho:nth ops.toList i=some ⟨none,.mapUpdate t x y u,ty,pos,af,gd⟩)(hg:aK (get E) ops.toList gd=some true)
  (hx:aL (get E) x=some (.v (.map (some b.B))))(hy:aL (get E) y=some sk)(dk:den dr sk=some kv)(hw:aL (get E) u=some su)(du:den dr su=some uv)(hu:b.P.underlying t=some (.map kt et))(ZH:b.ob K=.map es clk)(Q1:b.ob (K++[i0])=.map (es.push {key:=kv,val:=uv,born:=clk}) (clk+1))
  (hc:∀(e:Bool) (Q:Unit→LH→Prop) (H:Value→LH→Prop) (R:LH),az b.P Q H (Instr.checkKey e 10000 kt kv) R=Q () R)(hf:∀(Q:Option (Nat×Value)→LH→Prop) (H:Value→LH→Prop) (R:LH),az b.P Q H (Instr.findKey kt kv es.toList) R=Q none R)
  (w:∀f',f=f'+1→W (C.to (LK b nt f' ⟨.put,T,none⟩)) n ds (.inRegion ops rest::k) E B L):
  W C n ds (.inRegion ops (i::rest)::k) E B L:=by
 refine W.stop hX fun T0 R β hT hE hH=>?_;cases f with
 | zero=>exact trivial
 | succ f=>
  refine⟨rfl,i0,hJ,hkp,fun w0 hB hs=>?_⟩;have bO:=ho;rw[bU,Array.getElem?_toList] at bO;have ex:=(Option.some.inj (hE.val hx)).symm;have ey:ev T0 y=kv:=Option.some.inj ((hE.val hy).symm.trans (cP dk β));have eu:ev T0 u=uv:=Option.some.inj ((hE.val hw).symm.trans (cP du β));have hL:(R.put b.B (b.ob K)) b.B=some (.map es clk,true):=by rw[aj,ZH]
  have key:az b.P (fj b.P (fun g' L'=>g'=G ((Fr C.f T0 (.inRegion ops (i::rest)::k) ds .run C.kd C.ro).finish undef) C.cs∧L'=R.put b.B (b.ob (K++[i0]))) (Fr C.f T0 (.inRegion ops (i::rest)::k) ds .run C.kd C.ro) C.cs .normal)
    (kY (fun g' L'=>g'=G ((Fr C.f T0 (.inRegion ops (i::rest)::k) ds .run C.kd C.ro).finish undef) C.cs∧L'=R.put b.B (b.ob (K++[i0]))) (Fr C.f T0 (.inRegion ops (i::rest)::k) ds .run C.kd C.ro) C.cs)
    (execOp (ev T0) ⟨none,.mapUpdate t x y u,ty,pos,af,gd⟩) (R.put b.B (b.ob K)):=by
   simp only[execOp,ex,ey,eu];rw[ae];unfold Instr.mapUpdate;rw[ae,ao hu];simp only;rw[ae,fV hL];simp only;rw[ae,hc,ae,hf];simp only;rw[eO hL rfl rfl];refine⟨rfl,?_⟩;rw[Q1]
   funext y
   by_cases e:y=b.B
   ·subst e;rw[aj,aj]
   ·rw[au _ _ e,au _ _ e,au _ _ e]
  obtain⟨g',w',pC,L',h1,h2,rfl,rfl⟩:=ml (w:=w0) hs key;refine⟨G ((Fr C.f T0 (.inRegion ops (i::rest)::k) ds .run C.kd C.ro).finish undef) C.cs,w',pC,?_,h2,W.behind (C:=C) (Y:=LK b nt f ⟨.put,T,none⟩) (d:=none) ho rfl rfl hT hE hH (w f rfl)⟩;rw[←h1,←qO C.f T0 (.inRegion ops (i::rest)::k) ds .run C.kd C.ro];have gI:Region.wanted ⟨none,.mapUpdate t x y u,ty,pos,af,gd⟩ (yielded ops T0)=true:=aO (o:=⟨none,.mapUpdate t x y u,ty,pos,af,gd⟩) hE hg;rw[bE];unfold Fr;simp[G,stepG,stepG.exec,stepG.oper,Frame.oper?,bO,gI]
end
end Go.Mz
namespace Go.Mz
open Go.Conc Go.ConcN
open Go.ConcR (KK wgBlock WgAt stA smA rd wr mk)
theorem Tr.beside{L L':LH}{w w':World}{es:Array Event}(h:Tr L L' w w' es){X:Nat}{o:Obj}(hX:L X=none)(hs:Sub (L.put X o) w):Tr (L.put X o) (L'.put X o) w w' es∧L' X=none:=by
 have aU:X<w.heap.size:=hs.lt (b:=X) (by rw[aj];simp);have YZ:L' X=none:=by
  cases e:L' X with
  | none=>rfl
  | some x=>
   rcases h.gP X (by rw[e];simp) with h1 | h1
   ·exact absurd hX h1
   ·omega
 refine⟨⟨fun y o' wr hy=>?_,h.tape,h.os,h.out,h.size,fun y hy hn=>?_,fun y hy=>?_,fun y x hy=>?_,fun y o' hy=>?_,fun y x hn hy=>?_,fun e he=>(h.ev e he).mono fun y x hy=>⟨x.1,?_⟩⟩,YZ⟩
 ·by_cases e:y=X
  ·subst e;rw[aj] at hy;rw[h.keep y aU hX];obtain rfl:=congrArg Prod.fst (Option.some.inj hy);exact hs y _ true (aj _ _ _)
  ·rw[au _ _ e] at hy;exact h.sub y o' wr hy
 ·by_cases e:y=X
  ·subst e;rw[aj] at hn;cases hn
  ·rw[au _ _ e] at hn;exact h.keep y hy hn
 ·by_cases e:y=X
  ·subst e;exact .inl (by rw[aj];simp)
  ·rw[au _ _ e] at hy ⊢;exact h.gP y hy
 ·by_cases e:y=X
  ·subst e;rw[aj] at hy ⊢;exact⟨o,by rw[←Option.some.inj hy]⟩
  ·rw[au _ _ e] at hy ⊢;exact h.old y x hy
 ·by_cases e:y=X
  ·subst e;rw[aj] at hy;cases hy
  ·rw[au _ _ e] at hy ⊢;exact h.nP y o' hy
 ·by_cases e:y=X
  ·subst e;rw[aj] at hn;cases hn
  ·rw[au _ _ e] at hn hy;exact h.new y x hn hy
 ·by_cases e:y=X
  ·subst e;rw[YZ] at hy;cases hy
  ·rw[au _ _ e];exact hy
def X1(b:aQ)(Post:Value→World→Prop)(W0:World)(hxb:b.X≠b.B):ax b.P where
 main:=true
 Go:=fun g L=>∀K st sm,b.OD K→L b.X=none→L b.B=none→nV b.P Post W0 g ((L.put b.X (b.xo st sm)).put b.B (b.ob K))
 step:=fun g L hr hs K st sm hK hX hB=>nV.step g _ hr fun w hw=>by
  have F2:(L.put b.X (b.xo st sm)) b.B=none:=by rw[au _ _ (Ne.symm hxb)];exact hB
  have jY:Sub (L.put b.X (b.xo st sm)) w:=fun y o wr hy=>hw y o wr (Le.put F2 _ _ _ hy);have hw0:Sub L w:=fun y o wr hy=>jY y o wr (Le.put hX _ _ _ hy);obtain⟨g',w',es,L',h1,h2,h3⟩:=hs w hw0;obtain⟨h4,h5⟩:=h2.beside hX jY;obtain⟨h6,h7⟩:=h4.beside F2 hw;rw[au _ _ (Ne.symm hxb)] at h7;exact⟨g',w',es,_,h1,h6,h3 K st sm hK h5 h7⟩
 pk:=fun _ _=>False
 sP:=fun _ _ _ _ _ _ h=>h.elim
section
variable {b:aQ}{Post:Value→World→Prop}{W0:World}{hxb:b.X≠b.B}{C:Cx b.P}{n:Nat}{ds:List Deferred}{k:List Item}{E:Env}{B:List (Option Bx)}{L:LH}
theorem W.join(hX:C.X=X1 b Post W0 hxb)(h0:vE 0 E=true)
  (w:∀R K st sm,Le L R→b.OD K→R b.X=none→R b.B=none→W (⟨kG b.P Post W0,C.f,C.kd,C.ro,C.cs,(R.put b.X (b.xo st sm)).put b.B (b.ob K),(R.put b.X (b.xo st sm)).put b.B (b.ob K)⟩:Cx b.P) n ds k E [] ((R.put b.X (b.xo st sm)).put b.B (b.ob K))):W C n ds k E B L:=by
 intro T R β hT hE hH;rw[hX];intro K st sm hK hx hb;exact w R K st sm hH.le hK hx hb T _ dr hT (hE.SX h0) (aF.all _)
end
section
variable {P:Program}{C:Cx P}{n:Nat}{ds:List Deferred}{k:List Item}{E:Env}{B:List (Option Bx)}{L:LH}{ops:Array Oper}{i:Nat}{rest:List Nat}{mn:Bool}{Φ:World→Prop}{S1:Goroutine→LH→Prop}
theorem W.K9{d:Option Nat}{g:FuncId}{fn:Func}{x:Operand}{ts:Array TypeId}{ty:TypeId}{pos:String}{af:Array Edge}{gd:Option (Nat×Bool)}{ad:Addr}{Y:ax P}(m:Addr→Mark)(hm:∀a g,m a≠.extern g)(hf:P.funcs[g]?=some fn)(dD:(fn.name== "runtime.NumGoroutine")=false)(hb:fn.body.isNone=true)(hn:Extern.findNext fn=none)
  (he:Extern.find fn=some (Extern.Race.marked m))(hX:C.X=gy P mn Φ S1)(bE:C.ro=none)(aM:C.kd≠.early)
  (cu:∀g g' L,g.status=.running→(∀w,stepG P mn g w=.go g' w #[mk (m ad)])→Y.Go g' L→S1 g L)
  (ho:nth ops.toList i=some ⟨d,.call {callee:=.value (.func g),args:=#[x],argTypes:=ts},ty,pos,af,gd⟩)(hg:aK (get E) ops.toList gd=some true)(hz:(d.all fun d=>Nat.blt d n)=true)(hx:aL (get E) x=some (.v (.pointer (some ad))))
  (w:W (C.to Y) n ds (.inRegion ops rest::k) ((d.toList.map fun d=>(d,SV.v (.tuple #[])))++E) B L):W C n ds (.inRegion ops (i::rest)::k) E B L:=by
 refine W.stop hX fun T R β hT hE hH=>?_;have bO:=ho;rw[bU,Array.getElem?_toList] at bO;have ex:ev T x=.pointer (some ad):=(Option.some.inj (hE.val hx)).symm;refine cu _ _ _ rfl (fun w'=>?_) (W.behind (C:=C) (Y:=Y) ho rfl hz hT hE hH w);rw[bE,rS,qF];rw[show(ops[i]?).bind (·.dst)=d by rw[bO];rfl];exact stepG_markAt m hm bO (aO hE hg) aM rfl hf dD hb hn he (ad:=ad) (by simp[j7,ex])
end
end Go.Mz
