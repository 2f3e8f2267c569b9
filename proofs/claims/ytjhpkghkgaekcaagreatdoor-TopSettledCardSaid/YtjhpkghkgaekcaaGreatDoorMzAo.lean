/- Lemmas on which the claim leans. -/
import Derived.Test.YtjhpkghkgaekcaaGreatDoorMzAn
import Derived.Conc.AtomicLaws2
import Derived.Conc.MarkLaws
namespace Go.Mz
open Go.Conc Go.ConcN
open Go.ConcR (KK wgBlock WgAt stA smA rd wr mk)
abbrev Cx.to{P:Program}(C:Cx P)(Y:ax P):Cx P:=⟨Y,C.f,C.kd,C.ro,C.cs,C.L0,C.R0⟩
structure sW{P:Program}(C:Cx P)(fn:Func)(Q:ax P→Value→LH→Prop):Prop where
 fn:P.funcs[C.f]?=some fn
 ro:C.ro=none
 kd:C.kd=.normal∨C.kd=.wrapped
 cs:∃c cs,C.cs=c::cs∧∀Y v R' L',Q Y v L'→Post C.L0 C.R0 L' R'→Y.Go (G (c.finish v) cs) R'
def jO{P:Program}(X:ax P)(f:FuncId)(args:List Value)(L:LH)(Q:ax P→Value→LH→Prop):Prop:=
 mG P f∧∀R,Le L R→∀(kd:CallKind) (c:Frame) (cs:List Frame),(kd=.normal∨kd=.wrapped)→(∀Y v R' L',Q Y v L'→Post L R L' R'→Y.Go (G (c.finish v) cs) R')→X.Go (G (Frame.enter P f args.toArray kd) (c::cs)) R
theorem j7(T:Array Value)(ds:List Deferred):(⟨T,ds⟩:Act).eval=ev T:=funext fun x=>by cases x <;> rfl
def bF(f:FuncId)(kd:CallKind):Frame:={(default:Frame) with fn:=f,kind:=kd}
theorem qF(f:FuncId)(T:Array Value)(k:List Item)(ds:List Deferred)(kd:CallKind):Fr f T k ds .run kd none=(bF f kd).at ⟨T,ds⟩ k:=rfl
section
variable {P:Program}{n:Nat}{ds:List Deferred}{k:List Item}{E:Env}{B:List (Option Bx)}{L:LH}{ops:Array Oper}{i:Nat}{rest:List Nat}
theorem sW.to{C:Cx P}{fn:Func}{Q:ax P→Value→LH→Prop}(r:sW C fn Q)(Y:ax P):sW (C.to Y) fn Q:=⟨r.fn,r.ro,r.kd,r.cs⟩
theorem jO.enter{X:ax P}{f:FuncId}{fn:Func}{body:Code}{args:List Value}{Q:ax P→Value→LH→Prop}(hf:P.funcs[f]?=some fn)(hb:fn.body=some body)(hn:(fn.name== "runtime.NumGoroutine")=false)(hz:fn.ntmps=n)(hle:Nat.ble args.length n=true)
  (h:∀C:Cx P,C.X=X→C.f=f→C.L0=L→sW C fn Q→W C n [] [.code body] (mo 0 args) [] L):jO X f args L Q:=by
 refine⟨⟨fn,hf,hn,by rw[hb];rfl⟩,fun R hR kd c cs hk h1=>?_⟩;rw[oL hf hb];have ed:(args.toArray++Array.replicate (fn.ntmps - args.toArray.size) undef:Array Value).size=n:=by
  have:=Nat.le_of_ble_eq_true hle;simp;omega
 refine h ⟨X,f,kd,none,c::cs,L,R⟩ rfl rfl rfl ⟨hf,rfl,hk,c,cs,rfl,fun Y v R' L' hq hp=>h1 Y v R' L' hq hp⟩ _ R dr ed ?_ ⟨(fun _ _ _ h=>by cases h),(fun _ _ h=>by cases h),(fun _ _ h=>by cases h),(fun k b x hk=>by cases hk),hR,fun b x _ h=>h,fun b hb=>.inl hb,fun b hb=>hb⟩;intro s x hx;obtain⟨_,v,h3,rfl⟩:=jE hx;have hs:args[s]?=some v:=by simpa using h3
 have aU:s<args.length:=by
  rcases Nat.lt_or_ge s args.length with h | h
  ·exact h
  ·rw[List.getElem?_eq_none h] at hs;cases hs
 rw[den]
 congr 1
 rw[Array.getD_eq_getD_getElem?,Array.getElem?_append_left (by simpa using aU),List.getElem?_toArray,hs];rfl
theorem aF.all(R:LH):aF R R dr [] R R:=
 ⟨(fun _ _ _ h=>by cases h),(fun _ _ h=>by cases h),(fun _ _ h=>by cases h),(fun k b x hk=>by cases hk),Le.refl _,(fun b x h1 h2=>absurd (h1.symm.trans h2) (by simp)),fun b hb=>.inl hb,fun b hb=>hb⟩
theorem W.start{X:ax P}{f:FuncId}{fn:Func}{body:Code}{args:List Value}{kd:CallKind}{cs:List Frame}{R:LH}(hf:P.funcs[f]?=some fn)(hb:fn.body=some body)(hz:fn.ntmps=n)(hle:Nat.ble args.length n=true)
  (w:W ⟨X,f,kd,none,cs,R,R⟩ n [] [.code body] (mo 0 args) [] R):X.Go (G (Frame.enter P f args.toArray kd) cs) R:=by
 rw[oL hf hb];have ed:(args.toArray++Array.replicate (fn.ntmps - args.toArray.size) undef:Array Value).size=n:=by
  have:=Nat.le_of_ble_eq_true hle;simp;omega
 refine w _ R dr ed ?_ (aF.all R);intro s x hx;obtain⟨_,v,h3,rfl⟩:=jE hx;have hs:args[s]?=some v:=by simpa using h3
 have aU:s<args.length:=by
  rcases Nat.lt_or_ge s args.length with h | h
  ·exact h
  ·rw[List.getElem?_eq_none h] at hs;cases hs
 rw[den]
 congr 1
 rw[Array.getD_eq_getD_getElem?,Array.getElem?_append_left (by simpa using aU),List.getElem?_toArray,hs];rfl
variable {C:Cx P}
theorem W.behind{Y:ax P}{o:Oper}{d:Option Nat}{T:Array Value}{R:LH}{β:Nm}{v:Value}(ho:nth ops.toList i=some o)(hd:o.dst=d)(hz:(d.all fun d=>Nat.blt d n)=true)(hT:T.size=n)(hE:aH β (get E) T)(hH:aF C.L0 C.R0 β B L R)
  (w:W (C.to Y) n ds (.inRegion ops rest::k) ((d.toList.map fun d=>(d,SV.v v))++E) B L):Y.Go (G ((Fr C.f T (.inRegion ops (i::rest)::k) ds .run C.kd C.ro).finish v) C.cs) R:=by
 cases d with
 | none=>exact W.kP (C:=C.to Y) ho hd hT hE hH w
 | some d=>exact W.eQ (C:=C.to Y) (sv:=.v v) ho hd (cC hz) hT hE hH rfl w
theorem W.kN{d:Option Nat}{g:FuncId}{args:List Value}{xs:Array Operand}{ts:Array TypeId}{ty:TypeId}{pos:String}{af:Array Edge}{gd:Option (Nat×Bool)}{Q:ax P→Value→LH→Prop}(ho:nth ops.toList i=some ⟨d,.call {callee:=.value (.func g),args:=xs,argTypes:=ts},ty,pos,af,gd⟩)(hg:aK (get E) ops.toList gd=some true)(hz:(d.all fun d=>Nat.blt d n)=true)
  (ha:oH (get E) xs.toList=some args)(hs:jO C.X g args L Q)(w:∀Y v L',Q Y v L'→W (C.to Y) n ds (.inRegion ops rest::k) ((d.toList.map fun d=>(d,SV.v v))++E) B L'):W C n ds (.inRegion ops (i::rest)::k) E B L:=by
 refine W.oper ho hg rfl fun T R β hT hE hH=>?_;have hx:xs.map (ev T)=args.toArray:=by rw[←j8 hE ha,←List.map_toArray]
 obtain⟨⟨fn,h1,h2,h3⟩,hf⟩:=hs;refine Di.func h1 h2 h3 hx _ _ _ _ _ _ (hf R hH.le .normal _ _ (.inl rfl) fun Y v R' L' hq hp=>?_);exact W.behind (C:=C) ho rfl hz hT hE (hH.call hp) (w Y v L' hq)
theorem W.iy[S:Seat P]{fn:Func}{Q:ax P→Value→LH→Prop}{jl:List SV}{vs:List Value}(r:sW C fn Q)(hk:k=[]∨∃k',k=.code .ret::k')(hs:o8 S.τ (get E) B fn.results.toList=some jl)(hv:bC dr jl=some vs)(hq:Q C.X (o9 vs) L):W C n [] k E B L:=by
 obtain⟨hf,bE,aM,c,cs,il,h1⟩:=r;exact W.So (H:=fun _ _=>False) (Q:=fun v L'=>Q C.X v L') S.ok ⟨hf,bE,aM,c,cs,il,fun v R' L' hq hp=>h1 _ v R' L' hq hp,fun _ _ _ (h:False) _=>h.elim⟩ hk hs hv hq
theorem W.DX{g:FuncId}{args:List Value}{xs:Array Operand}{ts:Array TypeId}{ty:TypeId}{pos:String}{af:Array Edge}{gd:Option (Nat×Bool)}(bE:C.ro=none)(ho:nth ops.toList i=some ⟨none,.defer {callee:=.value (.func g),args:=xs,argTypes:=ts},ty,pos,af,gd⟩)(hg:aK (get E) ops.toList gd=some true)(ha:oH (get E) xs.toList=some args)
  (w:W C n (dcall g args.toArray::ds) (.inRegion ops rest::k) E B L):W C n ds (.inRegion ops (i::rest)::k) E B L:=by
 intro T R β hT hE hH;have bO:=ho;rw[bU,Array.getElem?_toList] at ho;refine C.X.op ho (aO hE hg) (.inl bE) ?_;have hx:xs.map (ev T)=args.toArray:=by rw[←j8 hE ha,←List.map_toArray]
 simp only[execOp,resolve,ev,Deferred.ofValue,ae,ar,fj,hx,Array.empty_append];exact W.kP (ds:=dcall g args.toArray::ds) bO rfl hT hE hH w
theorem W.dJ{c:Code}(w:W C n ds (.code c::.inLoop c::k) E B L):W C n ds (.inLoop c::k) E B L:=fun T R β hT hE hH=>C.X.inLoop (w T R β hT hE hH)
theorem W.kW{c:Code}(w:W C n ds (.code c::.inLoop c::k) E B L):W C n ds (.code (.loop c)::k) E B L:=fun T R β hT hE hH=>C.X.loop (w T R β hT hE hH)
theorem aH.acV{β:Nm}{E E':Env}{T:Array Value}(h:aH β (get E) T)(hs:gk E E')(h0:vE 0 E'=true):aH dr (get E') T:=fun s x hx=>by
 have h1:=rZ (ru h0 s x hx) (h s x (hs.get s x hx));exact jI (fun k b hk=>absurd (Nm.jB hk).1 (Nat.not_lt_zero _)) h1
theorem aH.SX{β:Nm}{E:Env}{T:Array Value}(h:aH β (get E) T)(h0:vE 0 E=true):aH dr (get E) T:=fun s x hx=>by
 have h1:=rZ (ru h0 s x hx) (h s x hx);exact jI (fun k b hk=>absurd (Nm.jB hk).1 (Nat.not_lt_zero _)) h1
theorem W.V6{mn:Bool}{Φ:World→Prop}{S1:Goroutine→LH→Prop}{x:Operand}{sv:SV}{g:FuncId}{f1 f2:Array Value}{ts:Array TypeId}{ty:TypeId}{pos:String}{af:Array Edge}{gd:Option (Nat×Bool)}(hX:C.X=gy P mn Φ S1)(bE:C.ro=none)(aM:C.kd≠.early)(ho:nth ops.toList i=some ⟨none,.go {callee:=.value x,args:=#[],argTypes:=ts},ty,pos,af,gd⟩)(hg:aK (get E) ops.toList gd=some true)(hx:aL (get E) x=some sv)(hv:den dr sv=some (.func (.func g) f1 f2))(h0:vE 0 E=true)
  (h:∀(R:LH) (g0 g':Goroutine),g0.status=.running→(∀w,stepG P mn g0 w=.spawn g' (Go.Conc.born P ⟨.fn (.func g) f2,f1⟩) w #[])→Le L R→(∀(Y:ax P) (Lm:LH),W ⟨Y,C.f,C.kd,none,C.cs,Lm,Lm⟩ n ds (.inRegion ops rest::k) E [] Lm→Y.Go g' Lm)→S1 g0 R):W C n ds (.inRegion ops (i::rest)::k) E B L:=by
 intro T R β hT hE hH;have bO:=ho;rw[bU,Array.getElem?_toList] at bO;have ex:(⟨T,ds⟩:Act).eval x=.func (.func g) f1 f2:=(congrFun (j7 T ds) x).trans (Option.some.inj ((hE.val hx).symm.trans (cP hv β)));rw[hX,bE];refine Way.stop (h R _ (G (Fr C.f T (.inRegion ops rest::k) ds .run C.kd none) C.cs) rfl (fun w=>?_) hH.le fun Y Lm w=>?_)
 ·have e1:execOp (⟨T,ds⟩:Act).eval ⟨none,.go {callee:=.value x,args:=#[],argTypes:=ts},ty,pos,af,gd⟩=pure (.spawn ⟨.fn (.func g) f2,f1⟩):=by
   simp only[execOp,resolve,ex,Deferred.ofValue,Array.map_empty,Array.append_empty];rfl
  rw[qF];refine(stepG_spawn (w':=w) (d:=⟨.fn (.func g) f2,f1⟩) bO (aO hE hg) aM (by rw[e1];rfl) rfl).trans ?_;have:listed P (bF C.f C.kd).fn ⟨T,ds⟩ ⟨none,.go {callee:=.value x,args:=#[],argTypes:=ts},ty,pos,af,gd⟩ w=#[]:=by
   unfold listed;rw[e1];rfl
  rw[this];rfl
 ·exact w T Lm dr hT (hE.SX h0) (aF.all Lm)
variable {mn:Bool}{Φ:World→Prop}{S1 S2:Goroutine→LH→Prop}
theorem W.stop(hX:C.X=gy P mn Φ S1)(h:∀(T:Array Value) (R:LH) (β:Nm),T.size=n→aH β (get E) T→aF C.L0 C.R0 β B L R→S1 (G (Fr C.f T k ds .run C.kd C.ro) C.cs) R):W C n ds k E B L:=by
 intro T R β hT hE hH;rw[hX];exact Way.stop (h T R β hT hE hH)
section
variable {f:FuncId}{kd:CallKind}{cs:List Frame}{T:Array Value}{o:Oper}
theorem rS(f:FuncId)(T:Array Value)(ops:Array Oper)(i:Nat)(rest:List Nat)(k:List Item)(ds:List Deferred)(kd:CallKind)(v:Value):
  (Fr f T (.inRegion ops (i::rest)::k) ds .run kd none).finish v=(bF f kd).at ((⟨T,ds⟩:Act).put ((ops[i]?).bind (·.dst)) v) (.inRegion ops rest::k):=by
 rw[qF,Frame.finish_at]
end
theorem W.re{d:Option Nat}{g:FuncId}{fn:Func}{xs:Array Operand}{ts:Array TypeId}{ty:TypeId}{pos:String}{af:Array Edge}{gd:Option (Nat×Bool)}(m:Mark)(hm:∀g,m≠.extern g)(hf:P.funcs[g]?=some fn)(dD:(fn.name== "runtime.NumGoroutine")=false)(hb:fn.body.isNone=true)(hn:Extern.findNext fn=none)
  (he:Extern.find fn=some (fun _=>do mark m;pure Extern.Race.none_))(hX:C.X=gy P mn Φ S1)(bE:C.ro=none)(aM:C.kd≠.early)
  (cu:∀g g' L,g.status=.running→(∀w,stepG P mn g w=.go g' w #[mk m])→Way P mn Φ S2 g' L→S1 g L)
  (ho:nth ops.toList i=some ⟨d,.call {callee:=.value (.func g),args:=xs,argTypes:=ts},ty,pos,af,gd⟩)(hg:aK (get E) ops.toList gd=some true)(hz:(d.all fun d=>Nat.blt d n)=true)
  (w:W (C.to (gy P mn Φ S2)) n ds (.inRegion ops rest::k) ((d.toList.map fun d=>(d,SV.v (.tuple #[])))++E) B L):W C n ds (.inRegion ops (i::rest)::k) E B L:=by
 refine W.stop hX fun T R β hT hE hH=>?_;have bO:=ho;rw[bU,Array.getElem?_toList] at bO;refine cu _ _ _ rfl (fun w'=>?_) (W.behind (C:=C) (Y:=gy P mn Φ S2) ho rfl hz hT hE hH w);rw[bE,rS,qF];rw[show(ops[i]?).bind (·.dst)=d by rw[bO];rfl];exact stepG_mark0 m hm bO (aO hE hg) aM rfl hf dD hb hn he
theorem W.Jf{d:Option Nat}{g:FuncId}{fn:Func}{x:Operand}{ts:Array TypeId}{ty:TypeId}{pos:String}{af:Array Edge}{gd:Option (Nat×Bool)}{ad:Addr}(m:Addr→Mark)(hm:∀a g,m a≠.extern g)(hf:P.funcs[g]?=some fn)(dD:(fn.name== "runtime.NumGoroutine")=false)(hb:fn.body.isNone=true)(hn:Extern.findNext fn=none)
  (he:Extern.find fn=some (Extern.Race.marked m))(hX:C.X=gy P mn Φ S1)(bE:C.ro=none)(aM:C.kd≠.early)
  (cu:∀g g' L,g.status=.running→(∀w,stepG P mn g w=.go g' w #[mk (m ad)])→Way P mn Φ S2 g' L→S1 g L)
  (ho:nth ops.toList i=some ⟨d,.call {callee:=.value (.func g),args:=#[x],argTypes:=ts},ty,pos,af,gd⟩)(hg:aK (get E) ops.toList gd=some true)(hz:(d.all fun d=>Nat.blt d n)=true)(hx:aL (get E) x=some (.v (.pointer (some ad))))
  (w:W (C.to (gy P mn Φ S2)) n ds (.inRegion ops rest::k) ((d.toList.map fun d=>(d,SV.v (.tuple #[])))++E) B L):W C n ds (.inRegion ops (i::rest)::k) E B L:=by
 refine W.stop hX fun T R β hT hE hH=>?_;have bO:=ho;rw[bU,Array.getElem?_toList] at bO;have ex:ev T x=.pointer (some ad):=(Option.some.inj (hE.val hx)).symm;refine cu _ _ _ rfl (fun w'=>?_) (W.behind (C:=C) (Y:=gy P mn Φ S2) ho rfl hz hT hE hH w);rw[bE,rS,qF];rw[show(ops[i]?).bind (·.dst)=d by rw[bO];rfl];exact stepG_markAt m hm bO (aO hE hg) aM rfl hf dD hb hn he (ad:=ad) (by simp[j7,ex])
theorem W.vM{d:Nat}{o:Oper}{v:Value}(hX:C.X=gy P mn Φ S1)(bE:C.ro=none)(aM:C.kd≠.early)(ho:nth ops.toList i=some o)(hd:o.dst=some d)(hz:Nat.blt d n=true)(hg:aK (get E) ops.toList o.guard=some true)(fF:fS o.op=false)
  (hr:∀(T:Array Value) (w:World),(∀x sv u,aL (get E) x=some sv→den dr sv=some u→ev T x=u)→Φ w→(execOp (ev T) o).run P w=.ok (.value v) w∧(execOp (ev T) o).events P w #[]=#[])
  (w:W C n ds (.inRegion ops rest::k) ((d,.v v)::E) B L):W C n ds (.inRegion ops (i::rest)::k) E B L:=by
 intro T R β hT hE hH;have bO:=ho;rw[bU,Array.getElem?_toList] at bO;have h1:∀x sv u,aL (get E) x=some sv→den dr sv=some u→ev T x=u:=fun x sv u hx hu=>Option.some.inj ((hE.val hx).symm.trans (cP hu β));rw[hX];refine Way.vM _ _ rfl fun w' hw=>⟨(G ((Fr C.f T (.inRegion ops (i::rest)::k) ds .run C.kd C.ro).finish v) C.cs),w',#[],R,?_,Tr.refl hw.1,?_⟩
 ·obtain⟨cx,cN⟩:=hr T w' h1 hw.2;rw[bE,qF,stepG_oper bO (aO hE hg),j7];have gq:((bF C.f C.kd).kind==CallKind.early)=false:=by simpa [bF] using aM
  simp[stepG.apply,cx,cN,G,GStep.after,seen,gq,Frame.at,Fr,bF]
 ·have:=W.eQ (C:=C) (sv:=.v v) ho hd (cC hz) hT hE hH rfl w;rw[hX] at this;exact this
theorem W.tj{d:Nat}{src dst t:TypeId}{x:Operand}{ty:TypeId}{pos:String}{af:Array Edge}{gd:Option (Nat×Bool)}{ad:Addr}(hX:C.X=gy P mn Φ S1)(bE:C.ro=none)(aM:C.kd≠.early)(hs:P.underlying src=some (.pointer t))(hd:P.underlying dst=some .unsafePointer)(ed:(P.info? t).map (fun i=>decide (i.size=0))=some false)(hc:∀w,Φ w→∃v,w.cell? ad=some v)
  (ho:nth ops.toList i=some ⟨some d,.convert src dst x,ty,pos,af,gd⟩)(hz:Nat.blt d n=true)(hg:aK (get E) ops.toList gd=some true)(hx:aL (get E) x=some (.v (.pointer (some ad))))
  (w:W C n ds (.inRegion ops rest::k) ((d,.v (.pointer (some ad)))::E) B L):W C n ds (.inRegion ops (i::rest)::k) E B L:=by
 refine W.vM hX bE aM ho rfl hz hg rfl (fun T w' h1 h2=>?_) w;obtain⟨u,hu⟩:=hc w' h2;have ex:=h1 x _ _ hx rfl;have e1:=run_convert_to_unsafe (P:=P) hs hd ed hu;have e2:=events_convert_to_unsafe (P:=P) (w:=w') hs hd ed hu #[];simp only[execOp,ex];simp[go_sem,e1,e2]
theorem W.atom{d:Nat}{o:Oper}(hX:C.X=gy P mn Φ S1)(bE:C.ro=none)(ho:nth ops.toList i=some o)(hd:o.dst=some d)(hz:Nat.blt d n=true)(hg:aK (get E) ops.toList o.guard=some true)
  (h:∀(T:Array Value) (R:LH) (g:Goroutine) (fin:Value→Goroutine),(∀x sv u,aL (get E) x=some sv→den dr sv=some u→(⟨T,ds⟩:Act).eval x=u)→Region.wanted o (yielded ops (⟨T,ds⟩:Act).tmps)=true→ops[i]?=some o→
   g=G ((bF C.f C.kd).at ⟨T,ds⟩ (.inRegion ops (i::rest)::k)) C.cs→(∀v,fin v=G ((bF C.f C.kd).at ((⟨T,ds⟩:Act).put o.dst v) (.inRegion ops rest::k)) C.cs)→g.status=.running→
   (∀(Y:ax P) v,W (C.to Y) n ds (.inRegion ops rest::k) ((d,.v v)::E) B L→Y.Go (fin v) R)→S1 g R):W C n ds (.inRegion ops (i::rest)::k) E B L:=by
 refine W.stop hX fun T R β hT hE hH=>?_;have bO:=ho;rw[bU,Array.getElem?_toList] at bO;rw[bE];refine h T R _ (fun v=>G ((Fr C.f T (.inRegion ops (i::rest)::k) ds .run C.kd C.ro).finish v) C.cs) (fun x sv u hx hu=>(congrFun (j7 T ds) x).trans (Option.some.inj ((hE.val hx).symm.trans (cP hu β)))) (aO hE hg) bO rfl (fun v=>?_) rfl
  fun Y v w=>W.eQ (C:=C.to Y) (sv:=.v v) ho hd (cC hz) hT hE hH rfl w
 rw[bE,rS,bO];rfl
theorem WM.re{g:FuncId}{fn:Func}{args:Array Value}(m:Mark)(hm:∀g,m≠.extern g)(hf:P.funcs[g]?=some fn)(dD:(fn.name== "runtime.NumGoroutine")=false)(hb:fn.body.isNone=true)(hn:Extern.findNext fn=none)
  (he:Extern.find fn=some (fun _=>do mark m;pure Extern.Race.none_))(hX:C.X=gy P mn Φ S1)(bE:C.ro=none)
  (cu:∀g g' L,g.status=.running→(∀w,stepG P mn g w=.go g' w #[mk m])→Way P mn Φ S2 g' L→S1 g L)
  (w:WM (C.to (gy P mn Φ S2)) n ds .returning E B L):WM C n (dcall g args::ds) .returning E B L:=by
 intro T R β k hT hE hH;rw[hX];refine Way.stop (cu _ _ _ rfl (fun w'=>?_) (w T R β k hT hE hH));rw[bE];have:=stepG_unwind_entry (P:=P) (main:=mn) (b:=bF C.f C.kd) (a:=⟨T,dcall g args::ds⟩) (todo:=k) (cs:=C.cs) (w:=w') (w':=w') (v:=.tuple #[]) (evs:=#[mk m]) rfl hf dD hb hn he (by simp[Extern.Race.none_]) (by simp[Go.ConcR.mk]) (by simp[Go.ConcR.mk];intro g;exact hm g);exact this
theorem WM.iy[S:Seat P]{fn:Func}{Q:ax P→Value→LH→Prop}{jl:List SV}{vs:List Value}(r:sW C fn Q)(hs:o8 S.τ (get E) B fn.results.toList=some jl)(hv:bC dr jl=some vs)(hq:Q C.X (o9 vs) L):WM C n [] .returning E B L:=by
 obtain⟨hf,bE,aM,c,cs,il,h1⟩:=r;exact WM.ret (H:=fun _ _=>False) (Q:=fun v L'=>Q C.X v L') ⟨hf,bE,aM,c,cs,il,fun v R' L' hq hp=>h1 _ v R' L' hq hp,fun _ _ _ (h:False) _=>h.elim⟩ hs hv hq
end
end Go.Mz
set_option maxRecDepth 100000
namespace Go.Mz
open Go.Conc Go.ConcN
section
variable {P:Program}{n:Nat}{k:List Item}{E:Env}{B:List (Option Bx)}{L:LH}
structure RtO(C:Cx P)(fn:Func)(s:Nat)(Q:Value→LH→Prop):Prop where
 ro:C.ro=none
 go:∀(T:Array Value) (k:List Item) (v:Value) (R L':LH),T.getD s undef=v→Q v L'→Post C.L0 C.R0 L' R→C.X.Go (G (Fr C.f T k [] .returning C.kd none) C.cs) R
theorem W.XM{C:Cx P}{fn:Func}{s:Nat}{Q:Value→LH→Prop}{v:Value}(r:RtO C fn s Q)(hs:get E s=some (.v v))(hq:Q v L):W C n [] (.code .ret::k) E B L:=by
 intro T R β hT hE hH;obtain⟨bE,go⟩:=r;rw[bE];exact C.X.ret (go _ _ v R L (Option.some.inj (hE s _ hs)).symm hq hH.post)
theorem nV.leave1{Post:Value→World→Prop}{W0:World}{f:FuncId}{fn:Func}{s:Nat}{T:Array Value}(hf:P.funcs[f]?=some fn)(hr:fn.results=#[.tmp s])(mD:P.inits.idxOf? f=none)(h:∀w,Sub L w→j5 W0 w→Post (T.getD s undef) w):
  nV P Post W0 (G (Fr f T k [] .returning .normal none) []) L:=by
 refine nV.done rfl fun w hs hw=>⟨T.getD s undef,#[],?_,fun e he=>by simp at he,h w hs hw⟩;simp[G,Fr,stepG,unwind,hf,doReturn,results,hr,mD,GStep.after,seen_none]
theorem G9{Post:Value→World→Prop}{W0:World}{f:FuncId}{fn:Func}{body:Code}{args:List Value}{s:Nat}{Q:Value→LH→Prop}(hf:P.funcs[f]?=some fn)(hb:fn.body=some body)(hr:fn.results=#[.tmp s])(mD:P.inits.idxOf? f=none)(hz:fn.ntmps=n)(hle:Nat.ble args.length n=true)
  (hQ:∀v L' w,Q v L'→Sub L' w→j5 W0 w→Post v w)
  (h:∀C:Cx P,C.X=kG P Post W0→C.f=f→C.L0=L→RtO C fn s Q→W C n [] [.code body] (mo 0 args) [] L):nV P Post W0 (G (Frame.enter P f args.toArray .normal) []) L:=by
 refine W.start (X:=kG P Post W0) hf hb hz hle (h _ rfl rfl rfl ⟨rfl,fun T k v R L' hv hq hp=>?_⟩);refine nV.leave1 hf hr mD fun w hs hw=>?_;rw[hv];exact hQ v L' w hq (fun b o wr hb=>hs b o wr (hp.le _ _ hb)) hw
end
end Go.Mz
