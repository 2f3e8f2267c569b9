/- Lemmas on which the claim leans. -/
import Derived.Test.YtjhpkghkgaekcaaGreatDoorMzAh
import Derived.Conc.DeferLaws
namespace Go.Mz
open Go.Conc
def uG:FrameMode→FrameMode
 | .panicking (e::l9)=>if e.recovered then(match l9.dropWhile (!·.goexit) with | []=>.returning | rest=>.panicking rest) else .panicking (e::l9)
 | m=>m
section
variable {P:Program}(X:ax P){f:FuncId}{T:Array Value}{k:List Item}{ds:List Deferred}{cs:List Frame}{L:LH}
theorem ax.leaveD{fn:Func}{c:Frame}(hf:P.funcs[f]?=some fn)
  (h:az P (fun _ L'=>X.Go (G {c with mode:=uG c.mode} cs) L') (fun _ _=>False) (results fn T) L):X.Go (G (Fr f T k [] .returning .deferred none) (c::cs)) L:=
 X.step _ L rfl fun w hs=>by
  have ia:=pZ _ L h w #[] hs;have he:∃r e9,(results fn T).runT P w #[]=(r,e9):=⟨_,_,rfl⟩;obtain⟨r,e9,he⟩:=he;rw[he] at ia;cases r with
  | halt hh w'=>cases hh <;> first | exact ia.elim | (obtain⟨_,_,_,_,h3⟩:=ia;exact h3.elim)
  | ok v w'=>
   obtain⟨L',us,h1,h2,h3⟩:=ia;rw[Array.empty_append] at h1;subst h1;refine⟨_,w',seen P f e9,L',?_,h2.fewer (mL _ _ _),h3⟩;have key:(match c.mode with
    | .panicking ({recovered:=true,..}::l9)=>
     match l9.dropWhile (!·.goexit) with
     | []=>{c with mode:=.returning}
     | rest=>{c with mode:=.panicking rest}
    | _=>c)={c with mode:=uG c.mode}:=by
    obtain⟨cf,ct,ctd,cd,cm,ck,cr⟩:=c;cases cm with
    | run=>rfl
    | returning=>rfl
    | panicking l=>
     cases l with
     | nil=>rfl
     | cons e l9=>
      obtain⟨ev,er,eg⟩:=e;cases er with
      | false=>rfl
      | true=>
       simp only[uG,if_true];cases l9.dropWhile (!·.goexit) <;> rfl
   simp only[G,Fr,stepG,unwind,hf,he,doReturn,ig,Array.append_empty];exact congrArg (fun fr=>GStep.go (G fr cs) w' (seen P f e9)) key
end
def FnD{P:Program}(X:ax P)(f:FuncId)(args:Array Value)(md:FrameMode)(L:LH)(Q:FrameMode→LH→Prop):Prop:=
 ∀(c:Frame) (cs:List Frame),c.mode=md→(∀pN L',Q pN L'→X.Go (G {c with mode:=pN} cs) L')→X.Go (G (Frame.enter P f args .deferred) (c::cs)) L
def Ds{P:Program}(X:ax P)(f:FuncId)(args:List Value)(md:FrameMode)(L:LH)(Q:FrameMode→LH→Prop):Prop:=
 mG P f∧∀R,Le L R→FnD X f args.toArray md R (fun pN R'=>∃L',Q pN L'∧Post L R L' R')
structure OK{P:Program}(C:Cx P)(fn:Func)(md:FrameMode)(Q:FrameMode→LH→Prop):Prop where
 fn:P.funcs[C.f]?=some fn
 ro:C.ro=none
 kd:C.kd=.deferred
 cs:∃c cs,C.cs=c::cs∧c.mode=md∧∀pN R' L',Q pN L'→Post C.L0 C.R0 L' R'→C.X.Go (G {c with mode:=pN} cs) R'
section
variable {P:Program}{n:Nat}{ds:List Deferred}{k:List Item}{E:Env}{B:List (Option Bx)}{L:LH}{ops:Array Oper}{i:Nat}{rest:List Nat}
theorem Ds.enter{X:ax P}{f:FuncId}{fn:Func}{body:Code}{args:List Value}{md:FrameMode}{Q:FrameMode→LH→Prop}(hf:P.funcs[f]?=some fn)(hb:fn.body=some body)(hn:(fn.name== "runtime.NumGoroutine")=false)(hz:fn.ntmps=n)(hle:Nat.ble args.length n=true)
  (h:∀C:Cx P,C.X=X→C.f=f→C.L0=L→OK C fn md Q→W C n [] [.code body] (mo 0 args) [] L):Ds X f args md L Q:=by
 refine⟨⟨fn,hf,hn,by rw[hb];rfl⟩,fun R hR c cs hc h1=>?_⟩;rw[oL hf hb];have hT:(args.toArray++Array.replicate (fn.ntmps - args.toArray.size) undef:Array Value)=args.toArray++Array.replicate (fn.ntmps - args.toArray.size) undef:=rfl;have ed:(args.toArray++Array.replicate (fn.ntmps - args.toArray.size) undef:Array Value).size=n:=by
  have:=Nat.le_of_ble_eq_true hle;simp;omega
 refine h ⟨X,f,.deferred,none,c::cs,L,R⟩ rfl rfl rfl ⟨hf,rfl,rfl,c,cs,rfl,hc,fun pN R' L' hq hp=>h1 pN R' ⟨L',hq,hp⟩⟩ _ R dr ed ?_ ⟨(fun _ _ _ h=>by cases h),(fun _ _ h=>by cases h),(fun _ _ h=>by cases h),(fun k b x hk=>by cases hk),hR,fun b x _ h=>h,fun b hb=>.inl hb,fun b hb=>hb⟩;intro s x hx;obtain⟨_,v,h3,rfl⟩:=jE hx;have hs:args[s]?=some v:=by simpa using h3
 have aU:s<args.length:=by
  rcases Nat.lt_or_ge s args.length with h | h
  ·exact h
  ·rw[List.getElem?_eq_none h] at hs;cases hs
 rw[den]
 congr 1
 rw[Array.getD_eq_getD_getElem?,Array.getElem?_append_left (by simpa using aU),List.getElem?_toArray,hs];rfl
variable {C:Cx P}
theorem vW{T:Array Value}{R:LH}{ts:Array TypeId}{dst:Option Tmp}{ty:TypeId}{pos:String}{af:Array Edge}{gd:Option (Nat×Bool)}{Q:Next→LH→Prop}{H:Value→LH→Prop}(h:Q .recover R):
  az P Q H (execOp (ev T) ⟨dst,.call {callee:=.builtin .recover,args:=#[],argTypes:=ts},ty,pos,af,gd⟩) R:=by
 simp only[execOp,resolve,ae,ar,invoke];exact h
theorem W.NQ{fn:Func}{v:Value}{l9:List PanicEntry}{Q:FrameMode→LH→Prop}{d:Nat}{ts:Array TypeId}{ty:TypeId}{pos:String}{af:Array Edge}{gd:Option (Nat×Bool)}{sv:SV}(r:OK C fn (.panicking (Ju v::l9)) Q)(ho:nth ops.toList i=some ⟨some d,.call {callee:=.builtin .recover,args:=#[],argTypes:=ts},ty,pos,af,gd⟩)(hg:aK (get E) ops.toList gd=some true)(hz:Nat.blt d n=true)(hv:den dr sv=some v)
  (w:∀C':Cx P,C'.X=C.X→C'.f=C.f→C'.L0=C.L0→C'.R0=C.R0→OK C' fn (.panicking ({v:=v,recovered:=true}::l9)) Q→W C' n ds (.inRegion ops rest::k) ((d,sv)::E) B L):W C n ds (.inRegion ops (i::rest)::k) E B L:=by
 obtain⟨hf,bE,aM,c,cs,il,hm,hc⟩:=r;refine W.oper ho hg rfl fun T R β hT hE hH=>?_;refine vW ?_;rw[bE,aM,il];have ht:tryRecover (Fr C.f T (.inRegion ops (i::rest)::k) ds .run .deferred none) (c::cs)=some (v,{c with mode:=.panicking ({v:=v,recovered:=true}::l9)}::cs):=by
  simp only[tryRecover,Fr,hm,Ju]
 simp only[fj];rw[show(Fr C.f T (.inRegion ops (i::rest)::k) ds .run .deferred none).roundOf=none from rfl];simp only[ht];have:=W.eQ (C:=⟨C.X,C.f,.deferred,none,{c with mode:=.panicking ({v:=v,recovered:=true}::l9)}::cs,C.L0,C.R0⟩) (n:=n) (ds:=ds) (k:=k) (E:=E) (B:=B) (L:=L) ho rfl (cC hz) hT hE hH (cP hv β)
  (w ⟨C.X,C.f,.deferred,none,{c with mode:=.panicking ({v:=v,recovered:=true}::l9)}::cs,C.L0,C.R0⟩ rfl rfl rfl rfl ⟨hf,rfl,rfl,_,cs,rfl,rfl,fun pN R' L' hq hp=>hc pN R' L' hq hp⟩)
 exact this
theorem W.CX{fn:Func}{Q:FrameMode→LH→Prop}{d:Nat}{ts:Array TypeId}{ty:TypeId}{pos:String}{af:Array Edge}{gd:Option (Nat×Bool)}(r:OK C fn .returning Q)(ho:nth ops.toList i=some ⟨some d,.call {callee:=.builtin .recover,args:=#[],argTypes:=ts},ty,pos,af,gd⟩)(hg:aK (get E) ops.toList gd=some true)(hz:Nat.blt d n=true)
  (w:W C n ds (.inRegion ops rest::k) ((d,.v .nilIface)::E) B L):W C n ds (.inRegion ops (i::rest)::k) E B L:=by
 obtain⟨hf,bE,aM,c,cs,il,hm,hc⟩:=r;refine W.oper ho hg rfl fun T R β hT hE hH=>?_;refine vW ?_;have ht:tryRecover (Fr C.f T (.inRegion ops (i::rest)::k) ds .run C.kd C.ro) C.cs=none:=by
  rw[aM,il];simp only[tryRecover,Fr,hm]
 simp only[fj];rw[show(Fr C.f T (.inRegion ops (i::rest)::k) ds .run C.kd C.ro).roundOf=none from bE];simp only[ht];exact W.eQ ho rfl (cC hz) hT hE hH rfl w
theorem W.Lr{fn:Func}{md:FrameMode}{Q:FrameMode→LH→Prop}(r:OK C fn md Q)(hr:fn.results=#[])(hk:k=[]∨∃k',k=.code .ret::k')(hq:Q (uG md) L):W C n [] k E B L:=by
 intro T R β hT hE hH;obtain⟨hf,bE,aM,c,cs,il,hm,hc⟩:=r;rw[bE,il,aM];have key:∀k,C.X.Go (G (Fr C.f T k [] .returning .deferred none) (c::cs)) R:=fun k=>by
  refine C.X.leaveD hf ?_;unfold results;rw[hr];simp only[ae,Array.mapM_eq_mapM_toList,ar];rw[hm];exact hc _ _ _ hq hH.post
 rcases hk with rfl | ⟨k',rfl⟩
 ·exact C.X.quiet (g':=G (Fr C.f T [] [] .returning .deferred none) (c::cs)) rfl (fun w=>by simp[G,Fr,stepG,stepG.exec]) (key _)
 ·exact C.X.quiet (g':=G (Fr C.f T (.code .ret::k') [] .returning .deferred none) (c::cs)) rfl (fun w=>by simp[G,Fr,stepG,stepG.exec]) (key _)
theorem W.KC{x:Operand}{sv:SV}{g:FuncId}{f1 f2:Array Value}{ts:Array TypeId}{ty:TypeId}{pos:String}{af:Array Edge}{gd:Option (Nat×Bool)}(bE:C.ro=none)(ho:nth ops.toList i=some ⟨none,.defer {callee:=.value x,args:=#[],argTypes:=ts},ty,pos,af,gd⟩)(hg:aK (get E) ops.toList gd=some true)(hx:aL (get E) x=some sv)(hv:den dr sv=some (.func (.func g) f1 f2))
  (w:W C n (⟨.fn (.func g) f2,f1⟩::ds) (.inRegion ops rest::k) E B L):W C n ds (.inRegion ops (i::rest)::k) E B L:=by
 intro T R β hT hE hH;have bO:=ho;rw[bU,Array.getElem?_toList] at ho;refine C.X.op ho (aO hE hg) (.inl bE) ?_;have ex:ev T x=.func (.func g) f1 f2:=Option.some.inj ((hE.val hx).symm.trans (cP hv β));simp only[execOp,resolve,ex,Deferred.ofValue,ae,ar,fj,Array.map_empty,Array.append_empty];exact W.kP (ds:=⟨.fn (.func g) f2,f1⟩::ds) bO rfl hT hE hH w
theorem WM.deferred{g:FuncId}{f1 f2:Array Value}{md:FrameMode}{Q:FrameMode→LH→Prop}{args:List Value}(hm:leaving md=true)(ha:f1++f2=args.toArray)(hs:Ds C.X g args md L Q)(w:∀pN L',Q pN L'→WM C n ds pN E B L'):WM C n (⟨.fn (.func g) f2,f1⟩::ds) md E B L:=by
 intro T R β k hT hE hH;obtain⟨⟨fn,g1,g2,g3⟩,hF⟩:=hs;have h1:=hF R hH.le (Fr C.f T k ds md C.kd C.ro) C.cs rfl (fun pN R' ⟨L',hq,hp⟩=>w pN L' hq T R' β k hT hE (hH.call hp));obtain⟨bd,yj⟩:∃bd,fn.body=some bd:=by
  cases hb:fn.body with
  | none=>rw[hb] at g3;cases g3
  | some bd=>exact⟨bd,rfl⟩
 have h4:¬fn.name= "runtime.NumGoroutine":=by simpa using g2
 refine C.X.quiet rfl (fun w'=>?_) h1;cases md with
 | run=>cases hm
 | returning=>simp[G,Fr,stepG,unwind,callDeferred,invoke,ha,callFunc,g1,h4,yj,GStep.after,seen_none]
 | panicking ch=>simp[G,Fr,stepG,unwind,callDeferred,invoke,ha,callFunc,g1,h4,yj,GStep.after,seen_none]
end
end Go.Mz
