/- Lemmas on which the claim leans. -/
import Derived.Test.YtjhpkghkgaekcaaGreatDoorMzAb
import Derived.Laws.Sem
namespace Go.Mz
open Go.Conc
def uu(P:Program)(op:Op)(ty:TypeId)(T:Array Value)(L:LH)(mk:Nat→Value)(o:Obj):Prop:=
 ∀(dst:Option Tmp) (pos:String) (af:Array Edge) (gd:Option (Nat×Bool)) (Q:Next→LH→Prop) (H:Value→LH→Prop),(∀b,L b=none→Q (.value (mk b)) (L.put b o))→az P Q H (execOp (ev T) ⟨dst,op,ty,pos,af,gd⟩) L
def Di(P:Program)(op:Op)(ty:TypeId)(T:Array Value)(L:LH)(g:FuncId)(args:Array Value):Prop:=
 ∀(dst:Option Tmp) (pos:String) (af:Array Edge) (gd:Option (Nat×Bool)) (Q:Next→LH→Prop) (H:Value→LH→Prop),Q (.enter g args) L→az P Q H (execOp (ev T) ⟨dst,op,ty,pos,af,gd⟩) L
section
variable {P:Program}(X:ax P)
variable {f:FuncId}{T:Array Value}{k:List Item}{ds:List Deferred}{kd:CallKind}{ro:Option Nat}{cs:List Frame}{L:LH}{ops:Array Oper}{i:Nat}{rest:List Nat}
variable {op:Op}{ty:TypeId}{pos:String}{af:Array Edge}{gd:Option (Nat×Bool)}{d:Nat}{v:Value}
theorem Fn.enter{P:Program}{X:ax P}{f:FuncId}{fn:Func}{body:Code}{args:Array Value}{L:LH}{Q:Value→LH→Prop}{H:List PanicEntry→LH→Prop}(hf:P.funcs[f]?=some fn)(hb:fn.body=some body)
  (h:∀(T:Array Value) (kd:CallKind) (c:Frame) (cs:List Frame),T=args++Array.replicate (fn.ntmps - args.size) undef→(kd=.normal∨kd=.wrapped)→
   (∀v L',Q v L'→X.Go (G (c.finish v) cs) L')→(∀ch L',H ch L'→X.Go (G (c.raise ch) cs) L')→X.Go (G (Fr f T [.code body] [] .run kd none) (c::cs)) L):Fn X f args L Q H:=by
 intro kd c cs hk h1 h2;rw[oL hf hb];exact h _ kd c cs rfl hk h1 h2
theorem Ib{args T:Array Value}{n j:Nat}{v:Value}(hT:T=args++Array.replicate n undef)(hv:args[j]?=some v):T.getD j undef=v:=by
 subst hT;have aU:=(Array.getElem?_eq_some_iff.1 hv).1;rw[Array.getD_eq_getD_getElem?,Array.getElem?_append_left aU,hv]
 rfl
end
section
variable {P:Program}{T:Array Value}{L:LH}{ty t t2:TypeId}{x y c:Operand}{v u:Value}{a b:Int}{k:IntKind}
theorem uu.box{c:Array Value}(h:ev T x=v)(hc:v.cells=c):uu P (.box t x) ty T L (fun b=>.pointer (some ⟨b,0,none⟩)) (.cells c t):=by
 intro dst pos af gd Q H hq;simp only[execOp,h];rw[ae];unfold Instr.box;rw[ae];unfold newVar;rw[fW,hc];exact hq
theorem uu.alloc{z:Value}{c:Array Value}(hz:(P.info? t).bind (·.zero)=some z)(hc:z.cells=c):uu P (.alloc t) ty T L (fun b=>.pointer (some ⟨b,0,none⟩)) (.cells c t):=by
 intro dst pos af gd Q H hq;simp only[execOp];rw[ae];unfold Instr.alloc;rw[ae,dA hz];simp only;rw[ae];unfold newVar;rw[fW,hc];exact hq
theorem uu.buildSlice{e:TypeId}{n len:Nat}{parts:Array (Nat×Operand)}{pv:List (Nat×Value)}{z:Value}{cells:Array Value}(hu:P.underlying t=some (.slice e))(hn:(P.info? e).map (·.size)=some n)(hl:len *n≤2 ^ 24)
  (hz:(P.info? e).bind (·.zero)=some z)(hp:(parts.map fun(i,x)=>(i,ev T x)).toList=pv)
  (hc:Instr.fill (fun i=>some (i *n,n)) ((Array.range (len *n)).map (fun i=>(if len *n=0 then#[] else z.cells)[i % (if len *n=0 then(#[]:Array Value) else z.cells).size]!)) pv=some cells):
  uu P (.buildSlice t len parts) ty T L (fun b=>.slice (some ⟨b,0,none⟩) len len) (.cells cells e):=by
 intro dst pos af gd Q H hq;have oo:¬len *n>2 ^ 24:=by omega
 simp only[execOp];rw[ae];unfold Instr.buildSlice;rw[ae,ao hu];simp only;rw[ae,bL hn];simp only[if_neg oo]
 by_cases h0:len *n=0
 ·simp only[h0,if_true] at hc ⊢;simp only[ae,ar,hp,hc];rw[fW];exact hq
 ·simp only[if_neg h0] at hc ⊢;simp only[ae,dA hz,ar];simp only[hp,hc];rw[ae,fW];exact hq
theorem uu.makeMap:uu P (.makeMap t none) ty T L (fun b=>.map (some b)) (.map #[] 0):=by
 intro dst pos af gd Q H hq;simp only[execOp,Option.map_none];rw[ae];unfold Instr.makeMap;exact hq
theorem Kc{ad:Addr}{Q:Unit→LH→Prop}{H:Value→LH→Prop}(hs:single v=true)(hw:L.xy ad=true):az P Q H (store ad v) L=Q () (L.setCell ad v):=by
 show az P Q H (.store .plain ad v (.pure ())) L=_;unfold az;simp only[hs,hw,true_and]
 rfl
theorem Hm{ad:Addr}{c:Array Value}{e:TypeId}{fz:Nat×Nat}{wr:Bool}(h:L ad.block=some (.cells c e fz,wr))(hs:ad.spot=none):L.setCell ad v ad.block=some (.cells (c.setIfInBounds ad.off v) e fz,wr):=by
 unfold LH.setCell;rw[if_pos rfl,h];simp[iI,hs]
theorem Hn{ad:Addr}{b':Nat}(h:b'≠ad.block):L.setCell ad v b'=L b':=by
 unfold LH.setCell;rw[if_neg h]
theorem O7{b off:Nat}{c:Array Value}{e:TypeId}(h:L b=some (.cells c e (0,0),true))(ho:off<c.size):L.xy ⟨b,off,none⟩=true:=by
 unfold LH.xy;simp only[h];simp[ho]
def db(c:Array Value)(i:Nat):List Value→Array Value
 | []=>c
 | v::vs=>db (c.setIfInBounds i v) (i+1) vs
theorem vB(i:Nat)(vs:List Value)(c:Array Value):(db c i vs).size=c.size:=by
 induction vs generalizing c i with
 | nil=>rfl
 | cons v vs ih=>simp[db,ih]
theorem fL{b off:Nat}{e:TypeId}{Q:Unit→LH→Prop}{H:Value→LH→Prop}:∀(vs:List Value) (i:Nat) (c:Array Value) (L:LH),L b=some (.cells c e (0,0),true)→off+i+vs.length≤c.size→(∀v∈vs,single v=true)→
  (∀L',L' b=some (.cells (db c (off+i) vs) e (0,0),true)→(∀b',b'≠b→L' b'=L b')→Q () L')→az P Q H (storeCells ⟨b,off,none⟩ vs i) L:=by
 intro vs
 induction vs with
 | nil=>intro i c L h _ _ hq;exact hq L h (fun _ _=>rfl)
 | cons v vs ih=>
  intro i c L h hl hs hq;simp only[List.length_cons] at hl;simp only[storeCells];have ha:Addr.add ⟨b,off,none⟩ i=⟨b,off+i,none⟩:=by
   unfold Addr.add
   split <;> simp_all
  rw[ae,ha,Kc (hs v List.mem_cons_self) (O7 h (by omega))];have hb:=Hm (L:=L) (ad:=⟨b,off+i,none⟩) (v:=v) h rfl;refine ih (i+1) _ _ hb (by simp;omega) (fun u hu=>hs u (List.mem_cons_of_mem _ hu)) (fun L' h1 h2=>hq L' ?_ (fun b' bG=>?_))
  ·rw[h1];rfl
  ·rw[h2 b' bG,Hn bG]
theorem lD{g:FuncId}{fn:Func}{args:Array Value}{Q:Next→LH→Prop}{H:Value→LH→Prop}(hf:P.funcs[g]?=some fn)(hn:(fn.name== "runtime.NumGoroutine")=false)(hb:fn.body.isNone=false):az P Q H (callFunc g args) L=Q (.enter g args) L:=by
 unfold callFunc;rw[ae,dV];simp only[hf,hn,hb]
 rfl
theorem Di.func{g:FuncId}{fn:Func}{xs:Array Operand}{ts:Array TypeId}{vs:Array Value}(hf:P.funcs[g]?=some fn)(hn:(fn.name== "runtime.NumGoroutine")=false)(hb:fn.body.isNone=false)(hx:xs.map (ev T)=vs):
  Di P (.call {callee:=.value (.func g),args:=xs,argTypes:=ts}) ty T L g vs:=by
 intro dst pos af gd Q H hq;simp only[execOp,resolve,ev,Deferred.ofValue,hx];rw[ae,ar];simp only[invoke,Array.empty_append,Array.append_empty];rw[lD hf hn hb];exact hq
theorem Di.value{g:FuncId}{fn:Func}{xs:Array Operand}{ts:Array TypeId}{vs v1 v2 ws:Array Value}(hf:P.funcs[g]?=some fn)(hn:(fn.name== "runtime.NumGoroutine")=false)(hb:fn.body.isNone=false)(hv:ev T x=.func (.func g) v1 v2)(hx:xs.map (ev T)=vs)(hw:v1++vs++v2=ws):
  Di P (.call {callee:=.value x,args:=xs,argTypes:=ts}) ty T L g ws:=by
 intro dst pos af gd Q H hq;simp only[execOp,resolve,hv,Deferred.ofValue,hx];rw[ae,ar];simp only[invoke];rw[lD hf hn hb,hw];exact hq
end
end Go.Mz
