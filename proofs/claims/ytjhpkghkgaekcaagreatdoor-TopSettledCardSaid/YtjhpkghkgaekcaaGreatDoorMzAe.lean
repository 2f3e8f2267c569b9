/- Lemmas on which the claim leans. -/
import Derived.Test.YtjhpkghkgaekcaaGreatDoorMzAd
import Derived.Conc.Events
namespace Go.Mz
open Go.Conc
def always(e:Edge):Bool:=match e.ground with
 | .textOnly _ | .gcOnly _=>false
 | _=>true
def dT(ops:Array Oper)(i:Nat):List Nat:=match ops[i]? with
 | some o=>(o.after.toList.filter always).map (·.on)
 | none=>[]
inductive HV(ops:Array Oper):List Nat→List Nat→Prop
 | nil {S:List Nat} (h:∀i,i<ops.size→i∈S):HV ops S []
 | cons {S:List Nat} {i:Nat} {l:List Nat} (hi:i<ops.size) (hn:i∉S) (hd:∀j∈dT ops i,j∈S) (h:HV ops (i::S) l):HV ops S (i::l)
def lB(m:Region.Mode)(ops:Array Oper)(rk:Nat→Nat):Bool:=
 (List.range ops.size).all fun i=>match ops[i]? with
  | some o=>o.after.toList.all fun e=>!Region.binds m e||(decide (rk e.on<rk i)&&decide (e.on<ops.size))
  | none=>true
theorem FV{p:Nat→Bool}(rk:Nat→Nat){n:Nat}(h:∃i,i<n∧p i=true):∃i,i<n∧p i=true∧∀j,j<n→p j=true→rk i≤rk j:=by
 obtain⟨i,hi,hp⟩:=h;have key:∀k i,rk i=k→i<n→p i=true→∃i,i<n∧p i=true∧∀j,j<n→p j=true→rk i≤rk j:=by
  intro k
  induction k using Nat.strongRecOn with
  | ind k ih=>
   intro i hk hi hp
   by_cases hx:∃j,j<n∧p j=true∧rk j<rk i
   ·obtain⟨j,hj,ZL,aU⟩:=hx;exact ih (rk j) (by omega) j rfl hj ZL
   ·refine⟨i,hi,hp,fun j hj ZL=>?_⟩
    by_cases aU:rk j<rk i
    ·exact absurd ⟨j,hj,ZL,aU⟩ hx
    ·omega
 exact key _ i rfl hi hp
theorem ub:∀(S T:List Nat),S.Nodup→S⊆T→S.length≤T.length
 | [],_,_,_=>Nat.zero_le _
 | a::S,T,hn,hs=>by
  obtain⟨h1,h2⟩:=List.nodup_cons.1 hn;have ha:a∈T:=hs List.mem_cons_self;have:=ub S (T.erase a) h2 (fun x hx=>by
   have aY:x≠a:=fun e=>by subst e;exact h1 hx
   exact(List.mem_erase_of_ne aY).2 (hs (List.mem_cons_of_mem _ hx)))
  rw[List.length_erase_of_mem ha] at this;have oV:0<T.length:=List.length_pos_of_mem ha;simp only[List.length_cons];omega
theorem Vr{m:Region.Mode}{ops:Array Oper}{rk:Nat→Nat}(hr:lB m ops rk=true)(hm:∀e,always e=true→Region.binds m e=true):
  ∀(fuel t:Nat) (listed:Array Bool) (acc S:List Nat),listed.size=ops.size→(∀i,i<ops.size→(listed.getD i true=true↔i∈S))→S.length+fuel=ops.size→S.Nodup→(∀i∈S,i<ops.size)→
   ∃l,Region.linearise.go m ops fuel t listed acc=acc.reverse++l∧HV ops S l:=by
 intro fuel
 induction fuel with
 | zero=>
  intro t listed acc S hs hl hf fZ aU;refine⟨[],by simp[Region.linearise.go],.nil fun i hi=>?_⟩
  -- S holds ops.size Yr numbers below ops.size
  have jw:∀(n:Nat) (S:List Nat),S.Nodup→(∀i∈S,i<n)→S.length=n→∀i,i<n→i∈S:=by
   intro n
   induction n with
   | zero=>intro S _ _ _ i hi;omega
   | succ n ihn=>
    intro S fZ aU hlen i hi
    by_cases gm:n∈S
    ·by_cases mD:i=n
     ·subst mD;exact gm
     ·have QQ:(S.erase n).length=n:=by rw[List.length_erase_of_mem gm];omega
      have:=ihn (S.erase n) (fZ.erase n) (fun j hj=>by
       have h1:=aU j (List.mem_of_mem_erase hj);have h2:j≠n:=fun e=>by subst e;exact(List.Nodup.not_mem_erase fZ) hj
       omega) QQ i (by omega)
      exact List.mem_of_mem_erase this
    ·exfalso
     have KW:∀j∈S,j<n:=fun j hj=>by
      have h1:=aU j hj;have h2:j≠n:=fun e=>by subst e;exact gm hj
      omega
     have:S.length≤n:=by
      have gB:S⊆List.range n:=fun j hj=>List.mem_range.2 (KW j hj);have:=ub _ _ fZ gB
      simpa using this
     omega
  exact jw ops.size S fZ aU (by omega) i hi
 | succ fuel ih=>
  intro t listed acc S hs hl hf fZ aU;simp only[Region.linearise.go];generalize U0:(List.range ops.size).filter (fun i=>!listed.getD i true&&((ops[i]?).map (·.after.all fun e=>!Region.binds m e||listed.getD e.on false)).getD false)=rs
  -- some operation is free
  have aY:rs≠[]:=by
   have hex:∃i,i<ops.size∧(!listed.getD i true)=true:=by
    have XA:¬∀i,i<ops.size→i∈S:=by
     intro cz;have:ops.size≤S.length:=by
      have gB:List.range ops.size⊆S:=fun j hj=>cz j (List.mem_range.1 hj);have:=ub _ _ List.nodup_range gB
      simpa using this
     omega
    simp only[Classical.not_forall] at XA;obtain⟨i,hi,gr⟩:=XA;refine⟨i,hi,?_⟩;have:=mt (hl i hi).1 gr
    simpa using this
   obtain⟨i,hi,hp,Gm⟩:=FV rk hex;have gm:i∈rs:=by
    rw[←U0];refine List.mem_filter.2 ⟨List.mem_range.2 hi,?_⟩;rw[hp,Bool.true_and];have Gq:ops[i]?=some ops[i]:=Array.getElem?_eq_getElem hi;rw[Gq];simp only[Option.map_some,Option.getD_some];rw[←Array.all_toList];refine List.all_eq_true.2 fun e he=>?_;have No:=List.all_eq_true.1 hr i (List.mem_range.2 hi);rw[Gq] at No;have vk:=List.all_eq_true.1 No e he;cases hb:Region.binds m e with
    | false=>rfl
    | true=>
     rw[hb] at vk;simp only[Bool.not_true,Bool.false_or,Bool.and_eq_true,decide_eq_true_eq] at vk;simp only[Bool.not_true,Bool.false_or]
     by_cases hle:listed.getD e.on true=true
     ·have:e.on<listed.size:=by omega
      simp only[Array.getD,this,dif_pos] at hle ⊢;exact hle
     ·have:=Gm e.on vk.2 (by simpa using hle);omega
   intro h0;rw[h0] at gm;cases gm
  have oV:0<rs.length:=List.length_pos_iff.2 aY;have KW:t % rs.length<rs.length:=Nat.mod_lt _ oV;rw[List.getElem?_eq_getElem KW];simp only;have gm:=List.getElem_mem KW;generalize rs[t % rs.length]=i at gm;rw[←U0] at gm;obtain⟨hi,zM⟩:=List.mem_filter.1 gm;have hi:=List.mem_range.1 hi;simp only[Bool.and_eq_true,Bool.not_eq_true'] at zM;have gr:i∉S:=fun h=>by
   have:=(hl i hi).2 h;rw[zM.1] at this;cases this
  have Gq:ops[i]?=some ops[i]:=Array.getElem?_eq_getElem hi;have Zd:∀j∈dT ops i,j∈S:=by
   intro j hj;unfold dT at hj;rw[Gq] at hj;obtain⟨e,he,rfl⟩:=List.mem_map.1 hj;obtain⟨he,ha⟩:=List.mem_filter.1 he;have h2:=zM.2;rw[Gq] at h2;simp only[Option.map_some,Option.getD_some] at h2;rw[←Array.all_toList] at h2;have h3:=List.all_eq_true.1 h2 e he;rw[hm e ha] at h3;simp only[Bool.not_true,Bool.false_or] at h3
   by_cases vi:e.on<listed.size
   ·refine(hl e.on (by omega)).1 ?_;simp only[Array.getD,vi,dif_pos] at h3 ⊢;exact h3
   ·simp only[Array.getD,vi,dif_neg,not_false_eq_true] at h3;cases h3
  obtain⟨l,h1,h2⟩:=ih (t / rs.length) (listed.setIfInBounds i true) (i::acc) (i::S) (by simpa using hs) (fun j hj=>by
   by_cases lJ:j=i
   ·subst lJ;have:j<listed.size:=by omega
    simp[Array.getD,this]
   ·have:=hl j hj;have e:(listed.setIfInBounds i true).getD j true=listed.getD j true:=by
     rw[Array.getD_eq_getD_getElem?,Array.getD_eq_getD_getElem?,Array.getElem?_setIfInBounds_ne (Ne.symm lJ)]
    rw[e,this];simp[lJ]) (by simp;omega) (List.nodup_cons.2 ⟨gr,fZ⟩) (fun j hj=>by
   rcases List.mem_cons.1 hj with rfl | hj
   ·exact hi
   ·exact aU j hj)
  refine⟨i::l,?_,.cons hi gr Zd h2⟩;rw[h1];simp
theorem mX{m:Region.Mode}{ops:Array Oper}{rk:Nat→Nat}(hr:lB m ops rk=true)(hm:∀e,always e=true→Region.binds m e=true)(t:Nat):HV ops [] (Region.linearise m ops t):=by
 obtain⟨l,h1,h2⟩:=Vr hr hm ops.size t (Array.replicate ops.size false) [] [] (by simp) (fun i hi=>by simp[Array.getD,hi]) (by simp) List.nodup_nil (by simp);unfold Region.linearise;rw[h1]
 simpa using h2
theorem nY{m:Region.Mode}{e:Edge}(h:always e=true):Region.binds m e=true:=by
 cases hg:e.ground <;> simp only[always,hg,Bool.false_eq_true] at h <;> simp only[Region.binds,hg]
theorem BJ{mixed:Bool}{ops:Array Oper}{r1 r2 r3:Nat→Nat}(h1:lB .any ops r1=true)(h2:lB .text ops r2=true)(h3:lB .gc ops r3=true)(t:Nat):HV ops [] (Region.schedule mixed ops t):=by
 unfold Region.schedule
 split
 ·exact mX h1 (fun _ h=>nY h) t
 ·split
  ·exact mX h2 (fun _ h=>nY h) _
  ·exact mX h3 (fun _ h=>nY h) _
def cq(ops:Array Oper)(k:Nat):Option Nat:=(ops[k]?).bind (·.dst)
def fP(ops:Array Oper):Bool:=(List.range ops.size).all fun i=>(List.range ops.size).all fun j=>i==j||(cq ops i).isNone||!(cq ops i==cq ops j)
def Pk{P:Program}(X:ax P)(op:Op)(T:Array Value)(v:Value):Prop:=∃t x a,op=.load t x∧eV P t=some false∧ev T x=.pointer (some a)∧X.pk a v
def Yld{P:Program}(X:ax P)(ops:Array Oper)(T:Array Value)(L:LH)(o:Oper)(v:Value):Prop:=
 (Region.wanted o (yielded ops T)=true∧fS o.op=false∧aR P o.op o.type T L v)∨(Region.wanted o (yielded ops T)=false∧v=undef)∨(Region.wanted o (yielded ops T)=true∧Pk X o.op T v)
def Mb{P:Program}(X:ax P)(fr:Frame)(L:LH)(Q:Value→LH→Prop):Prop:=
 ∀(c:Frame) (cs:List Frame),(∀v L',Q v L'→X.Go (G (c.finish v) cs) L')→X.Go (G fr (c::cs)) L
theorem Mb.mono{P:Program}{X:ax P}{fr:Frame}{L:LH}{Q Q':Value→LH→Prop}(h:Mb X fr L Q)(hq:∀v L',Q v L'→Q' v L'):Mb X fr L Q':=fun c cs h1=>h c cs fun v L' x=>h1 v L' (hq v L' x)
def BQ{P:Program}(X:ax P)(o:Oper)(T:Array Value)(L:LH)(K:Value→LH→Prop):Prop:=
 fS o.op=false∧az P (fun nx L'=>match nx with
  | .value v=>K v L'
  | .skip=>K undef L'
  | .enter g args=>∃Q:Value→LH→Prop,Fn X g args L' Q∧∀v g9,Q v g9→K v g9
  | .round l g tmps jP body=>∃Q:Value→LH→Prop,Mb X (Frame.round l g tmps jP body .normal) L' Q∧∀v g9,Q v g9→K v g9
  | _=>False) (fun _ _=>False) (execOp (ev T) o) L
section
variable {P:Program}{X:ax P}{ops:Array Oper}{T0:Array Value}{R:LH→LH→Prop}{fin:Array Value→LH→Prop}
variable {f:FuncId}{k:List Item}{ds:List Deferred}{kd:CallKind}{ro:Option Nat}{cs:List Frame}
theorem rp{t:TypeId}{T:Array Value}{x:Operand}{a:Addr}{v:Value}{w:World}{o:Oper}(aZ:o.op=.load t x)(ht:eV P t=some false)(hp:ev T x=.pointer (some a))(hc:w.cell? a=some v):
  (execOp (ev T) o).runT P w #[]=(.ok (.value v) w,#[⟨.cell a,false,false⟩]):=by
 obtain⟨d,hu,hd⟩:∃d,P.underlying t=some d∧OT d=false:=by
  unfold eV at ht;cases hu:P.underlying t with
  | none=>rw[hu] at ht;cases ht
  | some d=>rw[hu] at ht;exact⟨d,rfl,by simpa using ht⟩
 have h0:∀es,(underlying t).runT P w es=(.ok d w,es):=by
  intro es;unfold underlying;refine(Sem.runT_bind' P _ _ w es).trans ?_;rw[show(program:Sem Program).runT P w es=(.ok P w,es) from rfl];simp only[hu]
  rfl
 have h1:∀es,(isAgg t).runT P w es=(.ok false w,es):=by
  intro es;unfold isAgg;refine(Sem.runT_bind' P _ _ w es).trans ?_;rw[h0];cases d <;> first | (cases hd;done) | rfl
 have h2:∀es,(load a).runT P w es=(.ok v w,es.push ⟨.cell a,false,false⟩):=by
  intro es;show(Sem.load .plain a .pure).runT P w es=_;unfold Sem.runT;simp only[hc]
  rfl
 have h3:∀es,(loadVar t a).runT P w es=(.ok v w,es.push ⟨.cell a,false,false⟩):=by
  intro es;unfold loadVar;refine(Sem.runT_bind' P _ _ w es).trans ?_;rw[h1];exact h2 es
 obtain⟨dst,op,ty,pos,af,gd⟩:=o;simp only at aZ;subst aZ;simp only[execOp,hp,Instr.loadAt,Instr.sureAddr];refine(Sem.runT_bind' P _ _ w #[]).trans ?_;rw[show Sem.runT P (do let y ←pure a;loadVar t y) w #[]=(.ok v w,#[⟨.cell a,false,false⟩]) from h3 #[]]
 rfl
theorem ax.Ll{i:Nat}{rest:List Nat}{T:Array Value}{L:LH}{o:Oper}{v:Value}(hy:Pk X o.op T v)(ho:ops[i]?=some o)(hw:Region.wanted o (yielded ops T)=true)
  (h:X.Go (G ((Fr f T (.inRegion ops (i::rest)::k) ds .run kd ro).finish v) cs) L):X.Go (G (Fr f T (.inRegion ops (i::rest)::k) ds .run kd ro) cs) L:=by
 obtain⟨t,x,a,aZ,ht,hp,UY⟩:=hy;refine X.sP _ _ L a v (seen P f (if kd==.early then#[] else#[⟨.cell a,false,false⟩])) UY rfl (fun e he=>?_) (fun w hc=>?_) h
 ·have:=mL _ _ _ e he
  split at this
  ·simp at this
  ·simpa using this
 ·have hr:=rp aZ ht hp hc;have key:stepG.apply P true (Fr f T (.inRegion ops (i::rest)::k) ds .run kd ro) cs none (execOp (ev T) o) w=.go (G ((Fr f T (.inRegion ops (i::rest)::k) ds .run kd ro).finish v) cs) w (seen P f (if kd==.early then#[] else#[⟨.cell a,false,false⟩])):=by
   unfold stepG.apply;simp only[hr,if_true,ig,Array.append_empty]
   rfl
  rw[←key,←qO f T (.inRegion ops (i::rest)::k) ds .run kd ro];unfold Fr;cases ro with
  | none=>simp[G,stepG,stepG.exec,stepG.oper,Frame.oper?,ho,hw]
  | some l=>
   simp only[G,stepG,stepG.exec,stepG.oper,Frame.oper?,ho,hw,Option.map_some,Option.getD_some,if_true];rw[aZ]
theorem MT{i:Nat}{l:List Nat}{T:Array Value}{L:LH}{o:Oper}{v:Value}(ho:ops[i]?=some o)(hy:Yld X ops T L o v)
  (h:∀T',(match o.dst with | some d=>d<T.size→TN T T' d v | none=>T'=T)→X.Go (G (Fr f T' (.inRegion ops l::k) ds .run kd ro) cs) L):X.Go (G (Fr f T (.inRegion ops (i::l)::k) ds .run kd ro) cs) L:=by
 have key:∀v',v'=v→X.Go (G ((Fr f T (.inRegion ops (i::l)::k) ds .run kd ro).finish v') cs) L:=by
  rintro v' rfl;cases hd:o.dst with
  | none=>rw[pF ho hd];exact h T (by rw[hd])
  | some d=>rw[mq ho hd];exact h _ (by rw[hd];exact fun hz=>rE _ hz)
 rcases hy with⟨hw,fF,hv⟩ | ⟨hw,rfl⟩ | ⟨hw,hv⟩
 ·refine X.op ho hw (.inr fun c hc=>by rw[hc] at fF;cases fF) ?_;obtain⟨dst,op,ty,pos,af,gd⟩:=o;exact hv _ _ _ _ _ _ (key _ rfl)
 ·refine X.unwanted ?_ (key _ rfl);rw[ho]
  simpa using hw
 ·exact X.Ll hv ho hw (key _ rfl)
end
def rL(ops:Array Oper)(n:Nat):Bool:=(List.range ops.size).all fun i=>match cq ops i with | some d=>decide (d<n) | none=>true
section
variable {P:Program}{X:ax P}
end
theorem bY{l:List Value}(h:l.all single=true):∀u∈l,single u=true:=fun u hu=>List.all_eq_true.1 h u hu
section
variable {P:Program}{X:ax P}{T:Array Value}{L:LH}{t ty:TypeId}{x y:Operand}{v:Value}
end
inductive SV where
 | v (x:Value)
 | p (k off:Nat)
 | a (l:List SV)
 | f (fn:Go.Fn) (first Kw:List SV)
 | i (t:TypeId) (x:SV)
 | lit (b:Bool)
 | sl (k off len cap:Nat)
abbrev Nm:=Nat→Option Nat
def dr:Nm:=fun _=>none
mutual
def den(β:Nm):SV→Option Value
 | .v x=>some x
 | .p k off=>match β k with | some b=>some (.pointer (some ⟨b,off,none⟩)) | none=>none
 | .a l=>match bC β l with | some vs=>some (.agg vs.toArray) | none=>none
 | .f fn f1 f2=>match bC β f1,bC β f2 with | some a,some b=>some (.func fn a.toArray b.toArray) | _,_=>none
 | .i t x=>match den β x with | some v=>some (.iface t v) | none=>none
 | .lit b=>some (.bool b)
 | .sl k off len cap=>match β k with | some b=>some (.slice (some ⟨b,off,none⟩) len cap) | none=>none
def bC(β:Nm):List SV→Option (List Value)
 | []=>some []
 | x::l=>match den β x,bC β l with | some v,some vs=>some (v::vs) | _,_=>none
end
def uA(β γ:Nm):Prop:=∀k b,β k=some b→γ k=some b
mutual
theorem jI{β γ:Nm}(hm:uA β γ):∀{x:SV} {v:Value},den β x=some v→den γ x=some v
 | .v x,v,h=>h
 | .p k off,v,h=>by
  unfold den at h ⊢;cases hk:β k with
  | none=>rw[hk] at h;cases h
  | some c=>rw[hk] at h;rw[hm k c hk];exact h
 | .a l,v,h=>by
  unfold den at h ⊢;cases hl:bC β l with
  | none=>rw[hl] at h;cases h
  | some vs=>rw[hl] at h;rw[jr hm hl];exact h
 | .f fn f1 f2,v,h=>by
  unfold den at h ⊢;cases h1:bC β f1 with
  | none=>rw[h1] at h;cases h
  | some vs1=>
   cases h2:bC β f2 with
   | none=>rw[h1,h2] at h;cases h
   | some vs2=>rw[h1,h2] at h;rw[jr hm h1,jr hm h2];exact h
 | .i t x,v,h=>by
  unfold den at h ⊢;cases hx:den β x with
  | none=>rw[hx] at h;cases h
  | some u=>rw[hx] at h;rw[jI hm hx];exact h
 | .lit _,v,h=>h
 | .sl k off len cap,v,h=>by
  unfold den at h ⊢;cases hk:β k with
  | none=>rw[hk] at h;cases h
  | some c=>rw[hk] at h;rw[hm k c hk];exact h
theorem jr{β γ:Nm}(hm:uA β γ):∀{l:List SV} {vs:List Value},bC β l=some vs→bC γ l=some vs
 | [],vs,h=>h
 | x::l,vs,h=>by
  unfold bC at h ⊢;cases hx:den β x with
  | none=>rw[hx] at h;cases h
  | some u=>
   cases hl:bC β l with
   | none=>rw[hx,hl] at h;cases h
   | some us=>rw[hx,hl] at h;rw[jI hm hx,jr hm hl];exact h
end
theorem EC(β:Nm):uA dr β:=fun k b h=>by cases h
theorem cP{x:SV}{v:Value}(h:den dr x=some v)(β:Nm):den β x=some v:=jI (EC β) h
theorem oI{x:List SV}{v:List Value}(h:bC dr x=some v)(β:Nm):bC β x=some v:=jr (EC β) h
def Nm.set(β:Nm)(k b:Nat):Nm:=fun k'=>if k'=k then some b else β k'
theorem Nm.jK(β:Nm)(k b:Nat):β.set k b k=some b:=by simp[Nm.set]
theorem Nm.yU(β:Nm){k k':Nat}(b:Nat)(h:k'≠k):β.set k b k'=β k':=by simp[Nm.set,h]
theorem Nm.EU{β:Nm}{k:Nat}(h:β k=none)(b:Nat):uA β (β.set k b):=fun k' c hc=>by
 rw[Nm.yU β b (fun e=>by subst e;rw[h] at hc;cases hc)];exact hc
theorem gO{β:Nm}:∀{l:List SV} {vs:List Value},bC β l=some vs→vs.length=l.length
 | [],vs,h=>by cases h;rfl
 | x::l,vs,h=>by
  unfold bC at h;cases hx:den β x with
  | none=>rw[hx] at h;cases h
  | some u=>
   cases hl:bC β l with
   | none=>rw[hx,hl] at h;cases h
   | some us=>rw[hx,hl] at h;cases h;simp[gO hl]
theorem eX{β:Nm}{x:SV}{l:List SV}{vs:List Value}(h:bC β (x::l)=some vs):∃v ws,den β x=some v∧bC β l=some ws∧vs=v::ws:=by
 unfold bC at h;cases hx:den β x with
 | none=>rw[hx] at h;cases h
 | some u=>
  cases hl:bC β l with
  | none=>rw[hx,hl] at h;cases h
  | some us=>rw[hx,hl] at h;cases h;exact⟨u,us,rfl,rfl,rfl⟩
theorem dX{β:Nm}{x:SV}{l:List SV}{v:Value}{ws:List Value}(h1:den β x=some v)(h2:bC β l=some ws):bC β (x::l)=some (v::ws):=by
 unfold bC;rw[h1,h2]
def nth{α:Type}:List α→Nat→Option α
 | [],_=>none
 | x::_,0=>some x
 | _::l,n+1=>nth l n
theorem bU{α:Type}:∀(l:List α) (n:Nat),nth l n=l[n]?
 | [],_=>by simp[nth]
 | _::_,0=>by simp[nth]
 | _::l,n+1=>by simp[nth,bU l n]
theorem wh{β:Nm}:∀{l:List SV} {vs:List Value} {n:Nat} {x:SV},bC β l=some vs→nth l n=some x→∃v,den β x=some v∧vs[n]?=some v
 | [],_,_,_,_,h=>by cases h
 | x::l,vs,0,y,h,hn=>by
  cases hn;obtain⟨v,ws,h1,_,rfl⟩:=eX h;exact⟨v,h1,rfl⟩
 | x::l,vs,n+1,y,h,hn=>by
  obtain⟨v,ws,_,h2,rfl⟩:=eX h;obtain⟨u,hu,hi⟩:=wh h2 hn;exact⟨u,hu,by simpa using hi⟩
def part{α:Type}(l:List α):Nat→Nat→Option (List α)
 | _,0=>some []
 | i,n+1=>match nth l i,part l (i+1) n with | some x,some r=>some (x::r) | _,_=>none
theorem pQ{α:Type}{l:List α}:∀{n i:Nat} {r:List α},part l i n=some r→r.length=n
 | 0,_,_,h=>by cases h;rfl
 | n+1,i,r,h=>by
  unfold part at h;cases hx:nth l i with
  | none=>rw[hx] at h;cases h
  | some x=>
   cases hr:part l (i+1) n with
   | none=>rw[hx,hr] at h;cases h
   | some r'=>rw[hx,hr] at h;cases h;simp[pQ hr]
theorem tp{β:Nm}{l:List SV}{vs:List Value}(h:bC β l=some vs):∀{n i:Nat} {r:List SV},part l i n=some r→∃ws,bC β r=some ws∧∀j v,ws[j]?=some v→vs[i+j]?=some v
 | 0,i,r,hr=>by cases hr;exact⟨[],rfl,fun j v hj=>by simp at hj⟩
 | n+1,i,r,hr=>by
  unfold part at hr;cases hx:nth l i with
  | none=>rw[hx] at hr;cases hr
  | some x=>
   cases No:part l (i+1) n with
   | none=>rw[hx,No] at hr;cases hr
   | some r'=>
    rw[hx,No] at hr;cases hr;obtain⟨v,h1,h2⟩:=wh h hx;obtain⟨ws,h3,h4⟩:=tp h No;refine⟨v::ws,dX h1 h3,fun j u hj=>?_⟩;cases j with
    | zero=>simp at hj;subst hj;exact h2
    | succ j=>have:=h4 j u (by simpa using hj);rw[show i+(j+1)=i+1+j by omega];exact this
abbrev Env:=List (Nat×SV)
def get:Env→Nat→Option SV
 | [],_=>none
 | (k,x)::r,s=>match Nat.beq k s with | true=>some x | false=>get r s
theorem bD{k s:Nat}{x:SV}{r:Env}:get ((k,x)::r) s=if k=s then some x else get r s:=by
 show(match Nat.beq k s with | true=>some x | false=>get r s)=_
 by_cases h:k=s
 ·subst h;simp
 ·have:Nat.beq k s=false:=by
   cases hb:Nat.beq k s
   ·rfl
   ·exact absurd (Nat.eq_of_beq_eq_true hb) h
  rw[this,if_neg h]
def svC:Value→SV
 | .bool b=>.lit b
 | x=>.v x
theorem FF(β:Nm)(x:Value):den β (svC x)=some x:=by cases x <;> rfl
abbrev a8:=Nat→Option SV
def aL(E:a8):Operand→Option SV
 | .tmp t=>E t
 | .const v=>some (svC v)
 | .global g=>some (.v (.pointer (some ⟨g,0,none⟩)))
 | .func f=>some (.f (.func f) [] [])
def uL(E:a8):List Operand→Option (List SV)
 | []=>some []
 | x::l=>match aL E x,uL E l with | some v,some vs=>some (v::vs) | _,_=>none
def aH(β:Nm)(E:a8)(T:Array Value):Prop:=∀s x,E s=some x→den β x=some (T.getD s undef)
theorem aH.val{β:Nm}{E:a8}{T:Array Value}(h:aH β E T){x:Operand}{sv:SV}(hx:aL E x=some sv):den β sv=some (ev T x):=by
 cases x with
 | tmp t=>exact h t sv hx
 | const v=>cases hx;exact FF β v
 | global g=>cases hx;rfl
 | func f=>cases hx;rfl
theorem aH.LO{β:Nm}{E:a8}{T:Array Value}(h:aH β E T):∀{xs:List Operand} {jl:List SV},uL E xs=some jl→bC β jl=some (xs.map (ev T))
 | [],jl,hx=>by cases hx;rfl
 | x::xs,jl,hx=>by
  unfold uL at hx;cases h1:aL E x with
  | none=>rw[h1] at hx;cases hx
  | some u=>
   cases h2:uL E xs with
   | none=>rw[h1,h2] at hx;cases hx
   | some us=>rw[h1,h2] at hx;cases hx;exact dX (h.val h1) (h.LO h2)
theorem aH.mono{β γ:Nm}{E:a8}{T:Array Value}(h:aH β E T)(hm:uA β γ):aH γ E T:=fun s x hx=>jI hm (h s x hx)
theorem aH.set{β:Nm}{E:Env}{T T':Array Value}(h:aH β (get E) T){d:Nat}{sv:SV}{v:Value}(hd:den β sv=some v)(u:TN T T' d v):aH β (get ((d,sv)::E)) T':=by
 intro s x hx;rw[bD] at hx
 by_cases e:d=s
 ·subst e;rw[if_pos rfl] at hx;cases hx;rw[u.same];exact hd
 ·rw[if_neg e] at hx;rw[u.other s (by simpa using Ne.symm e)];exact h s x hx
inductive TD where
 | slice (e:TypeId)
 | arr (n:Nat) (e:TypeId)
 | str (fs:List (Nat×TypeId))
 | int (k:IntKind)
 | bool
 | ptr (e:TypeId)
 | iface
 | text
 | other
structure TI where
 agg:Bool
 size:Nat
 bytes:Nat
 z:Value
 d:TD
inductive TT where
 | nil
 | node (l:TT) (k:Nat) (i:TI) (r:TT)
def TT.find:TT→Nat→Option TI
 | .nil,_=>none
 | .node l k i r,t=>match Nat.beq k t with | true=>some i | false=>match Nat.blt t k with | true=>l.find t | false=>r.find t
def vP(P:Program)(t:TypeId):TD→Prop
 | .slice e=>P.underlying t=some (.slice e)
 | .arr n e=>P.underlying t=some (.array n e)
 | .str fs=>∃gs:Array Field,P.underlying t=some (.struct gs)∧gs.toList.map (fun g=>(g.offset,g.type))=fs
 | .int k=>P.underlying t=some (.int k)
 | .bool=>P.underlying t=some .bool
 | .ptr e=>P.underlying t=some (.pointer e)
 | .iface=>∃ms,P.underlying t=some (.interface ms)
 | .text=>P.underlying t=some .string
 | .other=>∃d,P.underlying t=some d∧(∀ms,d≠.interface ms)
structure zc(P:Program)(t:TypeId)(i:TI):Prop where
 agg:eV P t=some i.agg
 size:(P.info? t).map (·.size)=some i.size
 bytes:(P.info? t).map (·.bytes)=some i.bytes
 zero:(P.info? t).bind (·.zero)=some i.z
 d:vP P t i.d
def TT.Ok(P:Program):TT→Prop
 | .nil=>True
 | .node l k i r=>l.Ok P∧zc P k i∧r.Ok P
theorem TT.aD{P:Program}:∀{τ:TT} {t:TypeId} {i:TI},τ.Ok P→τ.find t=some i→zc P t i
 | .nil,_,_,_,h=>by cases h
 | .node l k i r,t,j,ho,h=>by
  unfold TT.find at h;cases hb:Nat.beq k t with
  | true=>
   rw[hb] at h;cases h;obtain rfl:=Nat.eq_of_beq_eq_true hb;exact ho.2.1
  | false=>
   rw[hb] at h;simp only at h;cases hc:Nat.blt t k with
   | true=>rw[hc] at h;exact TT.aD ho.1 h
   | false=>rw[hc] at h;exact TT.aD ho.2.2 h
theorem zc.und{P:Program}{t:TypeId}{i:TI}(h:zc P t i):∃d,P.underlying t=some d:=by
 have:=h.agg;unfold eV at this;cases hu:P.underlying t with
 | none=>rw[hu] at this;cases this
 | some d=>exact⟨d,rfl⟩
def TD.B0:TD→Bool
 | .iface=>false
 | _=>true
theorem zc.B0{P:Program}{t:TypeId}{i:TI}(h:zc P t i)(hc:i.d.B0=true):∃d,P.underlying t=some d∧∀ms,d≠.interface ms:=by
 have:=h.d
 revert hc this
 cases i.d <;> intro hc hd <;> simp only[vP] at hd <;> first
  | (exact hd)
  | (exact⟨_,hd,fun _ e=>by cases e⟩)
  | (obtain⟨gs,h1,_⟩:=hd;exact⟨_,h1,fun _ e=>by cases e⟩)
  | cases hc
structure Bx where
 cells:List SV
 ty:TypeId
structure aF(L0 R0:LH)(β:Nm)(B:List (Option Bx))(L R:LH):Prop where
 inj:∀(k k' b:Nat),β k=some b→β k'=some b→k=k'
 dm:∀(k b:Nat),β k=some b→k<B.length
 al:∀(k b:Nat),β k=some b→R b≠none
 box:∀(k b:Nat) (x:Bx),β k=some b→B[k]?=some (some x)→L b=none∧R0 b=none∧∃cs,bC β x.cells=some cs∧R b=some (.cells cs.toArray x.ty (0,0),true)
 le:Le L R
 keep:∀b x,L0 b=none→R0 b=some x→R b=some x
 fresh:∀b,L b≠none→L0 b≠none∨R0 b=none
 gP:∀b,L0 b≠none→L b≠none
theorem aF.free{L0 R0:LH}{β:Nm}{B:List (Option Bx)}{L R:LH}(h:aF L0 R0 β B L R){b:Nat}(hb:R b=none):L b=none∧R0 b=none:=by
 have hL:L b=none:=aP h.le hb;refine⟨hL,?_⟩;cases hx:R0 b with
 | none=>rfl
 | some x=>
  cases hy:L0 b with
  | none=>rw[h.keep b x hy hx] at hb;cases hb
  | some y=>exact absurd hL (h.gP b (by rw[hy];simp))
theorem aF.name{L0 R0:LH}{β:Nm}{B:List (Option Bx)}{L R:LH}(h:aF L0 R0 β B L R){b k:Nat}(hb:R b=none){x:Bx}{cs:List Value}(hk:β k=none)(hx:B[k]?=some (some x))(hc:bC β x.cells=some cs):aF L0 R0 (β.set k b) B L (R.put b (.cells cs.toArray x.ty)):=by
 obtain⟨h1,h2⟩:=h.free hb;have hm:=Nm.EU hk b;have old:∀k' c,β.set k b k'=some c→(k'=k∧c=b)∨(β k'=some c∧c≠b):=fun k' c hc=>by
  by_cases e:k'=k
  ·subst e;rw[Nm.jK] at hc;cases hc;exact .inl ⟨rfl,rfl⟩
  ·rw[Nm.yU β b e] at hc;exact .inr ⟨hc,fun e'=>by subst e';exact h.al k' c hc hb⟩
 refine⟨fun k1 k2 c e1 e2=>?_,fun k' c e=>?_,fun k' c e=>?_,fun k' c y e hy=>?_,?_,?_,h.fresh,h.gP⟩
 ·rcases old k1 c e1 with⟨a1,a2⟩ | ⟨a1,a2⟩ <;> rcases old k2 c e2 with⟨b1,b2⟩ | ⟨b1,b2⟩
  ·rw[a1,b1]
  ·exact absurd a2 b2
  ·exact absurd b2 a2
  ·exact h.inj _ _ _ a1 b1
 ·rcases old k' c e with⟨a1,_⟩ | ⟨a1,_⟩
  ·subst a1;exact(List.getElem?_eq_some_iff.1 hx).1
  ·exact h.dm _ _ a1
 ·rcases old k' c e with⟨_,a2⟩ | ⟨a1,a2⟩
  ·subst a2;rw[aj];simp
  ·rw[au _ _ a2];exact h.al _ _ a1
 ·rcases old k' c e with⟨a1,a2⟩ | ⟨a1,a2⟩
  ·subst a1 a2;rw[hx] at hy;cases hy;exact⟨h1,h2,cs,jr hm hc,aj _ _ _⟩
  ·obtain⟨e1,e2,iY,e3,e4⟩:=h.box k' c y a1 hy;exact⟨e1,e2,iY,jr hm e3,by rw[au _ _ a2];exact e4⟩
 ·exact h.le.trans (Le.put hb _)
 ·intro b' y e1 e2;rw[au _ _ (fun e=>by subst e;rw[h2] at e2;cases e2)];exact h.keep b' y e1 e2
theorem aF.more{L0 R0:LH}{β:Nm}{B:List (Option Bx)}{L R:LH}(h:aF L0 R0 β B L R)(x:Bx):aF L0 R0 β (B++[some x]) L R∧β B.length=none:=by
 have hn:β B.length=none:=by
  cases hx:β B.length with
  | none=>rfl
  | some b=>exact absurd (h.dm _ _ hx) (Nat.lt_irrefl _)
 refine⟨⟨h.inj,fun k b hk=>by have:=h.dm k b hk;simp;omega,h.al,fun k b y hk hy=>?_,h.le,h.keep,h.fresh,h.gP⟩,hn⟩;rw[List.getElem?_append_left (h.dm k b hk)] at hy;exact h.box k b y hk hy
theorem aF.new{L0 R0:LH}{β:Nm}{B:List (Option Bx)}{L R:LH}(h:aF L0 R0 β B L R){b:Nat}(hb:R b=none){x:Bx}{cs:List Value}(hc:bC β x.cells=some cs):aF L0 R0 (β.set B.length b) (B++[some x]) L (R.put b (.cells cs.toArray x.ty)):=
 let⟨h1,h2⟩:=h.more x;h1.name hb h2 (by simp) hc
theorem aF.vw{L0 R0:LH}{β:Nm}{B:List (Option Bx)}{L R:LH}(h:aF L0 R0 β B L R){b:Nat}(hb:R b=none)(o:Obj):aF L0 R0 β B (L.put b o) (R.put b o):=by
 obtain⟨h1,h2⟩:=h.free hb;refine⟨h.inj,h.dm,fun k c hk=>?_,?_,?_,?_,?_,?_⟩
 ·rw[au _ _ (fun e=>h.al k c hk (by rw[e];exact hb))];exact h.al k c hk
 ·intro k b' y hk hy;obtain⟨e1,e2,iY,e3,e4⟩:=h.box k b' y hk hy;have aY:b'≠b:=fun e=>by subst e;rw[e4] at hb;cases hb
  exact⟨by rw[au _ _ aY];exact e1,e2,iY,e3,by rw[au _ _ aY];exact e4⟩
 ·intro b' x hx
  by_cases e:b'=b
  ·subst e;rw[aj] at hx ⊢;exact hx
  ·rw[au _ _ e] at hx ⊢;exact h.le _ _ hx
 ·intro b' y e1 e2;rw[au _ _ (fun e=>by subst e;rw[h2] at e2;cases e2)];exact h.keep b' y e1 e2
 ·intro b' bG
  by_cases e:b'=b
  ·subst e;exact .inr h2
  ·rw[au _ _ e] at bG;exact h.fresh b' bG
 ·intro b' bG
  by_cases e:b'=b
  ·subst e;rw[aj];simp
  ·rw[au _ _ e];exact h.gP b' bG
theorem aF.m9{L0 R0:LH}{β:Nm}{B:List (Option Bx)}{L R R':LH}(h:aF L0 R0 β B L R){b:Nat}{o' o:Obj}(hb:L b=some (o',true))(h1:R' b=some (o,true))(h2:∀b',b'≠b→R' b'=R b'):aF L0 R0 β B (L.put b o) R':=by
 refine⟨h.inj,h.dm,fun k c hk=>?_,?_,?_,?_,?_,?_⟩
 ·by_cases e:c=b
  ·subst e;rw[h1];simp
  ·rw[h2 _ e];exact h.al k c hk
 ·intro k b' y hk hy;obtain⟨e1,e2,iY,e3,e4⟩:=h.box k b' y hk hy;have aY:b'≠b:=fun e=>by subst e;rw[e1] at hb;cases hb
  exact⟨by rw[au _ _ aY];exact e1,e2,iY,e3,by rw[h2 _ aY];exact e4⟩
 ·intro b' x hx
  by_cases e:b'=b
  ·subst e;rw[aj] at hx;rw[h1];exact hx
  ·rw[au _ _ e] at hx;rw[h2 _ e];exact h.le _ _ hx
 ·intro b' y e1 e2;have aY:b'≠b:=fun e=>by
   subst e;have:=h.fresh b' (by rw[hb];simp);rcases this with e | e
   ·exact e e1
   ·rw[e] at e2;cases e2
  rw[h2 _ aY];exact h.keep b' y e1 e2
 ·intro b' bG
  by_cases e:b'=b
  ·subst e;exact h.fresh b' (by rw[hb];simp)
  ·rw[au _ _ e] at bG;exact h.fresh b' bG
 ·intro b' bG
  by_cases e:b'=b
  ·subst e;rw[aj];simp
  ·rw[au _ _ e];exact h.gP b' bG
theorem aF.vG{L0 R0:LH}{β:Nm}{B:List (Option Bx)}{L R R':LH}(h:aF L0 R0 β B L R){k b:Nat}{x:Bx}{cells:List SV}{cs:List Value}(hk:β k=some b)(hx:B[k]?=some (some x))(hc:bC β cells=some cs)
  (h1:R' b=some (.cells cs.toArray x.ty (0,0),true))(h2:∀b',b'≠b→R' b'=R b'):aF L0 R0 β (B.set k (some ⟨cells,x.ty⟩)) L R':=by
 obtain⟨g1,g2,_⟩:=h.box k b x hk hx;refine⟨h.inj,fun k' c e=>by simpa using h.dm k' c e,fun k' c gq=>?_,?_,?_,?_,h.fresh,h.gP⟩
 ·by_cases e:c=b
  ·subst e;rw[h1];simp
  ·rw[h2 _ e];exact h.al k' c gq
 ·intro k' b' y gq hy
  by_cases e:k'=k
  ·subst e;rw[hk] at gq;cases gq;rw[List.getElem?_set_self (List.getElem?_eq_some_iff.1 hx).1] at hy;cases hy;exact⟨g1,g2,cs,hc,h1⟩
  ·rw[List.getElem?_set_ne (Ne.symm e)] at hy;obtain⟨e1,e2,iY,e3,e4⟩:=h.box k' b' y gq hy;have aY:b'≠b:=fun eq=>by subst eq;exact e (h.inj _ _ _ gq hk)
   exact⟨e1,e2,iY,e3,by rw[h2 _ aY];exact e4⟩
 ·intro b' y hy;have aY:b'≠b:=fun eq=>by subst eq;rw[g1] at hy;cases hy
  rw[h2 _ aY];exact h.le _ _ hy
 ·intro b' y e1 e2;have aY:b'≠b:=fun eq=>by subst eq;rw[g2] at e2;cases e2
  rw[h2 _ aY];exact h.keep b' y e1 e2
theorem aF.cw{L0 R0:LH}{β:Nm}{B:List (Option Bx)}{L R:LH}(h:aF L0 R0 β B L R){k b:Nat}{x:Bx}{cs:List Value}(hk:β k=some b)(hx:B[k]?=some (some x))(hc:bC dr x.cells=some cs):
  L b=none∧aF L0 R0 β (B.set k none) (L.put b (.cells cs.toArray x.ty)) R:=by
 obtain⟨g1,g2,iY,g3,g4⟩:=h.box k b x hk hx;rw[oI hc β] at g3;cases g3;refine⟨g1,h.inj,fun k' c e=>by simpa using h.dm k' c e,h.al,?_,?_,h.keep,?_,?_⟩
 ·intro k' b' y gq hy
  by_cases e:k'=k
  ·subst e;rw[List.getElem?_set_self (List.getElem?_eq_some_iff.1 hx).1] at hy;cases hy
  ·rw[List.getElem?_set_ne (Ne.symm e)] at hy;obtain⟨e1,e2,iY,e3,e4⟩:=h.box k' b' y gq hy;have aY:b'≠b:=fun eq=>by subst eq;exact e (h.inj _ _ _ gq hk)
   exact⟨by rw[au _ _ aY];exact e1,e2,iY,e3,e4⟩
 ·intro b' y hy
  by_cases e:b'=b
  ·subst e;rw[aj] at hy;cases hy;exact g4
  ·rw[au _ _ e] at hy;exact h.le _ _ hy
 ·intro b' bG
  by_cases e:b'=b
  ·subst e;exact .inr g2
  ·rw[au _ _ e] at bG;exact h.fresh b' bG
 ·intro b' bG
  by_cases e:b'=b
  ·subst e;rw[aj];simp
  ·rw[au _ _ e];exact h.gP b' bG
def eK:SV→List SV
 | .a l=>l
 | .v x=>x.cells.toList.map .v
 | x=>[x]
theorem gK(β:Nm):∀(l:List Value),bC β (l.map .v)=some l
 | []=>rfl
 | x::l=>by rw[List.map_cons,bC,gK β l];rfl
theorem qK{β:Nm}{x:SV}{v:Value}(h:den β x=some v):bC β (eK x)=some v.cells.toList:=by
 cases x with
 | v x=>unfold den at h;cases h;unfold eK;exact gK β _
 | a l=>
  unfold den at h;cases hl:bC β l with
  | none=>rw[hl] at h;cases h
  | some vs=>rw[hl] at h;cases h;exact hl
 | p k off=>
  have hv:v.cells=#[v]:=by
   unfold den at h;split at h <;> cases h;rfl
  rw[hv];exact dX h rfl
 | f fn f1 f2=>
  have hv:v.cells=#[v]:=by
   unfold den at h;split at h <;> cases h;rfl
  rw[hv];exact dX h rfl
 | i t x=>
  have hv:v.cells=#[v]:=by
   unfold den at h;split at h <;> cases h;rfl
  rw[hv];exact dX h rfl
 | lit b=>
  have hv:v.cells=#[v]:=by
   unfold den at h;cases h;rfl
  rw[hv];exact dX h rfl
 | sl k off len cap=>
  have hv:v.cells=#[v]:=by
   unfold den at h;split at h <;> cases h;rfl
  rw[hv];exact dX h rfl
def JN:SV→Bool
 | .v x=>single x
 | .a _=>false
 | _=>true
def AH:List SV→Bool
 | []=>true
 | x::l=>match JN x with | true=>AH l | false=>false
theorem SB{β:Nm}{x:SV}{v:Value}(h:den β x=some v)(hs:JN x=true):single v=true:=by
 cases x with
 | v x=>unfold den at h;cases h;exact hs
 | a l=>cases hs
 | p k off=>unfold den at h;split at h <;> cases h;rfl
 | f fn f1 f2=>unfold den at h;split at h <;> cases h;rfl
 | i t x=>unfold den at h;split at h <;> cases h;rfl
 | lit b=>unfold den at h;cases h;rfl
 | sl k off len cap=>unfold den at h;split at h <;> cases h;rfl
theorem C5{β:Nm}:∀{l:List SV} {vs:List Value},bC β l=some vs→AH l=true→∀v∈vs,single v=true
 | [],vs,h,_,v,hv=>by cases h;cases hv
 | x::l,vs,h,hs,v,hv=>by
  obtain⟨u,us,h1,h2,rfl⟩:=eX h;unfold AH at hs;cases hx:JN x with
  | false=>rw[hx] at hs;cases hs
  | true=>
   rw[hx] at hs;rcases List.mem_cons.1 hv with rfl | hv
   ·exact SB h1 hx
   ·exact C5 h2 hs v hv
def sQ:List SV→Nat→List SV→List SV
 | [],_,_=>[]
 | _::l,0,v::vs=>v::sQ l 0 vs
 | x::l,0,[]=>x::l
 | x::l,n+1,vs=>x::sQ l n vs
def o0:List Value→Nat→List Value→List Value
 | [],_,_=>[]
 | _::l,0,v::vs=>v::o0 l 0 vs
 | x::l,0,[]=>x::l
 | x::l,n+1,vs=>x::o0 l n vs
theorem CW:∀(l:List Value) (n:Nat),o0 l n []=l
 | [],_=>rfl
 | _::_,0=>rfl
 | x::l,n+1=>by simp[o0,CW l n]
theorem Ar:∀(l:List Value) (n:Nat) (v:Value) (vs:List Value),o0 l n (v::vs)=o0 (l.set n v) (n+1) vs
 | [],_,_,_=>by simp[o0]
 | _::l,0,v,vs=>by
  simp only[o0,List.set_cons_zero]
 | x::l,n+1,v,vs=>by simp[o0,Ar l n v vs]
theorem kp:∀(vs:List Value) (c:Array Value) (n:Nat),(db c n vs).toList=o0 c.toList n vs
 | [],c,n=>by simp[db,CW]
 | v::vs,c,n=>by rw[db,kp vs,Ar,Array.toList_setIfInBounds]
theorem rK{β:Nm}:∀{l:List SV} {ls:List Value} {n:Nat} {vs:List SV} {us:List Value},bC β l=some ls→bC β vs=some us→bC β (sQ l n vs)=some (o0 ls n us)
 | [],ls,n,vs,us,h1,h2=>by cases h1;cases n <;> cases us <;> rfl
 | x::l,ls,0,[],us,h1,h2=>by
  obtain⟨w,ws,e1,e2,rfl⟩:=eX h1;cases h2;exact dX e1 e2
 | x::l,ls,0,v::vs,us,h1,h2=>by
  obtain⟨w,ws,e1,e2,rfl⟩:=eX h1;obtain⟨u,Wk,e3,e4,rfl⟩:=eX h2;exact dX e3 (rK e2 e4)
 | x::l,ls,n+1,vs,us,h1,h2=>by
  obtain⟨w,ws,e1,e2,rfl⟩:=eX h1;have:=rK (n:=n) e2 h2;cases us <;> exact dX e1 this
def tu(pl:List (Nat×Nat))(cells:List SV):List (Nat×SV)→Option (List SV)
 | []=>some cells
 | (i,sv)::rest=>
  match nth pl i with
  | none=>none
  | some (off,size)=>
   match Nat.beq (eK sv).length size,Nat.ble (off+size) cells.length with
   | true,true=>tu pl (sQ cells off (eK sv)) rest
   | _,_=>none
theorem zF(off:Nat):∀(vs:List Value) (k:Nat) (c:Array Value),(vs.zipIdx k).foldl (fun cs (x:Value×Nat)=>cs.setIfInBounds (off+x.2) x.1) c=db c (off+k) vs
 | [],k,c=>rfl
 | v::vs,k,c=>by
  simp only[List.zipIdx_cons,List.foldl_cons,db];rw[zF off vs (k+1)]
  rfl
inductive mH(β:Nm):List (Nat×SV)→List (Nat×Value)→Prop
 | nil:mH β [] []
 | cons {i:Nat} {x:SV} {v:Value} {l:List (Nat×SV)} {vs:List (Nat×Value)} (h:den β x=some v) (t:mH β l vs):mH β ((i,x)::l) ((i,v)::vs)
theorem lz{β:Nm}{pl:List (Nat×Nat)}{place:Nat→Option (Nat×Nat)}(hp:∀i y,nth pl i=some y→place i=some y):∀{ps:List (Nat×SV)} {pv:List (Nat×Value)} {cells r:List SV} {cs:List Value},mH β ps pv→bC β cells=some cs→tu pl cells ps=some r→
  ∃rs,bC β r=some rs∧Instr.fill place cs.toArray pv=some rs.toArray
 | [],_,cells,r,cs,.nil,hc,h=>by cases h;exact⟨cs,hc,rfl⟩
 | (i,sv)::ps,_,cells,r,cs,.cons (v:=v) (vs:=pv) hv ht,hc,h=>by
  unfold tu at h;unfold Instr.fill;cases hn:nth pl i with
  | none=>rw[hn] at h;cases h
  | some y=>
   obtain⟨off,size⟩:=y;rw[hp i _ hn];rw[hn] at h;simp only at h ⊢;have bW:=qK hv;have hlen:=gO bW;have adA:=gO hc;cases h1:Nat.beq (eK sv).length size with
   | false=>rw[h1] at h;cases h
   | true=>
    cases h2:Nat.ble (off+size) cells.length with
    | false=>rw[h1,h2] at h;cases h
    | true=>
     rw[h1,h2] at h;have e1:=Nat.eq_of_beq_eq_true h1;have e2:=Nat.le_of_ble_eq_true h2;have hs:v.cells.size=size:=by rw[←e1,←hlen,Array.length_toList]
     have UP:¬(v.cells.size≠size∨off+v.cells.size>cs.toArray.size):=by
      simp only[hs,ne_eq,not_true_eq_false,false_or,List.size_toArray];omega
     have ab4:(decide (v.cells.size≠size)||decide (off+v.cells.size>cs.toArray.size))=false:=by
      simp only[Bool.or_eq_false_iff,decide_eq_false_iff_not];exact not_or.1 UP
     have Zl:v.cells.zipIdx.foldl (fun cs (x:Value×Nat)=>cs.setIfInBounds (off+x.2) x.1) cs.toArray=(o0 cs off v.cells.toList).toArray:=by
      rw[←Array.foldl_toList,Array.toList_zipIdx,zF];have:=kp v.cells.toList cs.toArray (off+0);rw[List.toList_toArray,Nat.add_zero] at this;rw[Nat.add_zero,←this]
     obtain⟨rs,g1,g2⟩:=lz hp ht (rK (n:=off) hc bW) h;refine⟨rs,g1,?_⟩;rw[←g2,←Zl];simp only[ab4,Bool.false_eq_true,if_false]
theorem D3{β:Nm}{pl:List (Nat×Nat)}{place:Nat→Option (Nat×Nat)}(hp:∀i,place i=nth pl i){ps:List (Nat×SV)}{pv:List (Nat×Value)}{cells r:List SV}{cs:List Value}(h1:mH β ps pv)(h2:bC β cells=some cs)(h3:tu pl cells ps=some r):
  ∃rs,bC β r=some rs∧Instr.fill place cs.toArray pv=some rs.toArray:=lz (fun i y h=>by rw[hp i,h]) h1 h2 h3
def pR(E:a8):List (Nat×Operand)→Option (List (Nat×SV))
 | []=>some []
 | (i,x)::l=>match aL E x,pR E l with | some v,some vs=>some ((i,v)::vs) | _,_=>none
theorem nM{β:Nm}{E:a8}{T:Array Value}(h:aH β E T):∀{l:List (Nat×Operand)} {ps:List (Nat×SV)},pR E l=some ps→mH β ps (l.map fun(i,x)=>(i,ev T x))
 | [],ps,hx=>by cases hx;exact .nil
 | (i,x)::l,ps,hx=>by
  unfold pR at hx;cases h1:aL E x with
  | none=>rw[h1] at hx;cases hx
  | some u=>
   cases h2:pR E l with
   | none=>rw[h1,h2] at hx;cases hx
   | some us=>rw[h1,h2] at hx;cases hx;exact .cons (h.val h1) (nM h h2)
end Go.Mz
