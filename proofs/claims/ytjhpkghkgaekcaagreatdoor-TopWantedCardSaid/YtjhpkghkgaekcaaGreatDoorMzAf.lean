/- Lemmas for the claim. -/
import Derived.Test.YtjhpkghkgaekcaaGreatDoorMzAe
import Derived.Conc.Events
set_option linter.defProp false
set_option maxRecDepth 100000
namespace Go.Mz
open Go.Conc
variable {P:aV}{α:Type}{X:aM P}{n k m:Nat}{L R J:LH}{t e:bh}{w u:World}{h:α->List Value}{c:Int}{x:aW}{Y:Trace}{l:aH}{r:List α}{q:aU}{Q:bC}{j:aR}{D:bt}{d:bA}{g:aT}{o:bD}{K:bI}{I:cj}{H:ck}
def always(e:Edge):Bool:=match e.ground with
 | .textOnly _ | .gcOnly _=>false
 | _=>true
def iJ(ops:cU)(i:Nat):List Nat:=match ops[i]? with
 | some o=>(o.after.toList.filter always).map (·.on)
 | none=>[]
inductive U9(ops:Array Oper):List Nat->List Nat->Prop
 | nil {S:List Nat} (h:∀i,i<ops.size->i∈S):U9 ops S []
 | cons {S:List Nat} {i:Nat} {l:List Nat} (hi:i<ops.size) (hn:i∉S) (hd:∀j∈iJ ops i,j∈S) (h:U9 ops (i::S) l):U9 ops S (i::l)
def rK(m:Region.Mode)(ops:cU)(rk:bP):Bool:=
 (List.range ops.size).all λi=>match ops[i]? with
  | some o=>o.after.toList.all λe=>!Region.binds m e||(decide (rk e.on<rk i)&&decide (e.on<ops.size))
  | none=>true
def SI{p:x7}(q:bP)(h:∃i,i<n/\p i=true):∃i,i<n/\p i=true/\∀j,j<n->p j=true->q i<=q j:=by
 let⟨i,v,a⟩:=h;let z:∀k i,q i=k->i<n->p i=true->∃i,i<n/\p i=true/\∀j,j<n->p j=true->q i<=q j:=by
  intro k
  induction k using Nat.strongRecOn with
  | ind k ih=>
   intro i f v a
   by_cases u:∃j,j<n/\p j=true/\q j<q i
   .let⟨j,t,m,e⟩:=u;exact ih (q j) M j rfl t m
   .refine⟨i,v,a,λj t m=>?_⟩
    by_cases e:q j<q i
    .exact ar ⟨j,t,m,e⟩ u
    .omega
 exact z _ i rfl v a
def CO:∀(S T:aU),S.Nodup->S⊆T->S.length<=T.length
 | [],_,_,_=>fj _
 | a::S,T,hn,hs=>by
  obtain⟨q,v⟩:=List.nodup_cons.1 hn;let s:=hs fC;have:=CO S (T.erase a) v (λx u=>by
   let i:x≠a:=λe=>by subst e;exact q u
   exact(List.mem_erase_of_ne i).2 (hs (fG _ u)))
  rw[List.length_erase_of_mem s] at this;let z:=List.length_pos_of_mem s;simp[pR];omega
def aft{m:Region.Mode}{x:cU}{k:bP}(b:rK m x k=true)(hm:∀e,always e=true->Region.binds m e=true):
  ∀(d t:Nat) (listed:Array Bool) (w S:aU),listed.size=x.size->(∀i,i<x.size->(listed.getD i true=true↔i∈S))->S+d=x.size->S.Nodup->(∀i∈S,i<x.size)->
   ∃l,Region.linearise.go m x d t listed w=w.reverse++l/\U9 x S l:=by
 intro d
 induction d with
 | zero=>
  intro t listed w S hs o hf v p;refine⟨[],by simp[Region.linearise.go],.nil λi u=>?_⟩
  -- S holds x.size ahe numbers below x.size
  let H:∀(n:Nat) (S:aU),S.Nodup->(∀i∈S,i<n)->S=n->∀i,i<n->i∈S:=by
   intro n
   induction n with
   | zero=>intro S _ _ _ i u;omega
   | succ n a=>
    intro S v p u5 i u
    by_cases r:n∈S
    .by_cases c:i=n
     .subst c;exact r
     .let g:(S.erase n)=n:=by rw[List.length_erase_of_mem r];omega
      have:=a (S.erase n) (v.erase n) (λj hj=>by
       let q:=p j (List.mem_of_mem_erase hj);let z:j≠n:=λe=>by subst e;exact(List.Nodup.not_mem_erase v) hj
       omega) g i M
      exact List.mem_of_mem_erase this
    .exfalso
     let y:∀j∈S,j<n:=λj hj=>by
      let q:=p j hj;let z:j≠n:=λe=>by subst e;exact r hj
      omega
     have:S<=n:=by
      let I:S⊆List.range n:=λj hj=>fo.2 (y j hj);have:=CO _ _ v I
      simpa using this
     omega
  exact H x.size S v p M i u
 | succ d ih=>
  intro t listed w S hs o hf v p;simp only[Region.linearise.go];generalize X:(List.range x.size).filter (λi=>!listed.getD i true&&((x[i]?).map (·.after.all λe=>!Region.binds m e||listed.getD e.on false)).getD false)=D
  -- some operation is free
  let u3:D≠[]:=by
   let u4:∃i,i<x.size/\(!listed.getD i true)=true:=by
    let F:¬∀i,i<x.size->i∈S:=by
     intro C;have:x.size<=S:=by
      let I:List.range x.size⊆S:=λj hj=>C j (fo.1 hj);have:=CO _ _ List.nodup_range I
      simpa using this
     omega
    simp only[Classical.not_forall] at F;obtain⟨i,u,K⟩:=F;refine⟨i,u,?_⟩;have:=mt (o i u).1 K
    simpa using this
   obtain⟨i,u,hp,B⟩:=SI k u4;let r:i∈D:=by
    rw[<-X];refine nH.2 ⟨fo.2 u,?_⟩;rw[hp,GF];let J:x[i]?=some x[i]:=Bw u;rw[J];simp only[mg,zb];rw[<-Array.all_toList];refine mK.2 λe E=>?_;let u1:=mK.1 b i (fo.2 u);rw[J] at u1;let Q:=mK.1 u1 e E;cases hb:Region.binds m e with
    | false=>rfl
    | true=>
     rw[hb] at Q;simp only[Ci,By,nF,decide_eq_true_eq] at Q;simp only[Ci,By]
     by_cases R:listed.getD e.on true=true
     .have:e.on<listed.size:=by omega
      simp only[Array.getD,this,sC] at R ⊢;exact R
     .have:=B e.on Q.2 (by simpa using R);omega
   intro h0;rw[h0] at r;cases r
  let u2:0<D.length:=List.length_pos_iff.2 u3;let y:t % D.length<D.length:=Nat.mod_lt _ u2;rw[bX y];simp only;have r:=fY y;generalize D[t % D]=i at r;rw[<-X] at r;obtain⟨u,s⟩:=nH.1 r;have u:=fo.1 u;simp only[nF,wF] at s;have K:i∉S:=λh=>by
   have:=(o i u).2 h;rw[s.1] at this;cases this
  have J:x[i]?=some x[i]:=Bw u;have f:∀j∈iJ x i,j∈S:=by
   intro j hj;unfold iJ at hj;rw[J] at hj;obtain⟨e,E,rfl⟩:=fK.1 hj;obtain⟨E,ha⟩:=nH.1 E;have z:=s.2;rw[J] at z;simp only[mg,zb] at z;rw[<-Array.all_toList] at z;have W:=mK.1 z e E;rw[hm e ha] at W;simp only[Ci,By] at W
   by_cases G:e.on<listed.size
   .refine(o e.on M).1 ?_;simp only[Array.getD,G,sC] at W ⊢;exact W
   .simp only[Array.getD,G,dif_neg,not_false_eq_true] at W;cases W
  obtain⟨l,q,z⟩:=ih (t / D) (listed.setIfInBounds i true) (i::w) (i::S) (by simpa using hs) (λj hj=>by
   by_cases T:j=i
   .subst T;have:j<listed.size:=by omega
    simp[Array.getD,this]
   .have:=o j hj;have e:(listed.setIfInBounds i true).getD j true=listed.getD j true:=by
     rw[Ds,Ds,jI (dG T)]
    rw[e,this];simp[T]) bU (List.nodup_cons.2 ⟨K,v⟩) (λj hj=>by
   rcases eP.1 hj with rfl | hj
   .exact u
   .exact p j hj)
  refine⟨i::l,?_,.cons u K f z⟩;rw[q];simp
def uG{m:Region.Mode}{x:cU}{k:bP}(b:rK m x k=true)(o:∀e,always e=true->Region.binds m e=true)(t:Nat):U9 x [] (Region.linearise m x t):=by
 let⟨l,q,z⟩:=aft b o x.size t (Array.replicate x.size false) [] [] U (λi u=>by simp[Array.getD,u]) U List.nodup_nil U;unfold Region.linearise;rw[q]
 simpa using z
def vT{m:Region.Mode}{e:Edge}(h:always e=true):Region.binds m e=true:=by
 cases n:e.ground <;> simp[always,n,iM] at h <;> simp[Region.binds,n]
def Mv{a:Bool}{x:cU}{c j y:bP}(q:rK .any x c=true)(z:rK .text x j=true)(r:rK .gc x y=true)(t:Nat):U9 x [] (Region.schedule a x t):=by
 unfold Region.schedule
 split
 .exact uG q (λ_ h=>vT h) t
 .split
  .exact uG z (λ_ h=>vT h) _
  .exact uG r (λ_ h=>vT h) _
def ec(ops:cU)(k:Nat):Option Nat:=(ops[k]?).bind (·.dst)
def kC(ops:cU):Bool:=(List.range ops.size).all λi=>(List.range ops.size).all λj=>i==j||(ec ops i).isNone||!(ec ops i==ec ops j)
def Pk(X:aM P)(op:Op)(T:aK)(v:Value):Prop:=∃t x a,op=.load t x/\iZ P t=some false/\ev T x=.pointer (some a)/\X.pk a v
def Yld(X:aM P)(ops:cU)(T:aK)(L:LH)(o:Oper)(v:Value):Prop:=
 (Region.wanted o (yielded ops T)=true/\iU o.op=false/\cE P o.op o.type T L v)\/(Region.wanted o (yielded ops T)=false/\v=undef)\/(Region.wanted o (yielded ops T)=true/\Pk X o.op T v)
def Zd(X:aM P)(fr:Frame)(L:LH)(Q:bC):Prop:=
 ∀(c:Frame) (cs:dX),(∀v L',Q v L'->X.Go (G (c.finish v) cs) L')->X.Go (G fr (c::cs)) L
def Zd.mono{f:Frame}{Q':bC}(h:Zd X f L Q)(z:∀v u,Q v u->Q' v u):Zd X f L Q':=λc i q=>h c i λv u x=>q v u (z v u x)
def MH(X:aM P)(o:Oper)(T:aK)(L:LH)(K:bC):Prop:=
 iU o.op=false/\aP P (λnx L'=>match nx with
  | .value v=>K v L'
  | .skip=>K undef L'
  | .enter g args=>∃Q:Value->LH->Prop,Fn X g args L' Q/\∀v L'',Q v L''->K v L''
  | .round l g tmps asg body=>∃Q:Value->LH->Prop,Zd X (Frame.round l g tmps asg body .normal) L' Q/\∀v L'',Q v L''->K v L''
  | _=>False) (λ_ _=>False) (execOp (ev T) o) L
def Ag{T:aK}{a:Addr}{v:Value}{o:Oper}(i:o.op=.load t x)(s:iZ P t=false)(m:ev T x=a)(b:w.cell? a=v):
  (execOp (ev T) o).runT P w #[]=(.ok (.value v) w,#[⟨.cell a,false,false⟩]):=by
 let⟨d,u,hd⟩:∃d,P.underlying t=some d/\abF d=false:=by
  unfold iZ at s;cases u:P.underlying t with
  | none=>rw[u] at s;cases s
  | some d=>rw[u] at s;exact⟨d,rfl,Lh⟩
 have f:∀q,(underlying t).runT P w q=(.ok d w,q):=by
  intro q;refine(Sem.runT_bind' P _ _ w q).trans ?_;rw[show(program:Sem Program).runT P w q=(.ok P w,q) from rfl];simp only[u]
  rfl
 have g:∀q,(isAgg t).runT P w q=(.ok false w,q):=by
  intro q;unfold isAgg;refine(Sem.runT_bind' P _ _ w q).trans ?_;rw[f];cases d <;> first | (cases hd;done) | rfl
 have z:∀q,(load a).runT P w q=(.ok v w,q.push ⟨.cell a,false,false⟩):=by
  intro q;show(Sem.load .plain a .pure).runT P w q=_;unfold Sem.runT;simp only[b]
  rfl
 have r:∀q,(loadVar t a).runT P w q=(.ok v w,q.push ⟨.cell a,false,false⟩):=by
  intro q;unfold loadVar;refine(Sem.runT_bind' P _ _ w q).trans ?_;rw[g];exact z q
 obtain⟨c,k,p,j,l,n⟩:=o;simp only at i;subst i;simp only[execOp,m,Instr.loadAt,Instr.sureAddr];refine(Sem.runT_bind' P _ _ w #[]).trans ?_;rw[show Sem.runT P (do let y <-pure a;loadVar t y) w #[]=(.ok v w,#[⟨.cell a,false,false⟩]) from r #[]]
 rfl
theorem aM.Yg{d:cU}{f:bO}{m:dW}{c:bD}{i:dX}{T:aK}{o:Oper}{v:Value}(g:Pk X o.op T v)(p:d[n]?=o)(u:Region.wanted o (yielded d T)=true)
  (h:X.Go (G ((Fr f T (.inRegion d (n::q)::K) I .run m c).finish v) i) L):X.Go (G (Fr f T (.inRegion d (n::q)::K) I .run m c) i) L:=by
 obtain⟨t,x,a,y,s,k,r⟩:=g;refine X.BQ _ _ L a v (seen P f (if m==.early then#[] else#[⟨.cell a,false,false⟩])) r rfl (λe z=>?_) (λw b=>?_) h
 .have:=ub _ _ _ e z
  split at this
  .simp at this
  .simpa using this
 .let J:=Ag y s k b;let j:stepG.apply P true (Fr f T (.inRegion d (n::q)::K) I .run m c) i none (execOp (ev T) o) w=.go (G ((Fr f T (.inRegion d (n::q)::K) I .run m c).finish v) i) w (seen P f (if m==.early then#[] else#[⟨.cell a,false,false⟩])):=by
   unfold stepG.apply;simp only[J,if_true,my,rQ]
   rfl
  rw[<-j,<-zB f T (.inRegion d (n::q)::K) I .run m c];unfold Fr;cases c with
  | none=>simp[G,stepG,stepG.exec,stepG.oper,Frame.oper?,p,u]
  | some l=>
   simp[G,stepG,stepG.exec,stepG.oper,Frame.oper?,p,u,mg,zb,if_true];rw[y]
def ZS{x:cU}{f:bO}{z:dW}{i:dX}{T:aK}{e:Oper}{v:Value}(u:x[n]?=some e)(g:Yld X x T L e v)
  (h:∀a,(match e.dst with | some d=>d<T.size->Upd T a d v | none=>a=T)->X.Go (G (Fr f a (.inRegion x q::K) I .run z o) i) L):X.Go (G (Fr f T (.inRegion x (n::q)::K) I .run z o) i) L:=by
 let j:∀b,b=v->X.Go (G ((Fr f T (.inRegion x (n::q)::K) I .run z o).finish b) i) L:=by
  rintro b rfl;cases hd:e.dst with
  | none=>rw[xA u hd];exact h T (by rw[hd])
  | some d=>rw[tG u hd];exact h _ (by rw[hd];exact λp=>AB _ p)
 rcases g with⟨hw,hdf,hv⟩ | ⟨hw,rfl⟩ | ⟨hw,hv⟩
 .refine X.op u hw (.inr λc t=>by rw[t] at hdf;cases hdf) ?_;let⟨w,k,m,s,l,y⟩:=e;exact hv _ _ _ _ _ _ (j _ rfl)
 .refine X.unwanted ?_ (j _ rfl);rw[u]
  simpa using hw
 .exact X.Yg hv u hw (j _ rfl)
def AM(ops:cU)(n:Nat):Bool:=(List.range ops.size).all λi=>match ec ops i with | some d=>decide (d<n) | none=>true
def bQ(h:j.all single=true):∀u∈j,single u=true:=λu q=>mK.1 h u q
inductive SV where
 | v (x:Value)
 | p (k off:Nat)
 | a (l:List SV)
 | f (fn:Go.Fn) (first ajS:List SV)
 | i (t:TypeId) (x:SV)
 | lit (b:Bool)
 | sl (k off len cap:Nat)
instance:Coe Value SV:=⟨.v⟩
abbrev gn:=List SV
abbrev Nm:=Nat->Option Nat
def fe:Nm:=λ_=>none
mutual
def den(β:Nm):SV->Option Value
 | .v x=>some x
 | .p k off=>match β k with | some b=>some (.pointer (some ⟨b,off,none⟩)) | none=>none
 | .a l=>match cW β l with | some vs=>some (.agg vs.toArray) | none=>none
 | .f fn f1 f2=>match cW β f1,cW β f2 with | some a,some b=>some (.func fn a.toArray b.toArray) | _,_=>none
 | .i t x=>match den β x with | some v=>some (.iface t v) | none=>none
 | .lit b=>some (.bool b)
 | .sl k off len cap=>match β k with | some b=>some (.slice (some ⟨b,off,none⟩) len cap) | none=>none
def cW(β:Nm):List SV->Option (List Value)
 | []=>some []
 | x::l=>match den β x,cW β l with | some v,some vs=>some (v::vs) | _,_=>none
end
def Dj(β γ:Nm):Prop:=∀k b,β k=some b->γ k=b
mutual
theorem pq{N γ:Nm}(o:Dj N γ):∀{x:SV} {v:Value},den N x=some v->den γ x=some v
 | .v x,v,h=>h
 | .p k off,v,h=>by
  unfold den at h ⊢;cases d:N k with
  | none=>rw[d] at h;cases h
  | some c=>rw[d] at h;rw[o k c d];exact h
 | .a l,v,h=>by
  unfold den at h ⊢;cases g:cW N l with
  | none=>rw[g] at h;cases h
  | some j=>rw[g] at h;rw[oG o g];exact h
 | .f fn f1 f2,v,h=>by
  unfold den at h ⊢;cases q:cW N f1 with
  | none=>rw[q] at h;cases h
  | some r=>
   cases z:cW N f2 with
   | none=>rw[q,z] at h;cases h
   | some m=>rw[q,z] at h;rw[oG o q,oG o z];exact h
 | .i t x,v,h=>by
  unfold den at h ⊢;cases y:den N x with
  | none=>rw[y] at h;cases h
  | some u=>rw[y] at h;rw[pq o y];exact h
 | .lit _,v,h=>h
 | .sl k off len cap,v,h=>by
  unfold den at h ⊢;cases d:N k with
  | none=>rw[d] at h;cases h
  | some c=>rw[d] at h;rw[o k c d];exact h
theorem oG{N γ:Nm}(v:Dj N γ):∀{l:gn} {j:aR},cW N l=some j->cW γ l=some j
 | [],j,h=>h
 | x::l,j,h=>by
  unfold cW at h ⊢;cases q:den N x with
  | none=>rw[q] at h;cases h
  | some u=>
   cases o:cW N l with
   | none=>rw[q,o] at h;cases h
   | some us=>rw[q,o] at h;rw[pq v q,oG v o];exact h
end
theorem PZ(β:Nm):Dj fe β:=λk b h=>by cases h
def fw{z:SV}{v:Value}(h:den fe z=v)(β:Nm):den β z=v:=pq (PZ β) h
def qQ{x:gn}(h:cW fe x=j)(β:Nm):cW β x=j:=oG (PZ β) h
def Nm.set(β:Nm)(k b:Nat):Nm:=λk'=>if k'=k then b else β k'
def Nm.pE(β:Nm)(k b:Nat):β.set k b k=some b:=by simp[Nm.set]
def Nm.Ic(β:Nm)(b:Nat)(h:n≠k):β.set k b n=β n:=by simp[Nm.set,h]
theorem Nm.Qi{N:Nm}(h:N k=none)(b:Nat):Dj N (N.set k b):=λv c u=>by
 rw[Nm.Ic N b (λe=>by subst e;rw[h] at u;cases u)];exact u
theorem lO{N:Nm}:∀{l:gn} {j:aR},cW N l=some j->j.length=l.length
 | [],j,h=>by cases h;rfl
 | x::l,j,h=>by
  unfold cW at h;cases q:den N x with
  | none=>rw[q] at h;cases h
  | some u=>
   cases o:cW N l with
   | none=>rw[q,o] at h;cases h
   | some us=>rw[q,o] at h;cases h;simp[lO o]
def jK{N:Nm}{z:SV}{l:gn}(h:cW N (z::l)=j):∃v n,den N z=some v/\cW N l=some n/\j=v::n:=by
 unfold cW at h;cases q:den N z with
 | none=>rw[q] at h;cases h
 | some u=>
  cases o:cW N l with
  | none=>rw[q,o] at h;cases h
  | some us=>rw[q,o] at h;cases h;exact⟨u,us,rfl,rfl,rfl⟩
def iO{N:Nm}{z:SV}{l:gn}{v:Value}(q:den N z=v)(u:cW N l=j):cW N (z::l)=some (v::j):=by
 unfold cW;rw[q,u]
def nth{α:Type}:List α->Nat->Option α
 | [],_=>none
 | x::_,0=>some x
 | _::l,n+1=>nth l n
theorem dF{α:Type}:∀(l:List α) (n:Nat),nth l n=l[n]?
 | [],_=>by simp[nth]
 | _::_,0=>by simp[nth]
 | _::l,n+1=>by simp[nth,dF l n]
def Ft{N:Nm}:∀{l:gn} {j:aR} {n:Nat} {x:SV},cW N l=j->nth l n=x->∃v,den N x=some v/\j[n]?=some v
 | [],_,_,_,_,h=>by cases h
 | x::l,j,0,y,h,hn=>by
  cases hn;obtain⟨v,d,q,_,rfl⟩:=jK h;exact⟨v,q,rfl⟩
 | x::l,j,n+1,y,h,hn=>by
  obtain⟨v,d,_,z,rfl⟩:=jK h;obtain⟨u,f,i⟩:=Ft z hn;exact⟨u,f,by simpa using i⟩
def part{α:Type}(l:List α):Nat->Nat->Option (List α)
 | _,0=>some []
 | i,n+1=>match nth l i,part l (i+1) n with | some x,some r=>some (x::r) | _,_=>none
theorem xG{α:Type}{r:List α}:∀{n i:Nat} {c:List α},part r i n=some c->c.length=n
 | 0,_,_,h=>by cases h;rfl
 | n+1,i,c,h=>by
  unfold part at h;cases u:nth r i with
  | none=>rw[u] at h;cases h
  | some x=>
   cases b:part r (i+1) n with
   | none=>rw[u,b] at h;cases h
   | some o=>rw[u,b] at h;cases h;simp[xG b]
def Cw{N:Nm}{l:gn}{j:aR}(h:cW N l=j):∀{n i:Nat} {r:gn},part l i n=r->∃d,cW N r=some d/\∀c v,d[c]?=some v->j[i+c]?=some v
 | 0,i,r,hr=>by cases hr;exact⟨[],rfl,λc v t=>by simp at t⟩
 | n+1,i,r,hr=>by
  unfold part at hr;cases f:nth l i with
  | none=>rw[f] at hr;cases hr
  | some x=>
   cases m:part l (i+1) n with
   | none=>rw[f,m] at hr;cases hr
   | some o=>
    rw[f,m] at hr;cases hr;obtain⟨v,q,z⟩:=Ft h f;let⟨d,a,g⟩:=Cw h m;refine⟨v::d,iO q a,λc u t=>?_⟩;cases c with
    | zero=>simp at t;subst t;exact z
    | succ c=>have:=g c u C1;rwa[show i+(c+1)=i+1+c by omega]
abbrev Env:=List (Nat×SV)
def get:Env->Nat->Option SV
 | [],_=>none
 | (k,x)::r,s=>match Nat.beq k s with | true=>some x | false=>get r s
def dO{z:SV}{F:Env}:get ((k,z)::F) n=if k=n then some z else get F n:=by
 show(match Nat.beq k n with | true=>some z | false=>get F n)=_
 by_cases h:k=n
 .subst h;simp
 .have:Nat.beq k n=false:=by
   cases d:Nat.beq k n
   .rfl
   .exact ar (uq d) h
  rw[this,A h]
def svC:Value->SV
 | .bool b=>.lit b
 | x=>.v x
def Sr(β:Nm)(x:Value):den β (svC x)=some x:=by cases x <;> rfl
abbrev cK:=Nat->Option SV
def bZ(E:cK):Operand->Option SV
 | .tmp t=>E t
 | .const v=>some (svC v)
 | .global g=>some (.v (.pointer (some ⟨g,0,none⟩)))
 | .func f=>some (.f (.func f) [] [])
def zy(E:cK):List Operand->Option (List SV)
 | []=>some []
 | x::l=>match bZ E x,zy E l with | some v,some vs=>some (v::vs) | _,_=>none
def bS(β:Nm)(E:cK)(T:aK):Prop:=∀s x,E s=some x->den β x=(T.getD s undef)
def bS.val{N:Nm}{E:cK}{T:aK}(h:bS N E T){z:SV}(u:bZ E x=z):den N z=ev T x:=by
 cases x with
 | tmp t=>exact h t z u
 | const v=>cases u;exact Sr N v
 | global g=>cases u;rfl
 | func f=>cases u;rfl
theorem bS.YW{N:Nm}{E:cK}{T:aK}(h:bS N E T):∀{w:List Operand} {g:gn},zy E w=some g->cW N g=some (w.map (ev T))
 | [],g,hx=>by cases hx;rfl
 | x::w,g,hx=>by
  unfold zy at hx;cases q:bZ E x with
  | none=>rw[q] at hx;cases hx
  | some u=>
   cases z:zy E w with
   | none=>rw[q,z] at hx;cases hx
   | some us=>rw[q,z] at hx;cases hx;exact iO (h.val q) (h.YW z)
def bS.mono{N γ:Nm}{E:cK}{T:aK}(h:bS N E T)(o:Dj N γ):bS γ E T:=λs x u=>pq o (h s x u)
def bS.set{N:Nm}{F:Env}{T z:aK}(h:bS N (get F) T){d:Nat}{sv:SV}{v:Value}(a:den N sv=some v)(u:Upd T z d v):bS N (get ((d,sv)::F)) z:=by
 intro s x q;rw[dO] at q
 by_cases e:d=s
 .subst e;rw[ax rfl] at q;cases q;rwa[u.same]
 .rw[A e] at q;rw[u.other s (by simpa using dG e)];exact h s x q
inductive TD where
 | slice (e:TypeId)
 | arr (n:Nat) (e:TypeId)
 | str (fs:List (Nat×TypeId))
 | int (k:IntKind)
 | bool
 | ptr (e:TypeId)
 | iface
 | text
 | other
structure TI where
 agg:Bool
 size:Nat
 bytes:Nat
 z:Value
 d:TD
inductive TT where
 | nil
 | node (l:TT) (k:Nat) (i:TI) (r:TT)
def TT.find:TT->Nat->Option TI
 | .nil,_=>none
 | .node l k i r,t=>match Nat.beq k t with | true=>some i | false=>match Nat.blt t k with | true=>l.find t | false=>r.find t
def EJ(P:aV)(t:bh):TD->Prop
 | .slice e=>P.underlying t=some (.slice e)
 | .arr n e=>P.underlying t=some (.array n e)
 | .str fs=>∃gs:Array Field,P.underlying t=some (.struct gs)/\gs.toList.map (λg=>(g.offset,g.type))=fs
 | .int k=>P.underlying t=some (.int k)
 | .bool=>P.underlying t=some .bool
 | .ptr e=>P.underlying t=some (.pointer e)
 | .iface=>∃ms,P.underlying t=some (.interface ms)
 | .text=>P.underlying t=some .string
 | .other=>∃d,P.underlying t=some d/\(∀ms,d≠.interface ms)
structure IF(P:Program)(t:TypeId)(i:TI):Prop where
 agg:iZ P t=some i.agg
 size:(P.info? t).map (·.size)=some i.size
 bytes:(P.info? t).map (·.bytes)=some i.bytes
 zero:(P.info? t).bind (·.zero)=some i.z
 d:EJ P t i.d
def TT.Ok(P:aV):TT->Prop
 | .nil=>True
 | .node l k i r=>l.Ok P/\IF P k i/\r.Ok P
def TT.bj{P:aV}:∀{τ:TT} {t:bh} {i:TI},τ.Ok P->τ.find t=some i->IF P t i
 | .nil,_,_,_,h=>by cases h
 | .node l k i r,t,j,ho,h=>by
  unfold TT.find at h;cases d:Nat.beq k t with
  | true=>
   rw[d] at h;cases h;obtain rfl:=uq d;exact ho.2.1
  | false=>
   rw[d] at h;cases b:Nat.blt t k with
   | true=>rw[b] at h;exact TT.bj ho.1 h
   | false=>rw[b] at h;exact TT.bj ho.2.2 h
def IF.und{i:TI}(h:IF P t i):∃d,P.underlying t=some d:=by
 have:=h.agg;unfold iZ at this;cases u:P.underlying t with
 | none=>rw[u] at this;cases this
 | some d=>exact⟨d,rfl⟩
def TD.Nc:TD->Bool
 | .iface=>false
 | _=>true
def IF.Nc{i:TI}(h:IF P t i)(b:i.d.Nc=true):∃d,P.underlying t=some d/\∀y,d≠.interface y:=by
 have:=h.d
 revert b this
 cases i.d <;> intro b hd <;> simp[EJ] at hd <;> first
  | (exact hd)
  | (exact⟨_,hd,λ_ e=>by cases e⟩)
  | (let⟨c,q,_⟩:=hd;exact⟨_,q,λ_ e=>by cases e⟩)
  | cases b
variable {E:cK}{F:Env}{N:Nm}{z:SV}
structure Bx where
 cells:List SV
 ty:TypeId
abbrev aX:=List (Option Bx)
abbrev Az:=SV->List (Option Bx)->LH->Prop
abbrev Q5:=Env->List (Option Bx)->LH->Prop
abbrev Xd:=Nat->Env->List (Option Bx)->LH->Prop
structure bJ(L0 R0:LH)(β:Nm)(B:List (Option Bx))(L R:LH):Prop where
 inj:∀(k k' b:Nat),β k=some b->β k'=some b->k=k'
 dm:∀(k b:Nat),β k=some b->k<B.length
 al:∀(k b:Nat),β k=some b->R b≠none
 box:∀(k b:Nat) (x:Bx),β k=some b->B[k]?=some (some x)->L b=none/\R0 b=none/\∃cs,cW β x.cells=some cs/\R b=some (.cells cs.toArray x.ty (0,0),true)
 le:Le L R
 keep:∀b x,L0 b=none->R0 b=some x->R b=some x
 fresh:∀b,L b≠none->L0 b≠none\/R0 b=none
 jZ:∀b,L0 b≠none->L b≠none
def bJ.free{k:LH}{B:aX}(h:bJ J k N B L R)(d:R n=none):L n=none/\k n=none:=by
 have o:=bN h.le d;exists o;cases u:k n with
 | none=>rfl
 | some x=>
  cases g:J n with
  | none=>rw[h.keep n x g u] at d;cases d
  | some y=>exact ar o (h.jZ n (by rw[g];simp))
def bJ.name{t:LH}{B:aX}(h:bJ J t N B L R)(d:R n=none){x:Bx}(f:N k=none)(u:B[k]?=x)(b:cW N x.cells=j):bJ J t (N.set k n) B L (R.put n (.cells j.toArray x.ty)):=by
 let⟨m,z⟩:=h.free d;have o:=Nm.Qi f n;let a:∀v c,N.set k n v=some c->(v=k/\c=n)\/(N v=c/\c≠n):=λv c b=>by
  by_cases e:v=k
  .subst e;rw[Nm.pE] at b;cases b;exact .inl ⟨rfl,rfl⟩
  .rw[Nm.Ic N n e] at b;exact .inr ⟨b,λi=>by subst i;exact h.al v c b d⟩
 refine⟨λr w c p q=>?_,λv c e=>?_,λv c e=>?_,λv c y e g=>?_,?_,?_,h.fresh,h.jZ⟩
 .rcases a r c p with⟨a1,a2⟩ | ⟨a1,a2⟩ <;> rcases a w c q with⟨b1,b2⟩ | ⟨b1,b2⟩
  .rw[a1,b1]
  .exact ar a2 b2
  .exact ar b2 a2
  .exact h.inj _ _ _ a1 b1
 .rcases a v c e with⟨a1,_⟩ | ⟨a1,_⟩
  .subst a1;exact(eO.1 u).1
  .exact h.dm _ _ a1
 .rcases a v c e with⟨_,a2⟩ | ⟨a1,a2⟩
  .subst a2;rw[aj];simp
  .rw[aB _ _ a2];exact h.al _ _ a1
 .rcases a v c e with⟨a1,a2⟩ | ⟨a1,a2⟩
  .subst a1 a2;rw[u] at g;cases g;exact⟨m,z,j,oG o b,aj _ _ _⟩
  .let⟨p,q,l,s,I⟩:=h.box v c y a1 g;exact⟨p,q,l,oG o s,by rwa[aB _ _ a2]⟩
 .exact h.le.trans (Le.put d _)
 .intro K y p q;rw[aB _ _ (λe=>by subst e;rw[z] at q;cases q)];exact h.keep K y p q
def bJ.more{q:LH}{B:aX}(h:bJ J q N B L R)(x:Bx):bJ J q N (B++[some x]) L R/\N B=none:=by
 let v:N B=none:=by
  cases u:N B with
  | none=>rfl
  | some b=>exact ar (h.dm _ _ u) (Nat.lt_irrefl _)
 refine⟨⟨h.inj,λk b f=>by have:=h.dm k b f;simp;omega,h.al,λk b y f g=>?_,h.le,h.keep,h.fresh,h.jZ⟩,v⟩;rw[kS (h.dm k b f)] at g;exact h.box k b y f g
def bJ.new{k:LH}{B:aX}(h:bJ J k N B L R)(d:R n=none){x:Bx}(b:cW N x.cells=j):bJ J k (N.set B n) (B++[some x]) L (R.put n (.cells j.toArray x.ty)):=
 let⟨q,z⟩:=h.more x;q.name d z U b
def bJ.zY{a:LH}{B:aX}(h:bJ J a N B L R)(d:R n=none)(o:Obj):bJ J a N B (L.put n o) (R.put n o):=by
 let⟨j,z⟩:=h.free d;refine⟨h.inj,h.dm,λk c f=>?_,?_,?_,?_,?_,?_⟩
 .rw[aB _ _ (λe=>h.al k c f (by rwa[e]))];exact h.al k c f
 .intro k b y f g;let⟨p,q,l,m,t⟩:=h.box k b y f g;let i:b≠n:=λe=>by subst e;rw[t] at d;cases d
  exact⟨Qp,q,l,m,by rwa[aB _ _ i]⟩
 .intro b x u
  by_cases e:b=n
  .subst e;rw[aj] at u ⊢;exact u
  .rw[aB _ _ e] at u ⊢;exact h.le _ _ u
 .intro b y p q;rw[aB _ _ (λe=>by subst e;rw[z] at q;cases q)];exact h.keep b y p q
 .intro b v
  by_cases e:b=n
  .subst e;exact .inr z
  .rw[aB _ _ e] at v;exact h.fresh b v
 .intro b v
  by_cases e:b=n
  .subst e;rw[aj];simp
  .rw[aB _ _ e];exact h.jZ b v
def bJ.wZ{a:LH}{B:aX}{r:LH}(h:bJ J a N B L R){m o:Obj}(d:L n=some (m,true))(t:r n=some (o,true))(z:∀b,b≠n->r b=R b):bJ J a N B (L.put n o) r:=by
 refine⟨h.inj,h.dm,λk c f=>?_,?_,?_,?_,?_,?_⟩
 .by_cases e:c=n
  .subst e;rw[t];simp
  .rw[z _ e];exact h.al k c f
 .intro k b y f g;let⟨p,q,l,j,w⟩:=h.box k b y f g;let i:b≠n:=λe=>by subst e;rw[p] at d;cases d
  exact⟨Qp,q,l,j,by rwa[z _ i]⟩
 .intro b x u
  by_cases e:b=n
  .subst e;rw[aj] at u;rwa[t]
  .rw[aB _ _ e] at u;rw[z _ e];exact h.le _ _ u
 .intro b y p q;let i:b≠n:=λe=>by
   subst e;have:=h.fresh b (by rw[d];simp);rcases this with e | e
   .exact e p
   .rw[e] at q;cases q
  rw[z _ i];exact h.keep b y p q
 .intro b v
  by_cases e:b=n
  .subst e;exact h.fresh b (by rw[d];simp)
  .rw[aB _ _ e] at v;exact h.fresh b v
 .intro b v
  by_cases e:b=n
  .subst e;rw[aj];simp
  .rw[aB _ _ e];exact h.jZ b v
def bJ.Ez{t:LH}{B:aX}{r:LH}(h:bJ J t N B L R){x:Bx}{f:gn}(o:N k=n)(u:B[k]?=x)(K:cW N f=j)
  (m:r n=some (.cells j.toArray x.ty (0,0),true))(z:∀b,b≠n->r b=R b):bJ J t N (B.set k (some ⟨f,x.ty⟩)) L r:=by
 let⟨s,I,_⟩:=h.box k n x o u;refine⟨h.inj,λa c e=>by simpa using h.dm a c e,λa c v=>?_,?_,?_,?_,h.fresh,h.jZ⟩
 .by_cases e:c=n
  .subst e;rw[m];simp
  .rw[z _ e];exact h.al a c v
 .intro a b y v g
  by_cases e:a=k
  .subst e;rw[o] at v;cases v;rw[E7 (eO.1 u).1] at g;cases g;exact⟨s,I,j,K,m⟩
  .rw[GG (dG e)] at g;let⟨p,q,l,D,d⟩:=h.box a b y v g;let i:b≠n:=λw=>by subst w;exact e (h.inj _ _ _ v o)
   exact⟨p,q,l,D,by rwa[z _ i]⟩
 .intro b y g;let i:b≠n:=λw=>by subst w;rw[s] at g;cases g
  rw[z _ i];exact h.le _ _ g
 .intro b y p q;let i:b≠n:=λw=>by subst w;rw[I] at q;cases q
  rw[z _ i];exact h.keep b y p q
def bJ.cz{J o:LH}{N:Nm}{B:aX}{L R:LH}(h:bJ J o N B L R){k n:Nat}{x:Bx}{j:aR}(f:N k=n)(u:B[k]?=x)(m:cW fe x.cells=j):
  L n=none/\bJ J o N (B.set k none) (L.put n (.cells j.toArray x.ty)) R:=by
 let⟨r,q,l,t,w⟩:=h.box k n x f u;rw[qQ m N] at t;cases t;refine⟨r,h.inj,λa c e=>by simpa using h.dm a c e,h.al,?_,?_,h.keep,?_,?_⟩
 .intro a b y v g
  by_cases e:a=k
  .subst e;rw[E7 (eO.1 u).1] at g;cases g
  .rw[GG (dG e)] at g;let⟨p,s,l,I,d⟩:=h.box a b y v g;let i:b≠n:=λK=>by subst K;exact e (h.inj _ _ _ v f)
   exact⟨Qp,s,l,I,d⟩
 .intro b y g
  by_cases e:b=n
  .subst e;rw[aj] at g;cases g;exact w
  .rw[aB _ _ e] at g;exact h.le _ _ g
 .intro b z
  by_cases e:b=n
  .subst e;exact .inr q
  .rw[aB _ _ e] at z;exact h.fresh b z
 .intro b z
  by_cases e:b=n
  .subst e;rw[aj];simp
  .rw[aB _ _ e];exact h.jZ b z
def cL:SV->List SV
 | .a l=>l
 | .v x=>x.cells.toList.map .v
 | x=>[x]
theorem lL(β:Nm):∀(l:aR),cW β (l.map .v)=some l
 | []=>rfl
 | x::l=>by rw[iH,cW,lL β l];rfl
def zq{v:Value}(h:den N z=v):cW N (cL z)=v.cells.toList:=by
 cases z with
 | v z=>unfold den at h;cases h;exact lL N _
 | a l=>
  unfold den at h;cases o:cW N l with
  | none=>rw[o] at h;cases h
  | some j=>rw[o] at h;cases h;exact o
 | p k off=>
  have g:v.cells=#[v]:=by
   unfold den at h;split at h <;> cases h;rfl
  rw[g];exact iO h rfl
 | f fn f1 f2=>
  have g:v.cells=#[v]:=by
   unfold den at h;split at h <;> cases h;rfl
  rw[g];exact iO h rfl
 | i t z=>
  have g:v.cells=#[v]:=by
   unfold den at h;split at h <;> cases h;rfl
  rw[g];exact iO h rfl
 | lit b=>
  have g:v.cells=#[v]:=by
   cases h;rfl
  rw[g];exact iO h rfl
 | sl k off len cap=>
  have g:v.cells=#[v]:=by
   unfold den at h;split at h <;> cases h;rfl
  rw[g];exact iO h rfl
def WS:SV->Bool
 | .v x=>single x
 | .a _=>false
 | _=>true
def KP:List SV->Bool
 | []=>true
 | x::l=>match WS x with | true=>KP l | false=>false
def adJ{v:Value}(h:den N z=some v)(u:WS z=true):single v=true:=by
 cases z with
 | v z=>unfold den at h;cases h;exact u
 | a l=>cases u
 | p k off=>unfold den at h;split at h <;> cases h;rfl
 | f fn f1 f2=>unfold den at h;split at h <;> cases h;rfl
 | i t z=>unfold den at h;split at h <;> cases h;rfl
 | lit b=>unfold den at h;cases h;rfl
 | sl k off len cap=>unfold den at h;split at h <;> cases h;rfl
def Ol{N:Nm}:∀{l:gn} {j:aR},cW N l=some j->KP l=true->∀v∈j,single v=true
 | [],j,h,_,v,g=>by cases h;cases g
 | x::l,j,h,hs,v,g=>by
  obtain⟨u,us,q,z,rfl⟩:=jK h;unfold KP at hs;cases d:WS x with
  | false=>rw[d] at hs;cases hs
  | true=>
   rw[d] at hs;rcases eP.1 g with rfl | g
   .exact adJ q d
   .exact Ol z hs v g
def BR:List SV->Nat->List SV->List SV
 | [],_,_=>[]
 | _::l,0,v::vs=>v::BR l 0 vs
 | x::l,0,[]=>x::l
 | x::l,n+1,vs=>x::BR l n vs
def wW:List Value->Nat->List Value->List Value
 | [],_,_=>[]
 | _::l,0,v::vs=>v::wW l 0 vs
 | x::l,0,[]=>x::l
 | x::l,n+1,vs=>x::wW l n vs
theorem Oa:∀(l:aR) (n:Nat),wW l n []=l
 | [],_=>rfl
 | _::_,0=>rfl
 | x::l,n+1=>by simp[wW,Oa l n]
theorem Kr:∀(l:aR) (n:Nat) (v:Value) (j:aR),wW l n (v::j)=wW (l.set n v) (n+1) j
 | [],_,_,_=>by simp[wW]
 | _::l,0,v,j=>by
  simp only[wW,Cj]
 | x::l,n+1,v,j=>by simp[wW,Kr l n v j]
theorem qt:∀(j:aR) (c:aK) (n:Nat),(bY c n j).toList=wW c.toList n j
 | [],c,n=>by simp[bY,Oa]
 | v::j,c,n=>by rw[bY,qt j,Kr,Array.toList_setIfInBounds]
def AL{N:Nm}:∀{l:gn} {c:aR} {n:Nat} {j:gn} {us:aR},cW N l=c->cW N j=us->cW N (BR l n j)=wW c n us
 | [],c,n,j,us,h1,h2=>by cases h1;cases n <;> cases us <;> rfl
 | x::l,c,0,[],us,h1,h2=>by
  obtain⟨w,z,p,q,rfl⟩:=jK h1;cases h2;exact iO p q
 | x::l,c,0,v::j,us,h1,h2=>by
  obtain⟨w,z,p,q,rfl⟩:=jK h1;obtain⟨u,t,i,d,rfl⟩:=jK h2;exact iO i (AL q d)
 | x::l,c,n+1,j,us,h1,h2=>by
  obtain⟨w,z,p,q,rfl⟩:=jK h1;have:=AL (n:=n) q h2;cases us <;> exact iO p this
def Cy(pl:C6)(cells:gn):List (Nat×SV)->Option (List SV)
 | []=>some cells
 | (i,sv)::rest=>
  match nth pl i with
  | none=>none
  | some (off,size)=>
   match Nat.beq (cL sv).length size,Nat.ble (off+size) cells.length with
   | true,true=>Cy pl (BR cells off (cL sv)) rest
   | _,_=>none
theorem Jq(z:Nat):∀(j:aR) (k:Nat) (c:aK),(j.zipIdx k).foldl (λi (x:Value×Nat)=>i.setIfInBounds (z+x.2) x.1) c=bY c (z+k) j
 | [],k,c=>rfl
 | v::j,k,c=>by
  simp only[List.zipIdx_cons,lJ,bY];rw[Jq z j (k+1)]
  rfl
inductive tR(β:Nm):List (Nat×SV)->List (Nat×Value)->Prop
 | nil:tR β [] []
 | cons {i:Nat} {x:SV} {v:Value} {l:List (Nat×SV)} {vs:List (Nat×Value)} (h:den β x=some v) (t:tR β l vs):tR β ((i,x)::l) ((i,v)::vs)
def rG{N:Nm}{k:C6}{place:Nat->Option (Nat×Nat)}(a:∀i y,nth k i=some y->place i=y):∀{l:List (Nat×SV)} {c:LQ} {f r:gn} {d:aR},tR N l c->cW N f=d->Cy k f l=r->
  ∃t,cW N r=some t/\Instr.fill place d.toArray c=t.toArray
 | [],_,f,r,d,.nil,hc,h=>by cases h;exact⟨d,hc,rfl⟩
 | (i,sv)::l,_,f,r,d,.cons (v:=v) (vs:=c) hv ht,hc,h=>by
  unfold Cy at h;unfold Instr.fill;cases s:nth k i with
  | none=>rw[s] at h;cases h
  | some y=>
   obtain⟨off,z⟩:=y;rw[a i _ s];rw[s] at h;simp only at h ⊢;have j:=zq hv;have w:=lO j;have g:=lO hc;cases q:Nat.beq (cL sv).length z with
   | false=>rw[q] at h;cases h
   | true=>
    cases e:Nat.ble (off+z) f.length with
    | false=>rw[q,e] at h;cases h
    | true=>
     rw[q,e] at h;have p:=uq q;have K:=qE e;have I:v.cells.size=z:=by rw[<-p,<-w,GH]
     have m:¬(v.cells.size≠z\/off+v.cells.size>d.toArray.size):=by
      simp only[I,ne_eq,not_true_eq_false,false_or,wG];omega
     have b:(decide (v.cells.size≠z)||decide (off+v.cells.size>d.toArray.size))=false:=by
      simp only[Bool.or_eq_false_iff,decide_eq_false_iff_not];exact not_or.1 m
     have o:v.cells.zipIdx.foldl (λd (x:Value×Nat)=>d.setIfInBounds (off+x.2) x.1) d.toArray=(wW d off v.cells.toList).toArray:=by
      rw[<-Array.foldl_toList,Array.toList_zipIdx,Jq];have:=qt v.cells.toList d.toArray (off+0);rw[List.toList_toArray,pT] at this;rw[pT,<-this]
     obtain⟨t,u,J⟩:=rG a ht (AL (n:=off) hc j) h;refine⟨t,u,?_⟩;rw[<-J,<-o];simp only[b,iM,if_false]
def Pr{k:C6}{place:Nat->Option (Nat×Nat)}(a:∀i,place i=nth k i){l:List (Nat×SV)}{c:LQ}{f r:gn}(q:tR N l c)(z:cW N f=j)(u:Cy k f l=r):
  ∃t,cW N r=some t/\Instr.fill place j.toArray c=some t.toArray:=rG (λi y h=>by rw[a i,h]) q z u
def xH(E:cK):List (Nat×Operand)->Option (List (Nat×SV))
 | []=>some []
 | (i,x)::l=>match bZ E x,xH E l with | some v,some vs=>some ((i,v)::vs) | _,_=>none
theorem vC{N:Nm}{E:cK}{T:aK}(h:bS N E T):∀{l:List (Nat×Operand)} {v:List (Nat×SV)},xH E l=some v->tR N v (l.map λ(i,x)=>(i,ev T x))
 | [],v,hx=>by cases hx;exact .nil
 | (i,x)::l,v,hx=>by
  unfold xH at hx;cases q:bZ E x with
  | none=>rw[q] at hx;cases hx
  | some u=>
   cases z:xH E l with
   | none=>rw[q,z] at hx;cases hx
   | some us=>rw[q,z] at hx;cases hx;exact .cons (h.val q) (vC h z)
end Go.Mz
