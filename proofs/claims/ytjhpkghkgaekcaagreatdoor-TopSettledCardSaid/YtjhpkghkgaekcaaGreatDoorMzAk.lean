/- Lemmas on which the claim leans. -/
import Derived.Test.YtjhpkghkgaekcaaGreatDoorMzAj
import Derived.Conc.CrowdSpec
namespace Go.Mz
open Go.Conc
open Go.ConcN (sumTo upd sumTo_upd upd_ne upd_same)
inductive Tree where
 | leaf
 | node (f:World→Tree)
def Tree.sub(a b:Tree):Prop:=∃f w,b=.node f∧a=f w
theorem Tree.acc:∀t:Tree,Acc Tree.sub t
 | .leaf=>⟨_,fun _ ⟨_,_,h,_⟩=>by cases h⟩
 | .node f=>⟨_,fun a ⟨g,w,h,e⟩=>by cases h;subst e;exact Tree.acc (f w)⟩
theorem Tree.wf:WellFounded Tree.sub:=⟨Tree.acc⟩
def Tree.num:Nat→Tree
 | 0=>.leaf
 | n+1=>.node fun _=>num n
theorem Tree.GX(w:World)(n:Nat):Tree.sub (Tree.num n) (Tree.num (n+1)):=⟨_,w,rfl,rfl⟩
def oB(n:Nat)(f' f:Nat→Tree):Prop:=∃i,i<n∧Tree.sub (f' i) (f i)∧∀j,j≠i→f' j=f j
theorem oB.acc:∀(n:Nat) (f:Nat→Tree),Acc (oB n) f
 | 0,f=>⟨_,fun _ ⟨i,h,_⟩=>by omega⟩
 | n+1,f=>by
  have key:∀t:Tree,∀f:Nat→Tree,f n=t→Acc (oB (n+1)) f:=by
   intro t
   induction t using Tree.wf.induction with
   | _ t ih1=>
   intro f hf;have h2:=oB.acc n f
   induction h2 with
   | intro f _ ih2=>
    refine⟨_,fun f' ⟨i,hi,hs,ho⟩=>?_⟩
    by_cases e:i=n
    ·subst e;exact ih1 (f' i) (hf▸hs) f' rfl
    ·exact ih2 f' ⟨i,by omega,hs,ho⟩ (by rw[ho n (Ne.symm e)];exact hf)
  exact key _ f rfl
def yG(n:Nat):Nat×(Nat→Tree)→Nat×(Nat→Tree)→Prop:=Prod.Lex (·<·) (oB n)
theorem yG.wf(n:Nat):WellFounded (yG n):=⟨fun x=>Prod.lexAccessible (Nat.lt_wfRel.wf.apply x.1) (fun b=>oB.acc n b) x.2⟩
inductive uD(P:Program)(mn:Bool)(Φ:World→Prop)(Stop:Goroutine→LH→Prop):Goroutine→LH→Type
 | stop {g:Goroutine} {L:LH}:Stop g L→uD P mn Φ Stop g L
 | own {g:Goroutine} {L:LH} (hr:g.status=.running) (nx:∀w,Sub L w∧Φ w→Goroutine×LH)
   (h:∀w hw,∃w' es,stepG P mn g w=.go (nx w hw).1 w' es∧Tr L (nx w hw).2 w w' es) (k:∀w hw,uD P mn Φ Stop (nx w hw).1 (nx w hw).2):uD P mn Φ Stop g L
 | sP {g:Goroutine} {L:LH} (hr:g.status=.running) (a:Addr) (v:Value) (g':Goroutine) (es:Array Event) (wG:∀e∈es,e=⟨.cell a,false,false⟩) (l7:∀w,Φ w→w.cell? a=some v)
   (h:∀w,Sub L w→Φ w→stepG P mn g w=.go g' w es) (k:uD P mn Φ Stop g' L):uD P mn Φ Stop g L
def Way(P:Program)(mn:Bool)(Φ:World→Prop)(Stop:Goroutine→LH→Prop)(g:Goroutine)(L:LH):Prop:=Nonempty (uD P mn Φ Stop g L)
theorem Way.vM{P:Program}{mn:Bool}{Φ:World→Prop}{Stop:Goroutine→LH→Prop}(g:Goroutine)(L:LH)(hr:g.status=.running)
  (h:∀w,Sub L w∧Φ w→∃g' w' es L',stepG P mn g w=.go g' w' es∧Tr L L' w w' es∧Way P mn Φ Stop g' L'):Way P mn Φ Stop g L:=by
 refine⟨.own hr (fun w hw=>((h w hw).choose,(h w hw).choose_spec.choose_spec.choose_spec.choose)) (fun w hw=>?_) (fun w hw=>?_)⟩
 ·exact⟨(h w hw).choose_spec.choose,(h w hw).choose_spec.choose_spec.choose,(h w hw).choose_spec.choose_spec.choose_spec.choose_spec.1,(h w hw).choose_spec.choose_spec.choose_spec.choose_spec.2.1⟩
 ·exact Classical.choice (h w hw).choose_spec.choose_spec.choose_spec.choose_spec.2.2
theorem Way.step{P:Program}{mn:Bool}{Φ:World→Prop}{Stop:Goroutine→LH→Prop}(g:Goroutine)(L:LH)(hr:g.status=.running)(h:HU P mn g L (Way P mn Φ Stop)):Way P mn Φ Stop g L:=
 Way.vM g L hr fun w hw=>h w hw.1
def gy(P:Program)(mn:Bool)(Φ:World→Prop)(Stop:Goroutine→LH→Prop):ax P:=⟨mn,Way P mn Φ Stop,fun g L hr hs=>Way.step g L hr hs,fun a v=>∀w,Φ w→w.cell? a=some v,fun _ g' _ a v es h hr he hs hk=>⟨.sP hr a v g' es he h (fun w _ hw=>hs w (h w hw)) (Classical.choice hk)⟩⟩
theorem Way.stop{P:Program}{mn:Bool}{Φ:World→Prop}{Stop:Goroutine→LH→Prop}{g:Goroutine}{L:LH}(h:Stop g L):Way P mn Φ Stop g L:=⟨.stop h⟩
open Classical in
noncomputable def uD.tree {P:Program}{mn:Bool}{Φ:World→Prop}{Stop:Goroutine→LH→Prop}{g:Goroutine}{L:LH}:uD P mn Φ Stop g L→Tree
 | .stop _=>.leaf
 | .own _ _ _ k=>.node fun w=>if hw:Sub _ w∧Φ w then(k w hw).tree else .leaf
 | .sP _ _ _ _ _ _ _ _ k=>.node fun _=>k.tree
def At(P:Program)(mn:Bool)(Φ:World→Prop)(Stop:Goroutine→LH→Prop)(T:Tree)(g:Goroutine)(L:LH):Prop:=∃x:uD P mn Φ Stop g L,x.tree=T
theorem Way.at{P:Program}{mn:Bool}{Φ:World→Prop}{Stop:Goroutine→LH→Prop}{g:Goroutine}{L:LH}(h:Way P mn Φ Stop g L):∃T,At P mn Φ Stop T g L:=⟨_,Classical.choice h,rfl⟩
def Fl(P:Program)(mn:Bool)(Φ:World→Prop)(g:Goroutine)(L:LH)(K:Goroutine→LH→Prop):Prop:=
 (∀w,Sub L w→Φ w→∃g' w' es L',stepG P mn g w=.go g' w' es∧Tr L L' w w' es∧K g' L')∨
 ∃a v g' es,(∀e∈es,e=⟨.cell a,false,false⟩)∧(∀w,Φ w→w.cell? a=some v)∧(∀w,Sub L w→Φ w→stepG P mn g w=.go g' w es)∧K g' L
theorem At.DO{P:Program}{mn:Bool}{Φ:World→Prop}{Stop:Goroutine→LH→Prop}{g:Goroutine}{L:LH}{T:Tree}(h:At P mn Φ Stop T g L):
  (Stop g L∧T=.leaf)∨(g.status=.running∧Fl P mn Φ g L fun g' L'=>∃T',At P mn Φ Stop T' g' L'∧Tree.sub T' T):=by
 obtain⟨x,rfl⟩:=h;cases x with
 | stop h=>exact .inl ⟨h,rfl⟩
 | own hr nx h k=>
  refine .inr ⟨hr,.inl fun w jY I2=>?_⟩;have hw:Sub L w∧Φ w:=⟨jY,I2⟩;obtain⟨w',es,h1,h2⟩:=h w hw;refine⟨_,w',es,_,h1,h2,_,⟨k w hw,rfl⟩,_,w,rfl,?_⟩;simp[hw]
 | sP hr a v g' es wG l7 h k=>
  by_cases hw:∃w,Sub L w∧Φ w
  ·obtain⟨w,_⟩:=hw;exact .inr ⟨hr,.inr ⟨a,v,g',es,wG,l7,h,_,⟨k,rfl⟩,_,w,rfl,rfl⟩⟩
  ·exact .inr ⟨hr,.inl fun w h1 h2=>absurd ⟨w,h1,h2⟩ hw⟩
theorem At.G0{P:Program}{mn:Bool}{Φ:World→Prop}{Stop:Goroutine→LH→Prop}{g:Goroutine}{L:LH}(h:Stop g L):At P mn Φ Stop .leaf g L:=⟨.stop h,rfl⟩
theorem At.running{P:Program}{mn:Bool}{Φ:World→Prop}{Stop:Goroutine→LH→Prop}{g:Goroutine}{L:LH}{T:Tree}(h:At P mn Φ Stop T g L)(hs:∀g L,Stop g L→g.status=.running):g.status=.running:=by
 rcases h.DO with⟨h,_⟩ | ⟨h,_⟩
 ·exact hs _ _ h
 ·exact h
structure ye(Ls:Nat→LH)(Sh Am Pt:Nat→Prop)(w:World)(t:Trace):Prop where
 sub:∀i,Sub (Ls i) w
 apart:∀i j b o,i≠j→Ls i b=some (o,true)→Ls j b=none
 sh:∀i b,Sh b→Ls i b=none
 nQ:∀b,Sh b→b<w.heap.size
 q9:∀i idx a b o wr,touchAt t idx=some a→cU a.loc=some b→Ls i b=some (o,wr)→(a.write=true∨wr=true)→Knows t i idx
 seen:∀idx a b,touchAt t idx=some a→cU a.loc=some b→b<w.heap.size
 clean:∀said,¬Race said t
 uF:∀b,Am b→Sh b
 atomic:∀idx a b,touchAt t idx=some a→cU a.loc=some b→Am b→a.kind=.plain→∀i,Pt i→Knows t i idx
section
variable {Ls:Nat→LH}{Sh Am Pt:Nat→Prop}{w w':World}{t:Trace}
theorem ye.own(h:ye Ls Sh Am Pt w t){i:Nat}{L':LH}{es:Array Event}(ht:Tr (Ls i) L' w w' es)(fn:FuncId)(pos:String):
  ye (upd Ls i L') Sh Am Pt w' (t++MemOp.ofEvents i fn pos es):=by
 have hold:∀b,b<w.heap.size→L' b≠none→Ls i b≠none:=fun b hb hn=>(ht.gP b hn).elim id fun e=>by omega
 have aZ:∀op∈MemOp.ofEvents i fn pos es,op.g=i∧∃e∈es,op.act=.ofEvent e:=fun op aZ=>by
  obtain⟨e,he,hx⟩:=Go.Conc.mem_ofEvents aZ;rw[hx];exact⟨rfl,e,he,rfl⟩
 have lL:∀j,j≠i→∀b x,Ls j b=some x→L' b=none∨(∃o,x.2=false∧L' b=some (o,false)):=by
  intro j hj b x hx;have aU:=(h.sub j).lt (b:=b) (by rw[hx];simp);cases hl:L' b with
  | none=>exact .inl rfl
  | some y=>
   obtain⟨o,wr⟩:=y;have h0:=hold b aU (by rw[hl];simp);cases hi:Ls i b with
   | none=>exact absurd hi h0
   | some z=>
    obtain⟨o',hz⟩:=ht.old b z hi;rw[hl] at hz;cases hz
    right
    cases hwr:z.2 with
    | true=>have:=h.apart i j b z.1 (Ne.symm hj) (by rw[hi];obtain⟨z1,z2⟩:=z;simp_all);rw[this] at hx;cases hx
    | false=>
     refine⟨o,?_,by simp⟩;cases qx:x.2 with
     | false=>rfl
     | true=>have:=h.apart j i b x.1 hj (by rw[hx];obtain⟨x1,x2⟩:=x;simp_all);rw[this] at hi;cases hi
 refine⟨fun j=>?_,fun j k b o Zq hj=>?_,fun j b hb=>?_,fun b hb=>Nat.lt_of_lt_of_le (h.nQ b hb) ht.size,fun j idx a b o wr ha hb hl hw=>?_,fun idx a b ha hb=>?_,fun said=>?_,h.uF,fun idx a b ha hb hs hp j hj=>?_⟩
 ·by_cases e:j=i
  ·subst e;rw[upd_same];exact ht.sub
  ·rw[upd_ne _ _ e];intro b o wr hl;have aU:=(h.sub j).lt (b:=b) (by rw[hl];simp);have hw:=h.sub j b o wr hl;cases hi:Ls i b with
   | none=>rw[ht.keep b aU hi];exact hw
   | some z=>
    obtain⟨o',ep⟩:=z;cases ep with
    | true=>rw[h.apart i j b o' (Ne.symm e) hi] at hl;cases hl
    | false=>
     have h1:=ht.sub b o' false (ht.nP b o' hi);have h2:=h.sub i b o' false hi;rw[hw] at h2;rw[h1,h2]
 ·by_cases ej:j=i
  ·subst ej;rw[upd_same] at hj;rw[upd_ne _ _ (Ne.symm Zq)];cases hk:Ls k b with
   | none=>rfl
   | some x=>
    rcases lL k (Ne.symm Zq) b x hk with e | ⟨o',_,e⟩
    ·rw[e] at hj;cases hj
    ·rw[e] at hj;cases hj
  ·rw[upd_ne _ _ ej] at hj
   by_cases ek:k=i
   ·subst ek;rw[upd_same];rcases lL j ej b _ hj with e | ⟨o',e,_⟩
    ·exact e
    ·cases e
   ·rw[upd_ne _ _ ek];exact h.apart j k b o Zq hj
 ·by_cases e:j=i
  ·subst e;rw[upd_same];have h1:=h.sh j b hb;cases hl:L' b with
   | none=>rfl
   | some x=>exact absurd h1 (hold b (h.nQ b hb) (by rw[hl];simp))
  ·rw[upd_ne _ _ e];exact h.sh j b hb
 ·obtain⟨x,hx,dU⟩:=touch_of ha;rcases getElem?_append_cases hx with⟨hi,jZ⟩ | ⟨_,qV⟩
  ·have u7:touchAt t idx=some a:=by rw[touchAt_of jZ];exact dU
   by_cases e:j=i
   ·subst e;rw[upd_same] at hl;have Cu:b<w.heap.size:=h.seen idx a b u7 hb;cases tJ:Ls j b with
    | none=>exact absurd tJ (hold b Cu (by rw[hl];simp))
    | some z=>
     obtain⟨o',hz⟩:=ht.old b z tJ;rw[hl] at hz;cases hz;exact(h.q9 j idx a b z.1 z.2 u7 hb tJ hw).app _
   ·rw[upd_ne _ _ e] at hl;exact(h.q9 j idx a b o wr u7 hb hl hw).app _
  ·obtain⟨hg,ev,cN,cQ⟩:=aZ x qV
   by_cases e:j=i
   ·have:=knows_own hx;rw[hg] at this;subst e;exact this
   ·rw[upd_ne _ _ e] at hl;rw[cQ] at dU;obtain⟨b',o',ep,h1,h2,h3⟩:=eh (ht.ev ev cN) dU;rw[hb] at h1;cases h1;rcases lL j e b _ hl with e' | ⟨o'',e1,e2⟩
    ·rw[e'] at h2;cases h2
    ·rw[e2] at h2;cases h2;simp only at e1;rcases hw with hw | hw
     ·exact absurd (h3 hw) (by simp)
     ·rw[hw] at e1;cases e1
 ·obtain⟨x,hx,dU⟩:=touch_of ha;rcases getElem?_append_cases hx with⟨hi,jZ⟩ | ⟨_,qV⟩
  ·exact Nat.lt_of_lt_of_le (h.seen idx a b (by rw[touchAt_of jZ];exact dU) hb) ht.size
  ·obtain⟨_,ev,cN,cQ⟩:=aZ x qV;rw[cQ] at dU;obtain⟨b',o',ep,h1,h2,h3⟩:=eh (ht.ev ev cN) dU;rw[hb] at h1;cases h1;exact ht.sub.lt (by rw[h2];simp)
 ·refine noRace_append (h.clean said) (fun op ho=>(aZ op ho).1) fun idx a ha op ho b hb hc=>?_;obtain⟨_,ev,cN,cQ⟩:=aZ op ho;rw[cQ] at hb;obtain⟨bl,o,wr,h1,h2,h3⟩:=eh (ht.ev ev cN) hb;rw[←hc.1] at h1;have Cu:bl<w.heap.size:=h.seen idx a bl ha h1;cases tJ:Ls i bl with
  | none=>exact absurd tJ (hold bl Cu (by rw[h2];simp))
  | some z=>
   obtain⟨o',hz⟩:=ht.old bl z tJ;rw[h2] at hz;cases hz;refine h.q9 i idx a bl z.1 z.2 ha h1 tJ ?_;rcases hc.2.2.1 with e | e
   ·exact .inl e
   ·exact .inr (h3 e)
 ·obtain⟨x,hx,dU⟩:=touch_of ha;rcases getElem?_append_cases hx with⟨hi,jZ⟩ | ⟨_,qV⟩
  ·exact(h.atomic idx a b (by rw[touchAt_of jZ];exact dU) hb hs hp j hj).app _
  ·obtain⟨hg,ev,cN,cQ⟩:=aZ x qV;rw[cQ] at dU;obtain⟨b',o',ep,h1,h2,h3⟩:=eh (ht.ev ev cN) dU;rw[hb] at h1;cases h1;exact absurd (h.sh i b (h.uF b hs)) (hold b (h.nQ b (h.uF b hs)) (by rw[h2];simp))
end
end Go.Mz
