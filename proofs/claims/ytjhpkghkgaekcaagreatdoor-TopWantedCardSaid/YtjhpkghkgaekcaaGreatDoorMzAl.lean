/- Lemmas for the claim. -/
import Derived.Test.YtjhpkghkgaekcaaGreatDoorMzAk
import Derived.Conc.CrowdSpec
set_option linter.defProp false
set_option maxRecDepth 100000
namespace Go.Mz
open Go.Conc
variable {P:aV}{α:Type}{X:aM P}{n k m:Nat}{L R J:LH}{t e:bh}{w u:World}{h:α->List Value}{c:Int}{B:aX}{x:aW}{Y:Trace}{l:aH}{r:List α}{q:aU}{Q:bC}{E:cK}{j:aR}{D:bt}{d:bA}{F:Env}{g:aT}{o:bD}{N:Nm}{K:bI}{z:SV}{I:cj}{H:ck}
section
open Go.ConcN (sumTo upd sumTo_upd upd_ne upd_same)
inductive Tree where
 | leaf
 | node (f:World->Tree)
abbrev eN:=Nat->Tree
def Tree.sub(a b:Tree):Prop:=∃f w,b=.node f/\a=f w
theorem Tree.acc:∀t:Tree,Acc Tree.sub t
 | .leaf=>⟨_,λ_ ⟨_,_,h,_⟩=>by cases h⟩
 | .node f=>⟨_,λa ⟨g,w,h,e⟩=>by cases h;subst e;exact Tree.acc (f w)⟩
def Tree.wf:WellFounded Tree.sub:=⟨Tree.acc⟩
def Tree.num:Nat->Tree
 | 0=>.leaf
 | n+1=>.node λ_=>num n
def Tree.Aa(w:World)(n:Nat):Tree.sub (Tree.num n) (Tree.num (n+1)):=⟨_,w,rfl,rfl⟩
def wE(n:Nat)(f' f:eN):Prop:=∃i,i<n/\Tree.sub (f' i) (f i)/\∀j,j≠i->f' j=f j
def wE.acc:∀(n:Nat) (f:eN),Acc (wE n) f
 | 0,f=>⟨_,λ_ ⟨i,h,_⟩=>by omega⟩
 | n+1,f=>by
  have j:∀t:Tree,∀f:Nat->Tree,f n=t->Acc (wE (n+1)) f:=by
   intro t
   induction t using Tree.wf.induction with
   | _ t ih1=>
   intro f a;have z:=wE.acc n f
   induction z with
   | intro f _ q=>
    refine⟨_,λu ⟨i,o,v,d⟩=>?_⟩
    by_cases e:i=n
    .subst e;exact ih1 (u i) (a▸v) u rfl
    .exact q u ⟨i,M,v,d⟩ (by rwa[d n (dG e)])
  exact j _ f rfl
def HO(n:Nat):Nat×(Nat->Tree)->Nat×(Nat->Tree)->Prop:=Prod.Lex (·<·) (wE n)
def HO.wf(n:Nat):WellFounded (HO n):=⟨λx=>Prod.lexAccessible (Nat.lt_wfRel.wf.apply x.1) (λb=>wE.acc n b) x.2⟩
inductive Dp(P:Program)(mn:Bool)(Φ:World->Prop)(Stop:Goroutine->LH->Prop):Goroutine->LH->Type
 | stop {g:Goroutine} {L:LH}:Stop g L->Dp P mn Φ Stop g L
 | own {g:Goroutine} {L:LH} (hr:g.status=.running) (nx:∀w,Sub L w/\Φ w->Goroutine×LH)
   (h:∀w hw,∃w' es,stepG P mn g w=.go (nx w hw).1 w' es/\Tr L (nx w hw).2 w w' es) (k:∀w hw,Dp P mn Φ Stop (nx w hw).1 (nx w hw).2):Dp P mn Φ Stop g L
 | BQ {g:Goroutine} {L:LH} (hr:g.status=.running) (a:Addr) (v:Value) (g':Goroutine) (es:Array Event) (hes:∀e∈es,e=⟨.cell a,false,false⟩) (Z3:∀w,Φ w->w.cell? a=some v)
   (h:∀w,Sub L w->Φ w->stepG P mn g w=.go g' w es) (k:Dp P mn Φ Stop g' L):Dp P mn Φ Stop g L
def Way(P:aV)(mn:Bool)(Φ:iF)(Stop:cg)(g:aT)(L:LH):Prop:=Nonempty (Dp P mn Φ Stop g L)
def Way.EF{s:Bool}{Φ:iF}{t:cg}(g:aT)(L:LH)(b:g.status=.running)
  (h:∀w,Sub L w/\Φ w->∃l c q v,stepG P s g w=.go l c q/\Tr L v w c q/\Way P s Φ t l v):Way P s Φ t g L:=by
 refine⟨.own b (λw u=>((h w u).choose,(h w u).choose_spec.choose_spec.choose_spec.choose)) (λw u=>?_) (λw u=>?_)⟩
 .exact⟨(h w u).choose_spec.choose,(h w u).choose_spec.choose_spec.choose,(h w u).choose_spec.choose_spec.choose_spec.choose_spec.1,(h w u).choose_spec.choose_spec.choose_spec.choose_spec.2.1⟩
 .exact Classical.choice (h w u).choose_spec.choose_spec.choose_spec.choose_spec.2.2
def Way.step{s:Bool}{Φ:iF}{t:cg}(g:aT)(L:LH)(b:g.status=.running)(h:U7 P s g L (Way P s Φ t)):Way P s Φ t g L:=
 Way.EF g L b λw u=>h w u.1
def iY(P:aV)(mn:Bool)(Φ:iF)(Stop:cg):aM P:=⟨mn,Way P mn Φ Stop,λg L hr hs=>Way.step g L hr hs,λa v=>∀w,Φ w->w.cell? a=v,λ_ g' _ a v es h hr he hs hk=>⟨.BQ hr a v g' es he h (λw _ hw=>hs w (h w hw)) (Classical.choice hk)⟩⟩
def Way.stop{s:Bool}{Φ:iF}{t:cg}(h:t g L):Way P s Φ t g L:=⟨.stop h⟩
open Classical in
noncomputable def Dp.tree {P:aV}{mn:Bool}{Φ:iF}{Stop:cg}{g:aT}{L:LH}:Dp P mn Φ Stop g L->Tree
 | .stop _=>.leaf
 | .own _ _ _ k=>.node λw=>if hw:Sub _ w/\Φ w then(k w hw).tree else .leaf
 | .BQ _ _ _ _ _ _ _ _ k=>.node λ_=>k.tree
def At(P:aV)(mn:Bool)(Φ:iF)(Stop:cg)(T:Tree)(g:aT)(L:LH):Prop:=∃x:Dp P mn Φ Stop g L,x.tree=T
def Way.at{s:Bool}{Φ:iF}{t:cg}(h:Way P s Φ t g L):∃T,At P s Φ t T g L:=⟨_,Classical.choice h,rfl⟩
def RI(P:aV)(mn:Bool)(Φ:iF)(g:aT)(L:LH)(K:cg):Prop:=
 (∀w,Sub L w->Φ w->∃g' w' es L',stepG P mn g w=.go g' w' es/\Tr L L' w w' es/\K g' L')\/
 ∃a v g' es,(∀e∈es,e=⟨.cell a,false,false⟩)/\(∀w,Φ w->w.cell? a=some v)/\(∀w,Sub L w->Φ w->stepG P mn g w=.go g' w es)/\K g' L
def At.HQ{s:Bool}{Φ:iF}{t:cg}{T:Tree}(h:At P s Φ t T g L):
  (t g L/\T=.leaf)\/(g.status=.running/\RI P s Φ g L λl f=>∃i,At P s Φ t i l f/\Tree.sub i T):=by
 obtain⟨x,rfl⟩:=h;cases x with
 | stop h=>exact .inl ⟨h,rfl⟩
 | own hr nx h k=>
  refine .inr ⟨hr,.inl λw e y=>?_⟩;let u:Sub L w/\Φ w:=⟨e,y⟩;let⟨c,q,d,z⟩:=h w u;exists _,c,q,_,d,z,_,⟨k w u,rfl⟩,_,w,rfl;simp[u]
 | BQ hr a v l q hes Z3 h k=>
  by_cases u:∃w,Sub L w/\Φ w
  .let⟨w,_⟩:=u;exact .inr ⟨hr,.inr ⟨a,v,l,q,hes,Z3,h,_,⟨k,rfl⟩,_,w,rfl,rfl⟩⟩
  .exact .inr ⟨hr,.inl λw d z=>ar ⟨w,d,z⟩ u⟩
def LX{a:Addr}{v:Value}(h:Go.ConcN.WgLive n k w)(z:∀w,Go.ConcN.WgLive n k w->w.cell? a=v):False:=by
 let⟨r,d,u⟩:=h;have f:=z w ⟨r,d,u⟩;obtain⟨i,_⟩:=iL.1 (u)
 by_cases e:a.block=k
 .have q:=z {w with heap:=w.heap.setIfInBounds k (Go.ConcR.wgBlock n (r+1) (d+1))} ⟨r+1,d+1,by
   show(w.heap.setIfInBounds k _)[k]?=_;rw[oZ i]⟩
  unfold World.cell? at f q;rw[e] at f q;rw[show w.heap[k]?=(Go.ConcR.wgBlock n r d) from u] at f;rw[show(w.heap.setIfInBounds k (Go.ConcR.wgBlock n (r+1) (d+1)))[k]?=(Go.ConcR.wgBlock n (r+1) (d+1)) by rw[oZ i]] at q;obtain⟨c,off,o⟩:=a;simp only[Go.ConcR.wgBlock] at f q
  match off,f,q with
  | 0,f,q=>
   cases o with
   | some s=>simp at f
   | none=>
    simp at f q;rw[<-f] at q;simp at q;omega
  | 1,f,q=>
   cases o with
   | some s=>simp at f
   | none=>
    simp at f q;rw[<-f] at q;simp at q;omega
  | off+2,f,q=>cases o <;> simp at f
 .have q:=z {w with heap:=w.heap.setIfInBounds a.block (.cells #[] 0 (0,0))} ⟨r,d,by
   show(w.heap.setIfInBounds a.block _)[k]?=_;rw[jI e];exact u⟩
  unfold World.cell? at f q;have m:a.block<w.heap.size:=by
   cases t:w.heap[a.block]? with
   | none=>rw[t] at f;cases f
   | some y=>exact(iL.1 t).1
  rw[show(w.heap.setIfInBounds a.block (.cells #[] 0 (0,0)))[a.block]?=some (.cells #[] 0 (0,0)) by rw[oZ m]] at q;cases g:a.spot <;> simp[g] at q
def At.cases{s:Bool}{t:cg}{T:Tree}(h:At P s (Go.ConcN.WgLive n k) t T g L):
  (t g L/\T=.leaf)\/(g.status=.running/\∀w,Sub L w->Go.ConcN.WgLive n k w->∃l c q u e,stepG P s g w=.go l c q/\Tr L u w c q/\At P s (Go.ConcN.WgLive n k) t e l u/\Tree.sub e T):=by
 rcases h.HQ with h | ⟨b,h | ⟨a,v,l,q,_,d,_⟩⟩
 .exact .inl h
 .refine .inr ⟨b,λw d z=>?_⟩;let⟨l,c,q,u,r,x,e,i,f⟩:=h w d z;exact⟨l,c,q,u,e,r,x,i,f⟩
 .exact .inr ⟨b,λw _ z=>(LX z d).elim⟩
def At.J4{mn:Bool}{Φ:iF}{t:cg}(h:t g L):At P mn Φ t .leaf g L:=⟨.stop h,rfl⟩
def At.running{s:Bool}{Φ:iF}{t:cg}{T:Tree}(h:At P s Φ t T g L)(a:∀g L,t g L->g.status=.running):g.status=.running:=by
 rcases h.HQ with⟨h,_⟩ | ⟨h,_⟩
 .exact a _ _ h
 .exact h
structure oD(Ls:Nat->LH)(Sh Am Pt:Nat->Prop)(w:World)(t:Trace):Prop where
 sub:∀i,Sub (Ls i) w
 apart:∀i j b o,i≠j->Ls i b=some (o,true)->Ls j b=none
 sh:∀i b,Sh b->Ls i b=none
 ml:∀b,Sh b->b<w.heap.size
 qm:∀i idx a b o wr,touchAt t idx=some a->dQ a.loc=some b->Ls i b=some (o,wr)->(a.write=true\/wr=true)->Knows t i idx
 seen:∀idx a b,touchAt t idx=some a->dQ a.loc=some b->b<w.heap.size
 clean:∀said,¬Race said t
 qH:∀b,Am b->Sh b
 atomic:∀idx a b,touchAt t idx=some a->dQ a.loc=some b->Am b->a.kind=.plain->∀i,Pt i->Knows t i idx
def oD.own{X:dD}{D Am v:bt}{w u:World}{Y:Trace}(h:oD X D Am v w Y){i:Nat}{L:LH}{es:gW}(s:Tr (X i) L w u es)(fn:bO)(pos:ck):
  oD (upd X i L) D Am v u (Y++MemOp.ofEvents i fn pos es):=by
 let hold:∀b,b<w.heap.size->L b≠none->X i b≠none:=λb d hn=>(s.jZ b hn).elim id λe=>by omega
 let t:∀op∈MemOp.ofEvents i fn pos es,op.g=i/\∃e∈es,op.act=.ofEvent e:=λop t=>by
  let⟨e,he,Q⟩:=Go.Conc.mem_ofEvents t;rw[Q];exact⟨rfl,e,he,rfl⟩
 let T:∀j,j≠i->∀b x,X j b=some x->L b=none\/(∃o,x.2=false/\L b=some (o,false)):=by
  intro j R b x Q;let u1:=(h.sub j).lt (by rw[Q];simp);cases F:L b with
  | none=>exact .inl rfl
  | some y=>
   let⟨o,wr⟩:=y;let f:=hold b u1 (by rw[F];simp);cases S:X i b with
   | none=>exact ar S f
   | some z=>
    let⟨m,p⟩:=s.old b z S;rw[F] at p;cases p
    right
    cases u4:z.2 with
    | true=>have:=h.apart i j b z.1 (dG R) (by rw[S];let⟨z1,z2⟩:=z;simp_all);rw[this] at Q;cases Q
    | false=>
     refine⟨o,?_,U⟩;cases l:x.2 with
     | false=>rfl
     | true=>have:=h.apart j i b x.1 R (by rw[Q];let⟨x1,x2⟩:=x;simp_all);rw[this] at S;cases S
 refine⟨λj=>?_,λj k b o u2 R=>?_,λj b d=>?_,λb d=>lg (h.ml b d) s.size,λj I a b o wr E d F C=>?_,λI a b E d=>?_,λsaid=>?_,h.qH,λI a b E d hs hp j R=>?_⟩
 .by_cases e:j=i
  .subst e;rw[upd_same];exact s.sub
  .rw[upd_ne _ _ e];intro b o wr F;let u1:=(h.sub j).lt (by rw[F];simp);let C:=h.sub j b o wr F;cases S:X i b with
   | none=>rwa[s.keep b u1 S]
   | some z=>
    let⟨m,B⟩:=z;cases B with
    | true=>rw[h.apart i j b m (dG e) S] at F;cases F
    | false=>
     let q:=s.sub b m false (s.vG b m S);let H:=h.sub i b m false S;rw[C] at H;rw[q,H]
 .by_cases ej:j=i
  .subst ej;rw[upd_same] at R;rw[upd_ne _ _ (dG u2)];cases hk:X k b with
   | none=>rfl
   | some x=>
    rcases T k (dG u2) b x hk with e | ⟨m,_,e⟩
    .rw[e] at R;cases R
    .rw[e] at R;cases R
  .rw[upd_ne _ _ ej] at R
   by_cases ek:k=i
   .subst ek;rw[upd_same];rcases T j ej b _ R with e | ⟨m,e,_⟩
    .exact e
    .cases e
   .rw[upd_ne _ _ ek];exact h.apart j k b o u2 R
 .by_cases e:j=i
  .subst e;rw[upd_same];let q:=h.sh j b d;cases F:L b with
   | none=>rfl
   | some x=>exact ar q (hold b (h.ml b d) (by rw[F];simp))
  .rw[upd_ne _ _ e];exact h.sh j b d
 .let⟨x,Q,J⟩:=touch_of E;rcases getElem?_append_cases Q with⟨S,sJ⟩ | ⟨_,sK⟩
  .let u3:touchAt Y I=a:=by rwa[touchAt_of sJ]
   by_cases e:j=i
   .subst e;rw[upd_same] at F;let W:=h.seen I a b u3 d;cases G:X j b with
    | none=>exact ar G (hold b W (by rw[F];simp))
    | some z=>
     let⟨m,p⟩:=s.old b z G;rw[F] at p;cases p;exact(h.qm j I a b z.1 z.2 u3 d G C).app _
   .rw[upd_ne _ _ e] at F;exact(h.qm j I a b o wr u3 d F C).app _
  .let⟨n,ev,c,K⟩:=t x sK
   by_cases e:j=i
   .have:=knows_own Q;rw[n] at this;subst e;exact this
   .rw[upd_ne _ _ e] at F;rw[K] at J;let⟨b',m,B,q,H,r⟩:=iV (s.ev ev c) J;rw[d] at q;cases q;rcases T j e b _ F with e' | ⟨u5,e1,e2⟩
    .rw[e'] at H;cases H
    .rw[e2] at H;cases H;rcases C with C | C
     .exact ar (r C) U
     .rw[C] at e1;cases e1
 .let⟨x,Q,J⟩:=touch_of E;rcases getElem?_append_cases Q with⟨S,sJ⟩ | ⟨_,sK⟩
  .exact lg (h.seen I a b (by rwa[touchAt_of sJ]) d) s.size
  .let⟨_,ev,c,K⟩:=t x sK;rw[K] at J;let⟨b',m,B,q,H,r⟩:=iV (s.ev ev c) J;rw[d] at q;cases q;exact s.sub.lt (by rw[H];simp)
 .refine noRace_append (h.clean said) (λop ho=>(t op ho).1) λI a E op ho b d hc=>?_;let⟨_,ev,c,K⟩:=t op ho;rw[K] at d;let⟨bl,o,wr,q,H,r⟩:=iV (s.ev ev c) d;rw[<-hc.1] at q;let W:=h.seen I a bl E q;cases G:X i bl with
  | none=>exact ar G (hold bl W (by rw[H];simp))
  | some z=>
   let⟨m,p⟩:=s.old bl z G;rw[H] at p;cases p;refine h.qm i I a bl z.1 z.2 E q G ?_;rcases hc.2.2.1 with e | e
   .exact .inl e
   .exact .inr (r e)
 .let⟨x,Q,J⟩:=touch_of E;rcases getElem?_append_cases Q with⟨S,sJ⟩ | ⟨_,sK⟩
  .exact(h.atomic I a b (by rwa[touchAt_of sJ]) d hs hp j R).app _
  .let⟨n,ev,c,K⟩:=t x sK;rw[K] at J;let⟨b',m,B,q,H,r⟩:=iV (s.ev ev c) J;rw[d] at q;cases q;exact ar (h.sh i b (h.qH b hs)) (hold b (h.ml b (h.qH b hs)) (by rw[H];simp))
end
end Go.Mz
