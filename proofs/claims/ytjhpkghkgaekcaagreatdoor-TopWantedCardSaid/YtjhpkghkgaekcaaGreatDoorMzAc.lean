/- Lemmas for the claim. -/
import Derived.Test.YtjhpkghkgaekcaaGreatDoorMzAb
import Derived.Conc.Own
set_option linter.defProp false
set_option maxRecDepth 100000
namespace Go.Mz
open Go.Conc
variable {n k m:Nat}{t e:bh}{w u:World}{c:Int}{x:aW}{Y:Trace}{l:aH}{q:aU}{j:aR}{D:bt}{d:bA}{g:aT}{o:bD}{K:bI}{I:cj}
abbrev LH:=Nat->Option (Obj×Bool)
abbrev bC:=Value->LH->Prop
abbrev cg:=Goroutine->LH->Prop
abbrev dD:=Nat->LH
abbrev kP:=List PanicEntry->LH->Prop
abbrev mc:=Bool->LH->Prop
abbrev sW:=LH->Prop
abbrev x6:=Unit->LH->Prop
abbrev Ay:=Next->LH->Prop
abbrev C7:=FrameMode->LH->Prop
abbrev C9:=(Nat->Prop)->Goroutine->LH->Prop
abbrev Gm:=Nat->Goroutine->LH->Prop
abbrev LO:=Nat->LH->Prop
abbrev Q6:=Option (Nat×Value)->LH->Prop
abbrev Xe:=Option Bool×Unit->LH->Prop
abbrev Xf:=FuncId×Value->LH->Prop
abbrev Xg:=Option (TypeId×Addr×Nat)->LH->Prop
def LH.cell?(L:LH)(a:Addr):Option Value:=
 match L a.block with
 | some (.cells c _ _,_)=>if a.spot.isSome then none else c[a.off]?
 | _=>none
def LH.GN(L:LH)(a:Addr):Bool:=
 match L a.block with
 | some (.cells c _ (lo,hi),true)=>a.spot.isNone&&decide (a.off<c.size)&&!(decide (lo<=a.off)&&decide (a.off<hi))
 | _=>false
def LH.put(L:LH)(b:Nat)(o:Obj):LH:=λb'=>if b'=b then (o,true) else L b'
def ng(a:Addr)(v:Value):Obj->Obj
 | .cells c elem frozen=>.cells (if a.spot.isSome then c else c.setIfInBounds a.off v) elem frozen
 | o=>o
def LH.setCell(L:LH)(a:Addr)(v:Value):LH:=λb=>if b=a.block then(L b).map (λx=>(ng a v x.1,x.2)) else L b
def single:Value->Bool
 | .agg _ | .tuple _=>false
 | _=>true
def frz(fz:km)(a:Addr)(n:Nat):Nat×Nat:=if n=0 then fz else if fz.1==fz.2 then(a.off,a.off+n) else(min fz.1 a.off,max fz.2 (a.off+n))
def VL{a:Addr}{c:aK}{t:km}(h:w.heap[a.block]?=some (.cells c e t)):w.freeze a n={w with heap:=w.heap.setIfInBounds a.block (.cells c e (frz t a n))}:=by
 let⟨o,q⟩:=iL.1 h;unfold World.freeze frz
 by_cases y:n=0
 .rw[ax y,ax y];have:w.heap.setIfInBounds a.block (.cells c e t)=w.heap:=by
   apply E6;intro i
   by_cases u:a.block=i
   .subst u;rw[Array.getElem?_setIfInBounds_self,ax o,h]
   .rw[jI u]
  rw[this]
 .rw[A y,A y]
  congr 1
  apply E6;intro i;rw[Array.getElem?_modify]
  by_cases u:a.block=i
  .subst u;rw[ax rfl,Array.getElem?_setIfInBounds_self,ax o,h];obtain⟨s,u⟩:=t
   rfl
  .rw[A u,jI u]
def pN(q:Question)(n:Nat):Prop:=if q.forced then n=0 else ∃t,n=q.cut t
def mq:Obj->Bool
 | .cells .. | .chan .. | .view .. | .number .. | .pending ..=>true
 | _=>false
section
variable {α:Type}(P:aV)(Q:α->LH->Prop)(H:Value->LH->Prop)
def aP:Sem α->LH->Prop
 | .pure a,L=>Q a L
 | .load m a k,L=>
  match m,L.cell? a with
  | .plain,some v=>aP (k v) L
  | _,_=>False
 | .store m a v k,L=>(m=.plain/\single v=true/\L.GN a=true)/\aP k (L.setCell a v)
 | .new o k,L=>∀b,L b=none->aP (k b) (L.put b o)
 | .shape r k,L=>
  match L r with
  | some (.cells c e _,_)=>aP (k (some (e,c.size))) L
  | some _=>aP (k none) L
  | none=>False
 | .freeze a n k,L=>
  match L a.block with
  | some (.cells c e fz,true)=>aP k (L.put a.block (.cells c e (frz fz a n)))
  | _=>False
 | .frozen a k,L=>
  match L a.block with
  | some (.cells _ _ (lo,hi),_)=>aP (k (decide (lo<=a.off)&&decide (a.off<hi))) L
  | some _=>aP (k false) L
  | none=>False
 | .getObj r k,L=>
  match L r with
  | some (o,_)=>if mq o then False else aP (k o) L
  | none=>False
 | .setObj r o k,L=>
  match L r with
  | some (o',true)=>if mq o'||mq o then False else aP k (L.put r o)
  | _=>False
 | .choose q k,L=>∀n,pN q n->aP (k n) L
 | .sys _ _,_=>False
 | .program k,L=>aP (k P) L
 | .mark m k,L=>(m=.noRoom\/∃f,m=.extern f)/\aP k L
 | .halt (.panic v),L=>H v L
 | .halt _,_=>False
end
def Sub(L:LH)(w:World):Prop:=∀b o wr,L b=some (o,wr)->w.heap[b]?=o
def vk(L:LH)(e:Event):Prop:=
 match e.loc with
 | .cell a=>e.sync=false/\∃o wr,L a.block=some (o,wr)/\(e.write=true->wr=true)
 | .obj r=>e.sync=false/\∃o wr,L r=some (o,wr)/\(e.write=true->wr=true)
 | .mark m=>m=.noRoom\/∃f,m=.extern f
 | _=>False
structure Tr(L L':LH)(w w':World)(es:Array Event):Prop where
 sub:Sub L' w'
 tape:w'.tape=w.tape
 os:w'.os=w.os
 out:w'.output=w.output
 size:w.heap.size<=w'.heap.size
 keep:∀b,b<w.heap.size->L b=none->w'.heap[b]?=w.heap[b]?
 jZ:∀b,L' b≠none->L b≠none\/(w.heap.size<=b/\b<w'.heap.size)
 old:∀b x,L b=some x->∃o,L' b=some (o,x.2)
 vG:∀b o,L b=some (o,false)->L' b=some (o,false)
 new:∀b x,L b=none->L' b=some x->x.2=true
 ev:∀e∈es,vk L' e
theorem Sub.lt{L:LH}(h:Sub L w){b:Nat}(d:L b≠none):b<w.heap.size:=by
 cases u:L b with
 | none=>exact ar u d
 | some x=>exact(iL.1 (h b x.1 x.2 u)).1
def Sub.free{L:LH}(h:Sub L w):L w.heap.size=none:=by
 cases u:L w.heap.size with
 | none=>rfl
 | some x=>exact ar (h.lt (b:=w.heap.size) FZ) (Nat.lt_irrefl _)
def Tr.refl{L:LH}(h:Sub L w):Tr L L w w #[]:=
 ⟨h,rfl,rfl,rfl,dA _,λ_ _ _=>rfl,λ_ h=>.inl h,λ_ x h=>⟨x.1,h⟩,λ_ _ h=>h,λ_ _ h p=>(by rw[h] at p;cases p),λe z=>by simp at z⟩
def vk.mono{L R:LH}{e:Event}(j:∀b x,L b=some x->∃o,R b=some (o,x.2))(h:vk L e):vk R e:=by
 unfold vk at h ⊢;cases v:e.loc <;> simp only[v] at h ⊢
 .let⟨q,o,wr,z,r⟩:=h;let⟨m,u⟩:=j _ _ z;exact⟨q,m,wr,u,r⟩
 .let⟨q,o,wr,z,r⟩:=h;let⟨m,u⟩:=j _ _ z;exact⟨q,m,wr,u,r⟩
 .exact h
def Tr.trans{L RG agl:LH}{agN agO:World}{es ZQ:gW}(h:Tr L RG w agN es)(h':Tr RG agl agN agO ZQ):Tr L agl w agO (es++ZQ) where
 sub:=h'.sub
 tape:=h'.tape.trans h.tape
 os:=h'.os.trans h.os
 out:=h'.out.trans h.out
 size:=lI h.size h'.size
 keep:=λb hb hn=>by
  have h1:RG b=none:=by
   cases hx:RG b with
   | none=>rfl
   | some x=>
    rcases h.jZ b F0 with e | e
    .exact ar hn e
    .omega
  rw[h'.keep b (lg hb h.size) h1,h.keep b hb hn]
 jZ:=λb hb=>by
  rcases h'.jZ b hb with e | e
  .rcases h.jZ b e with e | e
   .exact .inl e
   .exact .inr ⟨e.1,lg e.2 h'.size⟩
  .exact .inr ⟨lI h.size e.1,e.2⟩
 old:=λb x hx=>by
  let⟨o,ho⟩:=h.old b x hx;exact h'.old b (o,x.2) ho
 vG:=λb o ho=>h'.vG b o (h.vG b o ho)
 new:=λb x hn hx=>by
  cases h1:RG b with
  | none=>exact h'.new b x h1 hx
  | some y=>
   have:=h.new b y hn h1;let⟨o,ho⟩:=h'.old b y h1;rw[ho] at hx;cases hx;exact this
 ev:=λe he=>by
  rcases Array.mem_append.1 he with he | he
  .exact(h.ev e he).mono h'.old
  .exact h'.ev e he
theorem Tr.world{L:LH}(h:Sub L w)(q:u.heap=w.heap)(s:u.tape=w.tape)(j:u.os=w.os)(a:u.output=w.output):Tr L L w u #[]:=
 ⟨λb o wr e=>by rw[q];exact h b o wr e,s,j,a,by rw[q];exact dA _,λ_ _ _=>by rw[q],λ_ h=>.inl h,λ_ x h=>⟨x.1,h⟩,λ_ _ h=>h,λ_ _ h p=>(by rw[h] at p;cases p),λe z=>by simp at z⟩
def Tr.event{L:LH}(h:Sub L w){e:Event}(z:vk L e):Tr L L w w #[e]:=
 {Tr.refl h with ev:=λx u=>by simp at u;subst u;exact z}
theorem Sub.cell{L:LH}(h:Sub L w){a:Addr}{v:Value}(b:L.cell? a=v):w.cell? a=some v:=by
 unfold LH.cell? at b;unfold World.cell?;cases u:L a.block with
 | none=>rw[u] at b;cases b
 | some x=>
  let⟨o,wr⟩:=x;rw[u] at b;rw[h _ _ _ u];cases o <;> simp_all
def aj(L:LH)(b:Nat)(o:Obj):L.put b o b=some (o,true):=by simp[LH.put]
def aB(L:LH)(o:Obj)(h:k≠n):L.put n o k=L k:=by simp[LH.put,h]
def Tr.alloc{L:LH}(h:Sub L w)(o:Obj):Tr L (L.put w.heap.size o) w {w with heap:=w.heap.push o} #[] where
 sub:=λb o' wr e=>by
  by_cases hb:b=w.heap.size
  .subst hb;rw[aj] at e;cases e;simp
  .rw[aB _ _ hb] at e;have:=h b o' wr e;let SY:=(iL.1 this).1;simp[GC,hb,if_false];exact this
 tape:=rfl
 os:=rfl
 out:=rfl
 size:=U
 keep:=λb hb _=>by
  have:b≠w.heap.size:=M
  simp[GC,this,if_false]
 jZ:=λb hb=>by
  by_cases e:b=w.heap.size
  .exact .inr ⟨M,by simp[e]⟩
  .rw[aB _ _ e] at hb;exact .inl hb
 old:=λb x hx=>by
  have:b≠w.heap.size:=by
   have:=h.lt F0;omega
  exact⟨x.1,by rwa[aB _ _ this]⟩
 vG:=λb o ho=>by
  have:b≠w.heap.size:=by
   have:=h.lt (by rw[ho];simp);omega
  rwa[aB _ _ this]
 new:=λb x hn hx=>by
  by_cases e:b=w.heap.size
  .subst e;rw[aj] at hx;cases hx;rfl
  .rw[aB _ _ e,hn] at hx;cases hx
 ev:=λe he=>by simp at he
def Tr.setObj{L:LH}(h:Sub L w){r:Nat}{o' o:Obj}(hr:L r=some (o',true)):Tr L (L.put r o) w {w with heap:=w.heap.setIfInBounds r o} #[] where
 sub:=λb adn wr e=>by
  let SY:=h.lt (by rw[hr];simp)
  by_cases hb:b=r
  .subst hb;rw[aj] at e;cases e;simp[SY]
  .rw[aB _ _ hb] at e;have:=h b adn wr e;rwa[jI (dG hb)]
 tape:=rfl
 os:=rfl
 out:=rfl
 size:=U
 keep:=λb hb hn=>by
  have:r≠b:=λe=>by subst e;rw[hr] at hn;cases hn
  rw[jI this]
 jZ:=λb hb=>by
  by_cases e:b=r
  .subst e;exact .inl (by rw[hr];simp)
  .rw[aB _ _ e] at hb;exact .inl hb
 old:=λb x hx=>by
  by_cases e:b=r
  .subst e;rw[hr] at hx;cases hx;exact⟨o,aj _ _ _⟩
  .exact⟨x.1,by rwa[aB _ _ e]⟩
 vG:=λb adn ho=>by
  by_cases e:b=r
  .subst e;rw[hr] at ho;cases ho
  .rwa[aB _ _ e]
 new:=λb x hn hx=>by
  by_cases e:b=r
  .subst e;rw[hr] at hn;cases hn
  .rw[aB _ _ e,hn] at hx;cases hx
 ev:=λe he=>by simp at he
def heap_setCell(w:World)(a:Addr)(v:Value)(b:Nat):(w.setCell a v).heap[b]?=if b=a.block then(w.heap[b]?).map (ng a v) else w.heap[b]?:=by
 unfold World.setCell
 by_cases e:b=a.block
 .subst e;simp[Array.getElem?_modify,if_true]
  congr 1
 .simp only[Array.getElem?_modify,A (dG e),A e]
def Tr.setCell{L:LH}(h:Sub L w){a:Addr}(t:L.GN a=true)(v:Value):Tr L (L.setCell a v) w (w.setCell a v) #[⟨.cell a,true,false⟩]:=by
 let⟨o,f⟩:∃o,L a.block=some (o,true):=by
  unfold LH.GN at t
  split at t
  .rename_i q;exact⟨_,q⟩
  .cases t
 refine{sub:=?_,tape:=rfl,os:=rfl,out:=rfl,size:=by simp[World.setCell],keep:=?_,jZ:=?_,old:=?_,vG:=?_,new:=?_,ev:=?_}
 .intro b i wr e;rw[heap_setCell];unfold LH.setCell at e
  by_cases d:b=a.block
  .subst d;rw[ax rfl] at e ⊢;rw[f] at e;rw[h _ _ _ f];simp[mg,kR,Prod.mk.injEq] at e ⊢;exact e.1
  .rw[A d] at e ⊢;exact h b i wr e
 .intro b d y;rw[heap_setCell];have:b≠a.block:=λe=>by subst e;rw[f] at y;cases y
  rw[A this]
 .intro b d;unfold LH.setCell at d
  by_cases e:b=a.block
  .subst e;exact .inl (by rw[f];simp)
  .rw[A e] at d;exact .inl d
 .intro b x u;unfold LH.setCell
  by_cases e:b=a.block
  .subst e;exact⟨ng a v x.1,by rw[ax rfl,u];rfl⟩
  .exact⟨x.1,by rwa[A e]⟩
 .intro b i j;unfold LH.setCell
  by_cases e:b=a.block
  .subst e;rw[f] at j;cases j
  .rwa[A e]
 .intro b x y u;unfold LH.setCell at u
  by_cases e:b=a.block
  .subst e;rw[f] at y;cases y
  .rw[A e,y] at u;cases u
 .intro e z;simp at z;subst z;exists rfl;unfold LH.setCell;rw[ax rfl,f];exact⟨_,_,rfl,λ_=>rfl⟩
def Sub.Tx{L:LH}(h:Sub L w){a:Addr}(u:L.GN a=true):w.frozen? a=false/\∃v,w.cell? a=some v:=by
 unfold LH.GN at u
 split at u
 ·rename_i c e s i q;have:=h _ _ _ q;simp only[nF,decide_eq_true_eq,wF,Option.isNone_iff_eq_none,Bool.and_eq_false_imp,decide_eq_false_iff_not] at u;let⟨⟨d,z⟩,r⟩:=u;refine⟨?_,?_⟩
  .unfold World.frozen?;rw[this];simp only[Bool.and_eq_false_imp,decide_eq_true_eq,decide_eq_false_iff_not];exact r
  .unfold World.cell?;rw[this];simp[d,z]
 .cases u
section
variable {α:Type}{P:aV}{Q:α->LH->Prop}{H:Value->LH->Prop}
def Out(Q:α->LH->Prop)(H:bC)(L:LH)(w:World)(es:gW):Result α×Array Event->Prop
 | (.ok a w',ZQ)=>∃L' us,ZQ=es++us/\Tr L L' w w' us/\Q a L'
 | (.halt (.panic v) w',ZQ)=>∃L' us,ZQ=es++us/\Tr L L' w w' us/\H v L'
 | _=>False
def Out.pB{L R:LH}{f d s:gW}{r:Result α×Array Event}(h:Tr L R w u s)(o:d=f++s)(j:Out Q H R u d r):Out Q H L w f r:=by
 let⟨r,m⟩:=r;cases r with
 | ok a w'=>
  let⟨v,t,q,z,i⟩:=j;exact⟨v,s++t,by rw[q,o,Array.append_assoc],h.trans z,i⟩
 | halt hh w'=>
  cases hh <;> first | exact j.elim | skip
  let⟨v,t,q,z,i⟩:=j;exact⟨v,s++t,by rw[q,o,Array.append_assoc],h.trans z,i⟩
theorem yh:∀(s:Sem α) (L:LH),aP P Q H s L->∀(w:World) (y:gW),Sub L w->Out Q H L w y (s.runT P w y):=by
 intro s
 induction s with
 | pure a=>intro L h w y f;exact⟨L,#[],U,Tr.refl f,h⟩
 | load m a k ih=>
  intro L h w y f;unfold aP at h;cases m with
  | atomic=>exact h.elim
  | plain=>
   cases b:L.cell? a with
   | none=>rw[b] at h;exact h.elim
   | some v=>
    rw[b] at h;have l:=f.cell b;unfold Sem.runT;simp only[l];refine Out.pB (Tr.event f ?_) (IJ) (ih v L h w _ f);refine⟨rfl,?_⟩;unfold LH.cell? at b;cases j:L a.block with
    | none=>rw[j] at b;cases b
    | some x=>exact⟨x.1,x.2,rfl,λe=>by cases e⟩
 | store m a v k ih=>
  intro L h w y f;unfold aP at h;obtain⟨⟨rfl,F,z⟩,G⟩:=h;obtain⟨R,u,S⟩:=f.Tx z;have T:(Sem.store Mode.plain a v k).runT P w y=k.runT P (w.setCell a v) (y.push ⟨.cell a,true,false⟩):=by
   cases v <;> first | (simp only[single,iM] at F;done) | (simp only[Sem.runT,S,R,iM,if_false];rfl)
  rw[T];have p:=Tr.setCell f z v;exact Out.pB p (IJ) (ih _ G _ _ p.sub)
 | new o k ih=>
  intro L h w y f;unfold aP at h;unfold Sem.runT;have p:=Tr.alloc f o;exact Out.pB p U (ih _ _ (h _ f.free) _ _ p.sub)
 | shape r k ih=>
  intro L h w y f;unfold aP at h;unfold Sem.runT;cases j:L r with
  | none=>rw[j] at h;exact h.elim
  | some x=>
   obtain⟨o,wr⟩:=x;rw[j] at h;have l:=f _ _ _ j;cases o <;> (simp only[World.shape?,l];exact ih _ _ h _ _ f)
 | freeze a n k ih=>
  intro L h w y f;unfold aP at h;unfold Sem.runT;cases j:L a.block with
  | none=>rw[j] at h;exact h.elim
  | some x=>
   obtain⟨o,wr⟩:=x;rw[j] at h;cases o <;> first | exact h.elim | skip
   cases wr with
   | false=>exact h.elim
   | true=>
    rename_i c e t;rw[VL (f _ _ _ j)];have p:=Tr.setObj f (o:=.cells c e (frz t a n)) j;exact Out.pB p U (ih _ h _ _ p.sub)
 | frozen a k ih=>
  intro L h w y f;unfold aP at h;unfold Sem.runT;cases j:L a.block with
  | none=>rw[j] at h;exact h.elim
  | some x=>
   obtain⟨o,wr⟩:=x;rw[j] at h;have l:=f _ _ _ j;cases o with
   | cells c e t=>obtain⟨W,i⟩:=t;simp only[World.frozen?,l];exact ih _ _ h _ _ f
   | _=>simp only[World.frozen?,l];exact ih _ _ h _ _ f
 | getObj r k ih=>
  intro L h w y f;unfold aP at h;unfold Sem.runT;cases j:L r with
  | none=>rw[j] at h;exact h.elim
  | some x=>
   obtain⟨o,wr⟩:=x;rw[j] at h;have l:=f _ _ _ j
   by_cases d:mq o=true
   .simp only[d,if_true] at h
   ·simp only[d] at h;have g:o.isChan=false:=by cases o <;> first | rfl | exact ar rfl d
    have I:vk L ⟨.obj r,false,o.isChan⟩:=⟨g,o,wr,j,λe=>by cases e⟩;cases o <;> first
     | exact ar rfl d
     | (simp only[l];exact Out.pB (Tr.event f I) (IJ) (ih _ L h w _ f))
 | setObj r o k ih=>
  intro L h w y f;unfold aP at h;unfold Sem.runT;cases j:L r with
  | none=>rw[j] at h;exact h.elim
  | some x=>
   obtain⟨D,wr⟩:=x;rw[j] at h;cases wr with
   | false=>exact h.elim
   | true=>
    have l:=f _ _ _ j;simp only at h
    by_cases d:(mq D||mq o)=true
    .rw[ax d] at h;exact h.elim
    .rw[A d] at h;simp only[vp,not_or,Cf] at d;have g:o.isChan=false:=by cases o <;> first | rfl | (have:=d.2;cases this)
     have p:=Tr.setObj f (o:=o) j;have I:vk (L.put r o) ⟨.obj r,true,o.isChan⟩:=⟨g,o,true,aj _ _ _,λ_=>rfl⟩;have K:=p.trans (Tr.event p.sub I);cases D <;> first
      | (have:=d.1;cases this;done)
      | (simp only[l];exact Out.pB K (by rw[uo];exact IJ) (ih _ h _ _ p.sub))
 | choose q k ih=>
  intro L h w y f;unfold aP at h;unfold Sem.runT
  by_cases J:q.forced=true
  .rw[ax J];exact ih _ _ (h 0 (by unfold pN;rw[ax J])) _ _ f
  .rw[A J];have p:Tr L L w {w with drawn:=w.drawn+1} #[]:=Tr.world f rfl rfl rfl rfl;exact Out.pB p U (ih _ _ (h _ (by unfold pN;rw[A J];exact⟨_,rfl⟩)) _ _ p.sub)
 | sys c k ih=>intro L h;exact h.elim
 | program k ih=>intro L h w y f;exact ih _ _ h _ _ f
 | mark m k ih=>
  intro L h w y f;unfold aP at h;unfold Sem.runT;exact Out.pB (Tr.event f (e:=⟨.mark m,false,true⟩) h.1) (IJ) (ih _ h.2 _ _ f)
 | halt hh=>
  intro L h w y f;unfold aP at h;cases hh <;> first | exact h.elim | skip
  exact⟨L,#[],U,Tr.refl f,h⟩
end
variable {α:Type}{L R J:LH}{h:α->List Value}{r:List α}{Q:bC}{H:ck}
def U7(P:aV)(main:Bool)(g:aT)(L:LH)(K:cg):Prop:=
 ∀w,Sub L w->∃g' w' es L',stepG P main g w=.go g' w' es/\Tr L L' w w' es/\K g' L'
structure aM(P:Program) where
 main:Bool
 Go:Goroutine->LH->Prop
 step:∀g L,g.status=.running->U7 P main g L Go->Go g L
 pk:Addr->Value->Prop
 BQ:∀(g g':Goroutine) (L:LH) (a:Addr) (v:Value) (es:Array Event),pk a v->g.status=.running->(∀e∈es,e=⟨.cell a,false,false⟩)->(∀w,w.cell? a=some v->stepG P main g w=.go g' w es)->Go g' L->Go g L
def Fr(f:bO)(T:aK)(k:bI)(ds:cj)(m:wB)(kd:dW)(ro:bD):Frame:=⟨f,T,k,ds,m,kd,ro⟩
def ev(T:aK):Operand->Value
 | .tmp t=>T.getD t undef
 | .const v=>v
 | .global g=>.pointer (some ⟨g,0,none⟩)
 | .func f=>.func (.func f) #[] #[]
def zB(f:bO)(T:aK)(k:bI)(u:cj)(m:wB)(v:dW)(t:bD):(Fr f T k u m v t).eval=ev T:=by
 funext x;cases x <;> rfl
def jP(P:aV)(K:cg)(fr:Frame)(cs:dX)(kind:dW):Next->LH->Prop
 | .value v,L=>K (G (fr.finish v) cs) L
 | .skip,L=>K (G (fr.finish undef) cs) L
 | .enter f args,L=>K (G (Frame.enter P f args kind) (fr::cs)) L
 | .round l f tmps assign body,L=>K (G (Frame.round l f tmps assign body .normal) (fr::cs)) L
 | .defer d,L=>K (G ({fr with defers:=d::fr.defers}.finish undef) cs) L
 | .recover,L=>
  match(match fr.roundOf with
   | some l=>if P.follows .rangeFuncRecover then tryRecover fr cs else tryRecoverLoop l cs
   | none=>tryRecover fr cs) with
  | some (v,cs')=>K (G (fr.finish v) cs') L
  | none=>K (G (fr.finish .nilIface) cs) L
 | _,_=>False
def qZ(K:cg)(fr:Frame)(cs:dX):Value->LH->Prop:=
 λv L=>K (G (fr.raise [{v,recovered:=false}]) cs) L
def kindOf(todo:bI):CallKind:=match todo with | .call _ true _ _::_=>.wrapped | _=>.normal
def ub(P:aV)(u:bO)(q:gW):∀e∈seen P u q,e∈q:=by
 have j:∀(l:List Event) (x:Bool×Array Event),∀e∈(l.foldl (λx e=>
   match e.loc with
   | .mark (.extern f)=>((P.funcs[f]?).any (·.norace),x.2)
   | _=>(x.1,if x.1&&!e.sync then x.2 else x.2.push e)) x).2,e∈x.2\/e∈l:=by
  intro l
  induction l with
  | nil=>intro x e z;exact .inl z
  | cons a l v=>
   intro x e z;simp only[lJ] at z;rcases v _ e z with h | h
   .revert h
    split
    .exact λh=>.inl h
    .intro h;simp only at h
     split at h
     .exact .inl h
     .rcases Array.mem_push.1 h with h | h
      .exact .inl h
      .exact .inr (by rw[h];exact fC)
   .exact .inr (fG _ h)
 intro e z;dsimp[seen] at z;rw[<-Array.foldl_toList] at z;rcases j q.toList _ e z with h | h
 .simp at h
 .exact Array.mem_toList_iff.1 h
def Tr.fewer{q v:gW}(h:Tr L R w u q)(a:∀e∈v,e∈q):Tr L R w u v:={h with ev:=λe z=>h.ev e (a e z)}
def my(q v:gW)(g:aT)(w:World):GStep.after q (.go g w v)=.go g w (q++v):=by cases q;rfl
def tv{P:aV}{K:cg}{fr:Frame}{cs:dX}{s:Sem Next}(u:Sub L w)
  (h:aP P (jP P K fr cs (kindOf fr.todo)) (qZ K fr cs) s L):
  ∃b c k m,stepG.apply P true fr cs none s w=.go b c k/\Tr L m w c k/\K b m:=by
 let f:=yh s L h w #[] u;let j:∃r p,s.runT P w #[]=(r,p):=⟨_,_,rfl⟩;let⟨r,p,j⟩:=j;rw[j] at f;unfold stepG.apply;simp only[j,if_true];let t:∀g,(∀e∈g,e∈p)->∀e∈(if fr.kind==.early then#[] else g),e∈p:=by
  intro g I e d
  split at d
  .simp at d
  .exact I e d
 cases r with
 | ok a c=>
  let⟨m,us,q,z,o⟩:=f;rw[uo] at q;subst q;let i:∀e∈seen P fr.fn (if fr.kind==.early then#[] else p),e∈p:=λe d=>t p (λ_ x=>x) e (ub _ _ _ e d);cases a <;> first | exact o.elim | skip
  case recover=>
   simp only[jP] at o
   revert o
   cases y:fr.roundOf with
   | none=>
    simp only;cases J:tryRecover fr cs with
    | none=>intro o;simp only[my,rQ];exact⟨_,_,_,m,rfl,z.fewer i,o⟩
    | some x=>obtain⟨v,n⟩:=x;intro o;simp only[my,rQ];exact⟨_,_,_,m,rfl,z.fewer i,o⟩
   | some l=>
    simp only;cases J:(if P.follows .rangeFuncRecover then tryRecover fr cs else tryRecoverLoop l cs) with
    | none=>intro o;simp only[my,rQ];exact⟨_,_,_,m,rfl,z.fewer i,o⟩
    | some x=>obtain⟨v,n⟩:=x;intro o;simp only[my,rQ];exact⟨_,_,_,m,rfl,z.fewer i,o⟩
  all_goals
   simp only[my,rQ];exact⟨_,_,_,m,rfl,z.fewer i,o⟩
 | halt hh c=>
  cases hh <;> first | exact f.elim | skip
  obtain⟨m,us,q,z,o⟩:=f;rw[uo] at q;subst q;let i:∀e∈seen P fr.fn (if fr.kind==.early then#[] else p),e∈p:=λe d=>t p (λ_ x=>x) e (ub _ _ _ e d);simp only[my,rQ];exact⟨_,_,_,m,rfl,z.fewer i,o⟩
section
variable {P:aV}(X:aM P)
def aM.quiet{g':aT}(a:g.status=.running)(h:∀w,stepG P X.main g w=.go g' w)(q:X.Go g' L):X.Go g L:=
 X.step g L a λw u=>⟨g',w,#[],L,h w,Tr.refl u,q⟩
def aM.skip{f:bO}{T:aK}{v:dW}{i:dX}(h:X.Go (G (Fr f T K I .run v o) i) L):X.Go (G (Fr f T (.code .skip::K) I .run v o) i) L:=
 X.quiet rfl (λw=>by simp[G,Fr,stepG,stepG.exec]) h
def aM.label{f:bO}{T:aK}{v:dW}{i:dX}(h:X.Go (G (Fr f T K I .run v o) i) L):X.Go (G (Fr f T (.code (.label n)::K) I .run v o) i) L:=
 X.quiet rfl (λw=>by simp[G,Fr,stepG,stepG.exec]) h
def aM.inBlock{f:bO}{T:aK}{v:dW}{i:dX}(h:X.Go (G (Fr f T K I .run v o) i) L):X.Go (G (Fr f T (.inBlock n::K) I .run v o) i) L:=
 X.quiet rfl (λw=>by simp[G,Fr,stepG,stepG.exec]) h
def aM.inScope{f:bO}{T:aK}{v:dW}{i:dX}{c:Code}(h:X.Go (G (Fr f T K I .run v o) i) L):X.Go (G (Fr f T (.inScope c::K) I .run v o) i) L:=
 X.quiet rfl (λw=>by simp[G,Fr,stepG,stepG.exec]) h
def aM.seq{f:bO}{T:aK}{v:dW}{i:dX}{a b:Code}(h:X.Go (G (Fr f T (.code a::.code b::K) I .run v o) i) L):X.Go (G (Fr f T (.code (.seq a b)::K) I .run v o) i) L:=
 X.quiet rfl (λw=>by simp[G,Fr,stepG,stepG.exec]) h
def aM.cond{f:bO}{T:aK}{v:dW}{i:dX}{a b:Code}{t:Bool}(s:ev T x=t)(h:X.Go (G (Fr f T (.code (if t then a else b)::K) I .run v o) i) L):X.Go (G (Fr f T (.code (.cond x a b)::K) I .run v o) i) L:=
 X.quiet rfl (λw=>by
  let p:Frame.eval {fn:=f,tmps:=T,todo:=.code (.cond x a b)::K,defers:=I,mode:=.run,kind:=v,roundOf:=o} x=.bool t:=by
   have:=congrFun (zB f T (.code (.cond x a b)::K) I .run v o) x;exact this.trans s
  simp[G,Fr,stepG,stepG.exec,p]) h
def aM.block{f:bO}{T:aK}{v:dW}{i:dX}{c:Code}(h:X.Go (G (Fr f T (.code c::.inBlock n::K) I .run v o) i) L):X.Go (G (Fr f T (.code (.block n c)::K) I .run v o) i) L:=
 X.quiet rfl (λw=>by simp[G,Fr,stepG,stepG.exec]) h
def aM.loop{f:bO}{T:aK}{v:dW}{i:dX}{c:Code}(h:X.Go (G (Fr f T (.code c::.inLoop c::K) I .run v o) i) L):X.Go (G (Fr f T (.code (.loop c)::K) I .run v o) i) L:=
 X.quiet rfl (λw=>by simp[G,Fr,stepG,stepG.exec]) h
def aM.inLoop{f:bO}{T:aK}{v:dW}{i:dX}{c:Code}(h:X.Go (G (Fr f T (.code c::.inLoop c::K) I .run v o) i) L):X.Go (G (Fr f T (.inLoop c::K) I .run v o) i) L:=
 X.quiet rfl (λw=>by simp[G,Fr,stepG,stepG.exec]) h
def aM.scope{f:bO}{T:aK}{v:dW}{i:dX}{c:Code}(h:X.Go (G (Fr f T (.code c::.inScope c::K) I .run v o) i) L):X.Go (G (Fr f T (.code (.scope c)::K) I .run v o) i) L:=
 X.quiet rfl (λw=>by simp[G,Fr,stepG,stepG.exec]) h
def aM.exit{f:bO}{T:aK}{v:dW}{i:dX}{u:bI}(q:exitTo n K=some u)(h:X.Go (G (Fr f T u I .run v o) i) L):X.Go (G (Fr f T (.code (.exit n)::K) I .run v o) i) L:=
 X.quiet rfl (λw=>by simp[G,Fr,stepG,stepG.exec,q]) h
def aM.goto{f:bO}{T:aK}{v:dW}{i:dX}{u:bI}(q:gotoIn n K=some u)(h:X.Go (G (Fr f T u I .run v o) i) L):X.Go (G (Fr f T (.code (.goto n)::K) I .run v o) i) L:=
 X.quiet rfl (λw=>by simp[G,Fr,stepG,stepG.exec,q]) h
def aM.region{f:bO}{T:aK}{v:dW}{i:dX}{x:cU}(u:List.range x.size=q)(h:X.Go (G (Fr f T (.inRegion x q::K) I .run v o) i) L):X.Go (G (Fr f T (.code (.region n x false)::K) I .run v o) i) L:=
 X.quiet rfl (λw=>by simp[G,Fr,stepG,stepG.exec,u]) h
def aM.Kw{f:bO}{T:aK}{v:dW}{i:dX}{x:cU}(h:X.Go (G (Fr f T K I .run v o) i) L):X.Go (G (Fr f T (.inRegion x []::K) I .run v o) i) L:=
 X.quiet rfl (λw=>by simp[G,Fr,stepG,stepG.exec]) h
def aM.unwanted{f:bO}{T:aK}{v:dW}{i:dX}{x:cU}(u:((x[n]?).map (Region.wanted · (yielded x T))).getD false=false)
  (h:X.Go (G ((Fr f T (.inRegion x (n::q)::K) I .run v o).finish undef) i) L):X.Go (G (Fr f T (.inRegion x (n::q)::K) I .run v o) i) L:=
 X.quiet rfl (λw=>by simp[G,Fr,stepG,stepG.exec,u]) h
def aM.TP{f:bO}{T:aK}{v:dW}{i:dX}{x:cU}(h:∀t,X.Go (G (Fr f T (.inRegion x (Region.schedule (P.follows .mixedOrders) x t)::K) I .run v o) i) L):
  X.Go (G (Fr f T (.code (.region n x true)::K) I .run v o) i) L:=
 X.step _ L rfl λw u=>⟨_,{w with drawn:=w.drawn+1},#[],L,by simp[G,Fr,stepG,stepG.exec,choose,Sem.run,Question.forced,Question.cut];rfl,Tr.world u rfl rfl rfl rfl,h _⟩
def aM.op{f:bO}{T:aK}{k:bI}{v:dW}{cs:dX}{x:cU}{d:Oper}(j:x[n]?=some d)(u:Region.wanted d (yielded x T)=true)(a:o=none\/(∀c,d.op≠.defer c))
  (h:aP P (jP P X.Go (Fr f T (.inRegion x (n::q)::k) I .run v o) cs .normal) (qZ X.Go (Fr f T (.inRegion x (n::q)::k) I .run v o) cs) (execOp (ev T) d) L):
  X.Go (G (Fr f T (.inRegion x (n::q)::k) I .run v o) cs) L:=
 X.step _ L rfl λw i=>by
  let⟨m,g,y,p,b,z,r⟩:=tv i h;refine⟨m,g,y,p,?_,z,r⟩;rw[<-b,<-zB f T (.inRegion x (n::q)::k) I .run v o];unfold Fr;cases o with
  | none=>simp[G,stepG,stepG.exec,stepG.oper,Frame.oper?,j,u]
  | some l=>
   rcases a with a | a
   .cases a
   .simp[G,stepG,stepG.exec,stepG.oper,Frame.oper?,j,u,mg,zb,if_true];cases t:d.op <;> first | exact ar t (a _) | rfl
def aM.ending{f:bO}{T:aK}{v:dW}{i:dX}(h:X.Go (G (Fr f T [] I .returning v none) i) L):X.Go (G (Fr f T [] I .run v none) i) L:=
 X.quiet rfl (λw=>by simp[G,Fr,stepG,stepG.exec]) h
def aM.ret{f:bO}{T:aK}{v:dW}{i:dX}(h:X.Go (G (Fr f T (.code .ret::K) I .returning v none) i) L):X.Go (G (Fr f T (.code .ret::K) I .run v none) i) L:=
 X.quiet rfl (λw=>by simp[G,Fr,stepG,stepG.exec]) h
def aM.leave{f:bO}{T:aK}{u:dW}{i:dX}{q:Func}{c:Frame}(a:P.funcs[f]?=some q)(m:u=.normal\/u=.wrapped)
  (h:aP P (λv d=>X.Go (G (c.finish v) i) d) (λ_ _=>False) (results q T) L):X.Go (G (Fr f T K [] .returning u none) (c::i)) L:=
 X.step _ L rfl λw g=>by
  let x:=yh _ L h w #[] g;let z:∃r p,(results q T).runT P w #[]=(r,p):=⟨_,_,rfl⟩;let⟨r,p,z⟩:=z;rw[z] at x;cases r with
  | halt hh w'=>cases hh <;> first | exact x.elim | (let⟨_,_,_,_,o⟩:=x;exact o.elim)
  | ok v w'=>
   let⟨d,us,t,j,o⟩:=x;rw[uo] at t;subst t;refine⟨_,w',seen P f p,d,?_,j.fewer (ub _ _ _),o⟩;rcases m with rfl | rfl <;> simp only[G,Fr,stepG,unwind,a,z,doReturn,my,rQ]
end
def Fn{P:aV}(X:aM P)(f:bO)(args:aK)(L:LH)(Q:bC)(H:List PanicEntry->LH->Prop:=λ_ _=>False):Prop:=
 ∀(kd:dW) (c:Frame) (cs:dX),(kd=.normal\/kd=.wrapped)->(∀v L',Q v L'->X.Go (G (c.finish v) cs) L')->(∀ch L',H ch L'->X.Go (G (c.raise ch) cs) L')->
  X.Go (G (Frame.enter P f args kd) (c::cs)) L
def Fn.mono{P:aV}{X:aM P}{f:bO}{e:aK}{Q':bC}{H H':kP}(h:Fn X f e L Q H)(o:∀v d,Q v d->Q' v d)(u:∀c d,H c d->H' c d):Fn X f e L Q' H':=
 λkd c i t q z=>h kd c i t (λv d x=>q v d (o v d x)) (λa d x=>z a d (u a d x))
def wR{P:aV}{f:bO}{q:Func}{u:Code}{e:aK}{v:dW}(a:P.funcs[f]?=q)(d:q.body=some u):
  Frame.enter P f e v=Fr f (e++Array.replicate (q.ntmps - e.size) undef) [.code u] [] .run v none:=by
 simp[Frame.enter,Fr,a,d]
section
variable {P:Program}
def lF{d:α->LH->Prop}{f:α->LH->Prop}{i:bC}(j:∀a L,d a L->f a L)(t:∀v L,Q v L->i v L):∀(s:Sem α) (L:LH),aP P d Q s L->aP P f i s L:=by
 intro s
 induction s with
 | pure a=>intro L h;exact j _ _ h
 | load m a k ih=>
  intro L h;unfold aP at h ⊢;cases m with
  | atomic=>exact h
  | plain=>cases g:L.cell? a with
   | none=>rw[g] at h;exact h
   | some v=>rw[g] at h;exact ih _ _ h
 | store m a v k ih=>intro L h;exact⟨h.1,ih _ h.2⟩
 | new o k ih=>intro L h b p;exact ih _ _ (h b p)
 | shape r k ih=>
  intro L h;unfold aP at h ⊢;cases u:L r with
  | none=>rw[u] at h;exact h
  | some x=>let⟨o,wr⟩:=x;rw[u] at h;cases o <;> exact ih _ _ h
 | freeze a n k ih=>
  intro L h;unfold aP at h ⊢;cases u:L a.block with
  | none=>rw[u] at h;exact h
  | some x=>let⟨o,wr⟩:=x;rw[u] at h;cases o <;> first | exact h.elim | (cases wr <;> first | exact h.elim | exact ih _ h)
 | frozen a k ih=>
  intro L h;unfold aP at h ⊢;cases u:L a.block with
  | none=>rw[u] at h;exact h
  | some x=>let⟨o,wr⟩:=x;rw[u] at h;cases o <;> exact ih _ _ h
 | getObj r k ih=>
  intro L h;unfold aP at h ⊢;cases u:L r with
  | none=>rw[u] at h;exact h
  | some x=>
   obtain⟨o,wr⟩:=x;rw[u] at h;simp only at h ⊢
   split <;> rename_i z
   .rw[ax z] at h;exact h
   .rw[A z] at h;exact ih _ _ h
 | setObj r o k ih=>
  intro L h;unfold aP at h ⊢;cases u:L r with
  | none=>rw[u] at h;exact h
  | some x=>
   obtain⟨w,wr⟩:=x;rw[u] at h;cases wr with
   | false=>exact h
   | true=>
    simp only at h ⊢
    split <;> rename_i z
    .rw[ax z] at h;exact h
    .rw[A z] at h;exact ih _ h
 | choose q k ih=>intro L h n y;exact ih _ _ (h n y)
 | sys c k ih=>intro L h;exact h
 | program k ih=>intro L h;exact ih _ _ h
 | mark m k ih=>intro L h;exact⟨h.1,ih _ h.2⟩
 | halt t=>intro L h;cases t <;> first | exact h | exact(‹∀v L,Q v L->i v L› _ _ h)
def Ma{β:Type}{d:α->LH->Prop}(f:β->Sem α):∀(x:Sem β) (L:LH),aP P d Q (x.bind f) L↔aP P (λb z=>aP P d Q (f b) z) Q x L:=by
 intro x
 induction x with
 | pure a=>intro L;rfl
 | load m a k ih=>
  intro L;simp[Sem.bind];unfold aP;cases m with
  | atomic=>rfl
  | plain=>cases i:L.cell? a with
   | none=>rfl
   | some v=>exact ih _ _
 | store m a v k ih=>intro L;simp[Sem.bind];unfold aP;rw[ih]
 | new o k ih=>intro L;simp[Sem.bind];unfold aP;simp[ih]
 | shape r k ih=>
  intro L;simp only[Sem.bind];unfold aP;cases u:L r with
  | none=>rfl
  | some x=>obtain⟨o,wr⟩:=x;cases o <;> exact ih _ _
 | freeze a n k ih=>
  intro L;simp only[Sem.bind];unfold aP;cases u:L a.block with
  | none=>rfl
  | some x=>obtain⟨o,wr⟩:=x;cases o <;> first | rfl | (cases wr <;> first | rfl | exact ih _)
 | frozen a k ih=>
  intro L;simp only[Sem.bind];unfold aP;cases u:L a.block with
  | none=>rfl
  | some x=>obtain⟨o,wr⟩:=x;cases o <;> exact ih _ _
 | getObj r k ih=>
  intro L;simp only[Sem.bind];unfold aP;cases u:L r with
  | none=>rfl
  | some x=>obtain⟨o,wr⟩:=x;simp only[ih]
 | setObj r o k ih=>
  intro L;simp only[Sem.bind];unfold aP;cases u:L r with
  | none=>rfl
  | some x=>obtain⟨t,wr⟩:=x;cases wr <;> simp only[ih]
 | choose q k ih=>intro L;simp only[Sem.bind];unfold aP;simp only[ih]
 | sys c k ih=>intro L;rfl
 | program k ih=>intro L;exact ih _ _
 | mark m k ih=>intro L;simp only[Sem.bind];unfold aP;rw[ih]
 | halt hh=>intro L;cases hh <;> rfl
def Z{β:Type}{c:α->LH->Prop}(x:Sem β)(f:β->Sem α):aP P c Q (x>>= f) L=aP P (λb v=>aP P c Q (f b) v) Q x L:=propext (Ma f x L)
def aI{c:α->LH->Prop}(a:α):aP P c Q (pure a) L=c a L:=rfl
def ES{β:Type}{c:α->LH->Prop}(x:Sem β)(f:β->α):aP P c Q (f<$>x) L=aP P (λb v=>c (f b) v) Q x L:=propext (Ma (λb=>.pure (f b)) x L)
def gG{c:Program->LH->Prop}:aP P c Q program L=c P L:=rfl
end
section
variable {P:Program}
def aD{d:TypeDesc}(h:P.underlying t=some d){c:TypeDesc->LH->Prop}:aP P c Q (underlying t) L=c d L:=by
 unfold underlying;rw[Z,gG];simp[h]
 rfl
def gz{i:TypeInfo}(h:P.info? t=some i){c:TypeInfo->LH->Prop}:aP P c Q (typeInfo t) L=c i L:=by
 unfold typeInfo;rw[Z,gG];simp[h]
 rfl
def gA{H:bC}{z:Value}(h:(P.info? t).bind (·.zero)=some z):aP P Q H (zeroValue t) L=Q z L:=by
 cases u:P.info? t with
 | none=>rw[u] at h;cases h
 | some i=>
  rw[u] at h;simp only[Option.bind_some] at h;unfold zeroValue;rw[Z,gz u];simp[h]
  rfl
def cQ(h:(P.info? t).map (·.size)=some n){c:LO}:aP P c Q (sizeOf t) L=c n L:=by
 cases u:P.info? t with
 | none=>rw[u] at h;cases h
 | some i=>
  rw[u] at h;simp only[mg,kR] at h;unfold sizeOf;rw[Z,gz u,aI,h]
def abF:TypeDesc->Bool
 | .struct _ | .array _ _=>true
 | _=>false
def iZ(P:aV)(t:bh):Option Bool:=(P.underlying t).map abF
def ye{b:Bool}(h:iZ P t=some b){c:mc}:aP P c Q (isAgg t) L=c b L:=by
 unfold iZ at h;cases u:P.underlying t with
 | none=>rw[u] at h;cases h
 | some d=>
  rw[u] at h;simp[mg,kR] at h;unfold isAgg;rw[Z,aD u];subst h;cases d <;> rfl
def Gr{H:bC}{a:Addr}{v:Value}(h:L.cell? a=some v):aP P Q H (load a) L=Q v L:=by
 show aP P Q H (.load .plain a .pure) L=_;unfold aP;rw[h]
 rfl
def cD(L:LH)(a:Addr)(n:Nat)(vs:aR):Prop:=vs=n/\∀i v,vs[i]?=some v->L.cell? (a.add i)=some v
def De{a:Addr}{c:Array Value->LH->Prop}:∀(q:aR) (i:Nat) (m:aK),(∀j v,q[j]?=some v->L.cell? (a.add (i+j))=some v)->
  aP P c Q (loadCellsFrom a i q m) L=c (m++q.toArray) L:=by
 intro q
 induction q with
 | nil=>intro i m _;simp[loadCellsFrom,aI]
 | cons v q l=>
  intro i m h;simp[pR,loadCellsFrom];let f:=h 0 v rfl;rw[pT] at f;rw[Z,Gr f,l (i+1) (m.push v) (λj u t=>by rw[Nat.add_assoc,Nat.add_comm 1 j];exact h (j+1) u t)]
  congr 1
  simp
def AH{a:Addr}(h:cD L a n j){d:Array Value->LH->Prop}:aP P d Q (loadCells a n) L=d j.toArray L:=by
 let⟨rfl,h⟩:=h;unfold loadCells;rw[De j 0 #[] (λc v t=>by rw[jJ];exact h c v t)];simp
def rM{H:bC}{a:Addr}{v:Value}(s:iZ P t=false)(h:L.cell? a=some v):aP P Q H (loadVar t a) L=Q v L:=by
 unfold loadVar;rw[Z,ye s];exact Gr h
def rN{H:bC}{a:Addr}{vs:aR}(s:iZ P t=true)(y:(P.info? t).map (·.size)=some n)(h:cD L a n vs):
  aP P Q H (loadVar t a) L=Q (.agg vs.toArray) L:=by
 unfold loadVar;rw[Z,ye s];simp only[if_true];rw[Z,cQ y,Z,AH h,aI]
def jD{c:aK}{d:Addr->LH->Prop}:aP P d Q (newRow t c) L=∀b,L b=none->d ⟨b,0,none⟩ (L.put b (.cells c t)):=by
 unfold newRow;rw[Z]
 rfl
end
def Le(L L':LH):Prop:=∀b x,L b=some x->L' b=x
def Le.refl(L:LH):Le L L:=λ_ _ h=>h
def Le.trans(h:Le L R)(p:Le R J):Le L J:=λb x u=>p b x (h b x u)
theorem Le.put(h:L n=none)(o:Obj):Le L (L.put n o):=λb x u=>by
 have:b≠n:=λe=>by subst e;rw[h] at u;cases u
 rw[aB _ _ this];exact u
def Le.cell(h:Le L R){a:Addr}{v:Value}(b:L.cell? a=v):R.cell? a=some v:=by
 unfold LH.cell? at b ⊢;cases u:L a.block with
 | none=>rw[u] at b;cases b
 | some x=>rwa[h _ _ u,<-u]
def Le.cD(h:Le L R){a:Addr}(b:cD L a n j):cD R a n j:=⟨b.1,λi v u=>h.cell (b.2 i v u)⟩
def aF{off:Nat}{c:aK}{t:km}{j:Bool}{v:Value}(h:L n=some (.cells c e t,j))(g:c[off]?=v):L.cell? ⟨n,off,none⟩=some v:=by
 unfold LH.cell?;simp[h];exact g
structure Upd(T T':Array Value)(d:Nat)(v:Value):Prop where
 size:T'.size=T.size
 same:T'.getD d undef=v
 other:∀j,(j==d)=false->T'.getD j undef=T.getD j undef
def AB{T:aK}{d:Nat}(v:Value)(h:d<T.size):Upd T (T.setIfInBounds d v) d v where
 size:=U
 same:=by simp[Array.getD,h]
 other:=λj hj=>by
  have CC:j≠d:=by simpa using hj
  by_cases SY:j<T.size
  .simp[Array.getD,SY,Array.getElem_setIfInBounds,dG CC]
  .simp[Array.getD,SY]
section
variable {P:aV}(X:aM P)
def tG{f:bO}{T:aK}{u:dW}{x:cU}{c:Oper}(j:x[n]?=c)(a:c.dst=some k)(v:Value):
  (Fr f T (.inRegion x (n::q)::K) I .run u o).finish v=Fr f (T.setIfInBounds k v) (.inRegion x q::K) I .run u o:=by
 simp[Frame.finish,Fr,j,a]
def xA{f:bO}{T:aK}{u:dW}{x:cU}{c:Oper}(j:x[n]?=some c)(a:c.dst=none)(v:Value):
  (Fr f T (.inRegion x (n::q)::K) I .run u o).finish v=Fr f T (.inRegion x q::K) I .run u o:=by
 simp[Frame.finish,Fr,j,a]
end
def cE(P:aV)(op:Op)(ty:bh)(T:aK)(L:LH)(v:Value):Prop:=
 ∀(dst:fD) (pos:ck) (af:cR) (gd:cZ) (Q:Ay) (H:bC),Q (.value v) L->aP P Q H (execOp (ev T) ⟨dst,op,ty,pos,af,gd⟩) L
def iU:Op->Bool
 | .defer _=>true
 | _=>false
section
variable {P:Program}
def cE.move{T:aK}{v:Value}(h:ev T x=v):cE P (.move x) t T L v:=by
 intro w s l o Q H c;subst h;exact c
def cE.assign{T:aK}{v:Value}(h:ev T x=v):cE P (.assign x) t T L v:=by
 intro w s l o Q H c;subst h;exact c
def cE.ahM{T:aK}{y c:aW}{v:Value}(b:ev T c=.bool true)(h:ev T x=v):cE P (.pick c x y) t T L v:=by
 intro w s l o Q H u;simp[execOp,b,asBool,Z,aI,if_true,h];exact u
def cE.ahL{T:aK}{y c:aW}{v:Value}(b:ev T c=.bool false)(h:ev T y=v):cE P (.pick c x y) t T L v:=by
 intro w s l o Q H u;simp[execOp,b,asBool,Z,aI,iM,if_false,h];exact u
def vy:BinOp->IntKind->Int->Int->Option Value
 | .add,k,a,b=>some (.int k (k.wrap (a+b)))
 | .sub,k,a,b=>some (.int k (k.wrap (a - b)))
 | .mul,k,a,b=>some (.int k (k.wrap (a *b)))
 | .eql,_,a,b=>some (.bool (a==b))
 | .neq,_,a,b=>some (.bool (a !=b))
 | .lss,_,a,b=>some (.bool (decide (a<b)))
 | .leq,_,a,b=>some (.bool (decide (a<=b)))
 | .gtr,_,a,b=>some (.bool (decide (b<a)))
 | .geq,_,a,b=>some (.bool (decide (b<=a)))
 | .and,k,a,b=>some (.int k (k.wrap (BitVec.ofInt k.bits a&&& BitVec.ofInt k.bits b).toNat))
 | .or,k,a,b=>some (.int k (k.wrap (BitVec.ofInt k.bits a||| BitVec.ofInt k.bits b).toNat))
 | .xor,k,a,b=>some (.int k (k.wrap (BitVec.ofInt k.bits a ^^^ BitVec.ofInt k.bits b).toNat))
 | .quo,k,a,b=>if b=0 then none else some (.int k (k.wrap (a.tdiv b)))
 | .rem,k,a,b=>if b=0 then none else some (.int k (a.tmod b))
 | _,_,_,_=>none
def cE.bin{T:aK}{s:bh}{y:aW}{v:Value}{b:Int}{k:fE}{q:BinOp}(u:ev T x=.int k c)(g:ev T y=.int k b)(h:vy q k c b=some v):cE P (.binOp q t x y s) e T L v:=by
 intro w a l o Q H m;let d:∀(i:bC),i v L->aP P i H (do eqGuard q t x y (.int k c) (.int k b);binOp q t (.int k c) (.int k b)) L:=by
  intro i f;rw[Z];let n:∀z:Unit->LH->Prop,aP P z H (eqGuard q t x y (.int k c) (.int k b)) L=z () L:=by
   intro z;cases q <;> rfl
  rw[n];cases q <;> simp only[vy,kR,reduceCtorEq] at h <;> first
   | (subst h;simp[binOp,ne_eq,not_true_eq_false,if_false,Op.intArith,Op.intCmp,Op.intBits];exact f)
   | skip
  all_goals
   split at h
   .cases h
   .rename_i j;simp[kR] at h;subst h;simp[binOp,ne_eq,not_true_eq_false,if_false,Op.intDiv,A j];exact f
 simp only[execOp,u,g];rw[Z];exact d _ m
def cE.shl{T:aK}{ty t2:bh}{y:aW}{b:Int}{k:fE}{f:fE}(u:ev T x=.int k c)(g:ev T y=.int f b)(d:0<=b):cE P (.binOp .shl t x y t2) ty T L (.int k (k.wrap (c * 2 ^ min b.toNat k.bits))):=by
 intro w s l o Q H q;have v:¬b<0:=M
 simp[execOp,u,g,Z,eqGuard,binOp,Op.shift,A v];exact q
def cE.shr{T:aK}{ty t2:bh}{y:aW}{b:Int}{k:fE}{f:fE}(u:ev T x=.int k c)(g:ev T y=.int f b)(d:0<=b):cE P (.binOp .shr t x y t2) ty T L (.int k (c.fdiv (2 ^ min b.toNat k.bits))):=by
 intro w s l o Q H q;have v:¬b<0:=M
 simp[execOp,u,g,Z,eqGuard,binOp,Op.shift,A v];exact q
def cE.not{T:aK}{p:Bool}(u:ev T x=p):cE P (.unOp .not t x) e T L (.bool (!p)):=by
 intro w s l o Q H c;simp[execOp,u,Z,Op.unary,aI];exact c
def cE.neg{T:aK}{k:fE}(u:ev T x=.int k c):cE P (.unOp .neg t x) e T L (.int k (k.wrap (0 - c))):=by
 intro w s l o Q H q;simp only[execOp,u,Z,Op.unary,Op.intArith,aI];exact q
def cE.conv{T:aK}{s:bh}{k:fE}{d:TypeDesc}{v:fE}(q:P.underlying t=some d)(z:P.underlying s=some (.int v))(u:ev T x=.int k c):cE P (.convert t s x) e T L (.int v (v.wrap c)):=by
 intro w i l o Q H f;simp only[execOp,u];rw[Z];unfold convert;rw[Z,aD q,Z,aD z];cases d <;> exact f
def cE.acX{T:aK}{v:Value}{l:Addr}(s:iZ P t=false)(a:ev T x=l)(b:L.cell? l=v):cE P (.load t x) e T L v:=by
 intro w u q o Q H c;simp only[execOp,a];rw[Z];unfold Instr.loadAt;rw[Z];simp[Instr.sureAddr,aI];rwa[rM s b]
def cE.JH{T:aK}{l:Addr}(s:iZ P t=true)(y:(P.info? t).map (·.size)=n)(a:ev T x=l)(b:cD L l n j):cE P (.load t x) e T L (.agg j.toArray):=by
 intro w u q o Q H c;simp only[execOp,a];rw[Z];unfold Instr.loadAt;rw[Z];simp[Instr.sureAddr,aI];rwa[rN s y b]
def HM{l:Addr}{e:Field}(y:(P.info? e.type).map (·.size)=some n)(f:n≠0){c:Addr->LH->Prop}:aP P c Q (fieldPlace l e) L=c (l.add e.offset) L:=by
 unfold fieldPlace;rw[Z,cQ y];simp[A f,aI]
def cE.field{T:aK}{l q:Addr}{s:Array Field}{v:Field}(u:P.underlying t=some (.struct s))(a:s[k]?=v)(y:(P.info? v.type).map (·.size)=n)(f:n≠0)(z:ev T x=l)(d:l.add v.offset=q):
  cE P (.fieldAddr t x k) e T L q:=by
 intro w i m o Q H c;simp only[execOp,z];rw[Z];unfold Instr.fieldAt;rw[Z,aD u];simp only[a];rw[Z];simp only[Instr.sureAddr,aI];rwa[Z,HM y f,aI,d]
def cE.JZ{T:aK}{l:Addr}(u:ev T x=l):cE P (.nilCheck x) t T L (.pointer (some l)):=by
 intro w s q o Q H c;simp[execOp,u];exact c
def cE.JY{T:aK}{g:bO}{h l:aK}(u:ev T x=.func (.func g) h l):cE P (.nilCheck x) t T L (.func (.func g) h l):=by
 intro w s q o Q H c;simp only[execOp,u];exact c
def cE.Wj{T:aK}{h l:aK}(u:ev T x=.func (.yield n) h l):cE P (.nilCheck x) t T L (.func (.yield n) h l):=by
 intro w s q o Q H c;simp only[execOp,u];exact c
def cE.G6{T:aK}{ty:bh}{y:aW}{c:fE}{l:Addr}{i:Nat}(u:P.underlying t=some (.slice e))(v:(P.info? e).map (·.size)=n)(z:ev T x=.slice l k m)(g:ev T y=.int c (i:Int))(f:i<k):
  cE P (.indexAddr t x y) ty T L (l.add (i *n)):=by
 intro w s a o Q H d;simp only[execOp,z,g];rw[Z];unfold Instr.indexAt;simp only[asIntOf,Z,aI];rw[aD u];simp only[Z,aI];rw[aD u];have q:(0:Int)<=(i:Int)/\(i:Int)<(k:Int):=⟨M,M⟩;simp only[q,and_self,if_true];rw[Z,cQ v,aI];exact d
def cE.NI{T:aK}{ty:bh}{y:aW}{c:fE}{l:Addr}(u:P.underlying t=some (.array k e))(v:(P.info? e).map (·.size)=n)(z:ev T x=l)(g:ev T y=.int c (m:Int))(i:m<k):
  cE P (.indexAddr t x y) ty T L (l.add (m *n)):=by
 intro w s f o Q H d;simp only[execOp,z,g];rw[Z];unfold Instr.indexAt;simp only[asIntOf,Z,aI];rw[aD u];simp only[Instr.sureAddr,Z,aI];rw[aD u];have q:(0:Int)<=(m:Int)/\(m:Int)<(k:Int):=⟨M,M⟩;simp only[q,and_self,if_true];rw[Z,cQ v,aI];exact d
def cE.extract{T:aK}{v:Value}{j:aK}(u:ev T x=.tuple j)(h:j[n]?=some v):cE P (.extract x n) t T L v:=by
 intro w s l o Q H c;simp[execOp,u,Z,Instr.extract,h,aI];exact c
def cE.makeFunc{T:aK}{g:Go.Fn}{h l:jk}{c u:aK}(q:h.map (ev T)=c)(z:l.map (ev T)=u):cE P (.makeFunc g h l) t T L (.func g c u):=by
 intro w s d o Q H v;simp only[execOp,Z,Instr.makeFunc,aI,q,z];exact v
def cE.V2{T:aK}{v:Value}{q:TypeDesc}(u:P.underlying t=some q)(y:∀z,q≠.interface z)(h:ev T x=v):cE P (.makeInterface t x) e T L (.iface t v):=by
 intro w s l o Q H c;simp only[execOp,h];rw[Z];unfold Instr.makeInterface;rw[Z,aD u];cases q <;> first | exact ar rfl (y _) | exact c
def cE.build{T:aK}{v:Array Field}{s:LP}{z:Value}{pv:LQ}{k:Array (Nat×Nat)}{q:aK}(p:(P.info? t).bind (·.zero)=z)(u:P.underlying t=some (.struct v))
  (a:(s.map λ(i,x)=>(i,ev T x)).toList=pv)(m:∀(Q:Array (Nat×Nat)->LH->Prop) (H:bC),aP P Q H (v.mapM λf=>do pure (f.offset,<-sizeOf f.type)) L=Q k L)(b:Instr.fill (k[·]?) z.cells pv=some q):
  cE P (.build t s) e T L (.agg q):=by
 intro w d l o Q H c;simp only[execOp];rw[Z];unfold Instr.build;rw[Z,gA p,Z,aD u];rw[Z,m,a];simp[b];exact c
def cE.NM{T:aK}{q:bh}(u:P.underlying q=some (.slice e))(v:ev T x=.slice d n k):cE P (.call {callee:=.builtin .len,args:=#[x],argTypes:=#[q]}) t T L (.int .i64 n):=by
 intro w s l o Q H c;simp only[execOp,resolve,oY,iH,nG,v,pure,Sem.bind,bind,invoke,builtin,Builtin.len_];simp[gq,zc];show aP P Q H ((_>>= _)>>= _) L;rwa[Z,Z,aD u]
def cE.afr{T:aK}{d:bh}(u:P.underlying d=some (.array n e)):cE P (.call {callee:=.builtin .len,args:=#[x],argTypes:=#[d]}) t T L (.int .i64 n):=by
 intro w s l o Q H c;simp only[execOp,resolve,oY,iH,nG,pure,Sem.bind,bind,invoke,builtin,Builtin.len_];simp[gq,zc];show aP P Q H ((_>>= _)>>= _) L;rwa[Z,Z,aD u]
def cE.min{T:aK}{y:aW}{b:Int}{k:fE}{d:fX}(u:ev T x=.int k c)(g:ev T y=.int k b):cE P (.call {callee:=.builtin .min,args:=#[x,y],argTypes:=d}) t T L (.int k (if b<c then b else c)):=by
 intro w s l o Q H q;simp only[execOp,resolve,oY,iH,nG,u,g,pure,Sem.bind,bind,invoke,builtin,Builtin.min_,List.foldlM_cons,List.foldlM_nil,Builtin.min2];exact q
def cE.max{T:aK}{y:aW}{b:Int}{k:fE}{d:fX}(u:ev T x=.int k c)(g:ev T y=.int k b):cE P (.call {callee:=.builtin .max,args:=#[x,y],argTypes:=d}) t T L (.int k (if b>c then b else c)):=by
 intro w s l o Q H q;simp only[execOp,resolve,oY,iH,nG,u,g,pure,Sem.bind,bind,invoke,builtin,Builtin.max_,List.foldlM_cons,List.foldlM_nil,Builtin.max2];exact q
end
end Go.Mz
