/- Lemmas on which the claim leans. -/
import Derived.Test.YtjhpkghkgaekcaaGreatDoorMzAa
import Derived.Conc.Own
namespace Go.Mz
open Go.Conc
abbrev LH:=Nat→Option (Obj×Bool)
def LH.cell?(L:LH)(a:Addr):Option Value:=
 match L a.block with
 | some (.cells c _ _,_)=>if a.spot.isSome then none else c[a.off]?
 | _=>none
def LH.xy(L:LH)(a:Addr):Bool:=
 match L a.block with
 | some (.cells c _ (lo,hi),true)=>a.spot.isNone&&decide (a.off<c.size)&&!(decide (lo≤a.off)&&decide (a.off<hi))
 | _=>false
def LH.put(L:LH)(b:Nat)(o:Obj):LH:=fun b'=>if b'=b then some (o,true) else L b'
def iI(a:Addr)(v:Value):Obj→Obj
 | .cells c elem frozen=>.cells (if a.spot.isSome then c else c.setIfInBounds a.off v) elem frozen
 | o=>o
def LH.setCell(L:LH)(a:Addr)(v:Value):LH:=fun b=>if b=a.block then(L b).map (fun x=>(iI a v x.1,x.2)) else L b
def single:Value→Bool
 | .agg _ | .tuple _=>false
 | _=>true
def PO(fz:Nat×Nat)(a:Addr)(n:Nat):Nat×Nat:=if n=0 then fz else if fz.1==fz.2 then(a.off,a.off+n) else(min fz.1 a.off,max fz.2 (a.off+n))
theorem Iw{w:World}{a:Addr}{n:Nat}{c:Array Value}{e:TypeId}{fz:Nat×Nat}(h:w.heap[a.block]?=some (.cells c e fz)):w.freeze a n={w with heap:=w.heap.setIfInBounds a.block (.cells c e (PO fz a n))}:=by
 obtain⟨hl,hg⟩:=Array.getElem?_eq_some_iff.1 h;unfold World.freeze PO
 by_cases hn:n=0
 ·rw[if_pos hn,if_pos hn];have:w.heap.setIfInBounds a.block (.cells c e fz)=w.heap:=by
   apply Array.ext_getElem?;intro i
   by_cases hi:a.block=i
   ·subst hi;rw[Array.getElem?_setIfInBounds_self,if_pos hl,h]
   ·rw[Array.getElem?_setIfInBounds_ne hi]
  rw[this]
 ·rw[if_neg hn,if_neg hn]
  congr 1
  apply Array.ext_getElem?;intro i;rw[Array.getElem?_modify]
  by_cases hi:a.block=i
  ·subst hi;rw[if_pos rfl,Array.getElem?_setIfInBounds_self,if_pos hl,h];obtain⟨lo,hi⟩:=fz
   rfl
  ·rw[if_neg hi,Array.getElem?_setIfInBounds_ne hi]
def j4(q:Question)(n:Nat):Prop:=if q.forced then n=0 else ∃t,n=q.cut t
def ic:Obj→Bool
 | .cells .. | .chan .. | .view .. | .number .. | .pending ..=>true
 | _=>false
section
variable {α:Type}(P:Program)(Q:α→LH→Prop)(H:Value→LH→Prop)
def az:Sem α→LH→Prop
 | .pure a,L=>Q a L
 | .load m a k,L=>
  match m,L.cell? a with
  | .plain,some v=>az (k v) L
  | _,_=>False
 | .store m a v k,L=>(m=.plain∧single v=true∧L.xy a=true)∧az k (L.setCell a v)
 | .new o k,L=>∀b,L b=none→az (k b) (L.put b o)
 | .shape r k,L=>
  match L r with
  | some (.cells c e _,_)=>az (k (some (e,c.size))) L
  | some _=>az (k none) L
  | none=>False
 | .freeze a n k,L=>
  match L a.block with
  | some (.cells c e fz,true)=>az k (L.put a.block (.cells c e (PO fz a n)))
  | _=>False
 | .frozen a k,L=>
  match L a.block with
  | some (.cells _ _ (lo,hi),_)=>az (k (decide (lo≤a.off)&&decide (a.off<hi))) L
  | some _=>az (k false) L
  | none=>False
 | .getObj r k,L=>
  match L r with
  | some (o,_)=>if ic o then False else az (k o) L
  | none=>False
 | .setObj r o k,L=>
  match L r with
  | some (o',true)=>if ic o'||ic o then False else az k (L.put r o)
  | _=>False
 | .choose q k,L=>∀n,j4 q n→az (k n) L
 | .sys _ _,_=>False
 | .program k,L=>az (k P) L
 | .mark m k,L=>(m=.noRoom∨∃f,m=.extern f)∧az k L
 | .halt (.panic v),L=>H v L
 | .halt _,_=>False
end
def Sub(L:LH)(w:World):Prop:=∀b o wr,L b=some (o,wr)→w.heap[b]?=some o
def nz(L:LH)(e:Event):Prop:=
 match e.loc with
 | .cell a=>e.sync=false∧∃o wr,L a.block=some (o,wr)∧(e.write=true→wr=true)
 | .obj r=>e.sync=false∧∃o wr,L r=some (o,wr)∧(e.write=true→wr=true)
 | .mark m=>m=.noRoom∨∃f,m=.extern f
 | _=>False
structure Tr(L L':LH)(w w':World)(es:Array Event):Prop where
 sub:Sub L' w'
 tape:w'.tape=w.tape
 os:w'.os=w.os
 out:w'.output=w.output
 size:w.heap.size≤w'.heap.size
 keep:∀b,b<w.heap.size→L b=none→w'.heap[b]?=w.heap[b]?
 gP:∀b,L' b≠none→L b≠none∨(w.heap.size≤b∧b<w'.heap.size)
 old:∀b x,L b=some x→∃o,L' b=some (o,x.2)
 nP:∀b o,L b=some (o,false)→L' b=some (o,false)
 new:∀b x,L b=none→L' b=some x→x.2=true
 ev:∀e∈es,nz L' e
theorem Sub.lt{L:LH}{w:World}(h:Sub L w){b:Nat}(hb:L b≠none):b<w.heap.size:=by
 cases hx:L b with
 | none=>exact absurd hx hb
 | some x=>exact(Array.getElem?_eq_some_iff.1 (h b x.1 x.2 hx)).1
theorem Sub.free{L:LH}{w:World}(h:Sub L w):L w.heap.size=none:=by
 cases hx:L w.heap.size with
 | none=>rfl
 | some x=>exact absurd (h.lt (b:=w.heap.size) (by rw[hx];simp)) (Nat.lt_irrefl _)
theorem Tr.refl{L:LH}{w:World}(h:Sub L w):Tr L L w w #[]:=
 ⟨h,rfl,rfl,rfl,Nat.le_refl _,fun _ _ _=>rfl,fun _ h=>.inl h,fun _ x h=>⟨x.1,h⟩,fun _ _ h=>h,fun _ _ h h'=>(by rw[h] at h';cases h'),fun e he=>by simp at he⟩
theorem nz.mono{L L':LH}{e:Event}(ho:∀b x,L b=some x→∃o,L' b=some (o,x.2))(h:nz L e):nz L' e:=by
 unfold nz at h ⊢;cases hl:e.loc <;> simp only[hl] at h ⊢
 ·obtain⟨h1,o,wr,h2,h3⟩:=h;obtain⟨o',h4⟩:=ho _ _ h2;exact⟨h1,o',wr,h4,h3⟩
 ·obtain⟨h1,o,wr,h2,h3⟩:=h;obtain⟨o',h4⟩:=ho _ _ h2;exact⟨h1,o',wr,h4,h3⟩
 ·exact h
theorem Tr.trans{L qD Fh:LH}{w lS XQ:World}{es pC:Array Event}(h:Tr L qD w lS es)(h':Tr qD Fh lS XQ pC):Tr L Fh w XQ (es++pC) where
 sub:=h'.sub
 tape:=h'.tape.trans h.tape
 os:=h'.os.trans h.os
 out:=h'.out.trans h.out
 size:=Nat.le_trans h.size h'.size
 keep:=fun b hb hn=>by
  have h1:qD b=none:=by
   cases hx:qD b with
   | none=>rfl
   | some x=>
    rcases h.gP b (by rw[hx];simp) with e | e
    ·exact absurd hn e
    ·omega
  rw[h'.keep b (Nat.lt_of_lt_of_le hb h.size) h1,h.keep b hb hn]
 gP:=fun b hb=>by
  rcases h'.gP b hb with e | e
  ·rcases h.gP b e with e | e
   ·exact .inl e
   ·exact .inr ⟨e.1,Nat.lt_of_lt_of_le e.2 h'.size⟩
  ·exact .inr ⟨Nat.le_trans h.size e.1,e.2⟩
 old:=fun b x hx=>by
  obtain⟨o,ho⟩:=h.old b x hx;exact h'.old b (o,x.2) ho
 nP:=fun b o ho=>h'.nP b o (h.nP b o ho)
 new:=fun b x hn hx=>by
  cases h1:qD b with
  | none=>exact h'.new b x h1 hx
  | some y=>
   have:=h.new b y hn h1;obtain⟨o,ho⟩:=h'.old b y h1;rw[ho] at hx;cases hx;exact this
 ev:=fun e he=>by
  rcases Array.mem_append.1 he with he | he
  ·exact(h.ev e he).mono h'.old
  ·exact h'.ev e he
theorem Tr.world{L:LH}{w w':World}(h:Sub L w)(hh:w'.heap=w.heap)(ht:w'.tape=w.tape)(ho:w'.os=w.os)(hp:w'.output=w.output):Tr L L w w' #[]:=
 ⟨fun b o wr e=>by rw[hh];exact h b o wr e,ht,ho,hp,by rw[hh];exact Nat.le_refl _,fun _ _ _=>by rw[hh],fun _ h=>.inl h,fun _ x h=>⟨x.1,h⟩,fun _ _ h=>h,fun _ _ h h'=>(by rw[h] at h';cases h'),fun e he=>by simp at he⟩
theorem Tr.event{L:LH}{w:World}(h:Sub L w){e:Event}(he:nz L e):Tr L L w w #[e]:=
 {Tr.refl h with ev:=fun x hx=>by simp at hx;subst hx;exact he}
theorem Sub.cell{L:LH}{w:World}(h:Sub L w){a:Addr}{v:Value}(hc:L.cell? a=some v):w.cell? a=some v:=by
 unfold LH.cell? at hc;unfold World.cell?;cases hx:L a.block with
 | none=>rw[hx] at hc;cases hc
 | some x=>
  obtain⟨o,wr⟩:=x;rw[hx] at hc;rw[h _ _ _ hx];cases o <;> simp_all
theorem aj(L:LH)(b:Nat)(o:Obj):L.put b o b=some (o,true):=by simp[LH.put]
theorem au(L:LH){b b':Nat}(o:Obj)(h:b'≠b):L.put b o b'=L b':=by simp[LH.put,h]
theorem Tr.alloc{L:LH}{w:World}(h:Sub L w)(o:Obj):Tr L (L.put w.heap.size o) w {w with heap:=w.heap.push o} #[] where
 sub:=fun b o' wr e=>by
  by_cases hb:b=w.heap.size
  ·subst hb;rw[aj] at e;cases e;simp
  ·rw[au _ _ hb] at e;have:=h b o' wr e;have aU:=(Array.getElem?_eq_some_iff.1 this).1;simp only[Array.getElem?_push,hb,if_false];exact this
 tape:=rfl
 os:=rfl
 out:=rfl
 size:=by simp
 keep:=fun b hb _=>by
  have:b≠w.heap.size:=by omega
  simp only[Array.getElem?_push,this,if_false]
 gP:=fun b hb=>by
  by_cases e:b=w.heap.size
  ·exact .inr ⟨by omega,by simp[e]⟩
  ·rw[au _ _ e] at hb;exact .inl hb
 old:=fun b x hx=>by
  have:b≠w.heap.size:=by
   have:=h.lt (b:=b) (by rw[hx];simp);omega
  exact⟨x.1,by rw[au _ _ this];exact hx⟩
 nP:=fun b o ho=>by
  have:b≠w.heap.size:=by
   have:=h.lt (b:=b) (by rw[ho];simp);omega
  rw[au _ _ this];exact ho
 new:=fun b x hn hx=>by
  by_cases e:b=w.heap.size
  ·subst e;rw[aj] at hx;cases hx;rfl
  ·rw[au _ _ e,hn] at hx;cases hx
 ev:=fun e he=>by simp at he
theorem Tr.setObj{L:LH}{w:World}(h:Sub L w){r:Nat}{o' o:Obj}(hr:L r=some (o',true)):Tr L (L.put r o) w {w with heap:=w.heap.setIfInBounds r o} #[] where
 sub:=fun b CR wr e=>by
  have aU:=h.lt (b:=r) (by rw[hr];simp)
  by_cases hb:b=r
  ·subst hb;rw[aj] at e;cases e;simp[aU]
  ·rw[au _ _ hb] at e;have:=h b CR wr e;show(w.heap.setIfInBounds r o)[b]?=some CR;rw[Array.getElem?_setIfInBounds_ne (Ne.symm hb)];exact this
 tape:=rfl
 os:=rfl
 out:=rfl
 size:=by simp
 keep:=fun b hb hn=>by
  have:r≠b:=fun e=>by subst e;rw[hr] at hn;cases hn
  show(w.heap.setIfInBounds r o)[b]?=_;rw[Array.getElem?_setIfInBounds_ne this]
 gP:=fun b hb=>by
  by_cases e:b=r
  ·subst e;exact .inl (by rw[hr];simp)
  ·rw[au _ _ e] at hb;exact .inl hb
 old:=fun b x hx=>by
  by_cases e:b=r
  ·subst e;rw[hr] at hx;cases hx;exact⟨o,aj _ _ _⟩
  ·exact⟨x.1,by rw[au _ _ e];exact hx⟩
 nP:=fun b CR ho=>by
  by_cases e:b=r
  ·subst e;rw[hr] at ho;cases ho
  ·rw[au _ _ e];exact ho
 new:=fun b x hn hx=>by
  by_cases e:b=r
  ·subst e;rw[hr] at hn;cases hn
  ·rw[au _ _ e,hn] at hx;cases hx
 ev:=fun e he=>by simp at he
theorem heap_setCell(w:World)(a:Addr)(v:Value)(b:Nat):(w.setCell a v).heap[b]?=if b=a.block then(w.heap[b]?).map (iI a v) else w.heap[b]?:=by
 unfold World.setCell
 by_cases e:b=a.block
 ·subst e;simp only[Array.getElem?_modify,if_true]
  congr 1
 ·simp only[Array.getElem?_modify,if_neg (Ne.symm e),if_neg e]
theorem Tr.setCell{L:LH}{w:World}(h:Sub L w){a:Addr}(hw:L.xy a=true)(v:Value):Tr L (L.setCell a v) w (w.setCell a v) #[⟨.cell a,true,false⟩]:=by
 obtain⟨o,hL⟩:∃o,L a.block=some (o,true):=by
  unfold LH.xy at hw
  split at hw
  ·rename_i heq;exact⟨_,heq⟩
  ·cases hw
 refine{sub:=?_,tape:=rfl,os:=rfl,out:=rfl,size:=by simp[World.setCell],keep:=?_,gP:=?_,old:=?_,nP:=?_,new:=?_,ev:=?_}
 ·intro b CR wr e;rw[heap_setCell];unfold LH.setCell at e
  by_cases hb:b=a.block
  ·subst hb;rw[if_pos rfl] at e ⊢;rw[hL] at e;rw[h _ _ _ hL];simp only[Option.map_some,Option.some.injEq,Prod.mk.injEq] at e ⊢;exact e.1
  ·rw[if_neg hb] at e ⊢;exact h b CR wr e
 ·intro b hb hn;rw[heap_setCell];have:b≠a.block:=fun e=>by subst e;rw[hL] at hn;cases hn
  rw[if_neg this]
 ·intro b hb;unfold LH.setCell at hb
  by_cases e:b=a.block
  ·subst e;exact .inl (by rw[hL];simp)
  ·rw[if_neg e] at hb;exact .inl hb
 ·intro b x hx;unfold LH.setCell
  by_cases e:b=a.block
  ·subst e;exact⟨iI a v x.1,by rw[if_pos rfl,hx];rfl⟩
  ·exact⟨x.1,by rw[if_neg e];exact hx⟩
 ·intro b CR ho;unfold LH.setCell
  by_cases e:b=a.block
  ·subst e;rw[hL] at ho;cases ho
  ·rw[if_neg e];exact ho
 ·intro b x hn hx;unfold LH.setCell at hx
  by_cases e:b=a.block
  ·subst e;rw[hL] at hn;cases hn
  ·rw[if_neg e,hn] at hx;cases hx
 ·intro e he;simp at he;subst he;refine⟨rfl,?_⟩;unfold LH.setCell;rw[if_pos rfl,hL];exact⟨_,_,rfl,fun _=>rfl⟩
theorem Sub.GW{L:LH}{w:World}(h:Sub L w){a:Addr}(hw:L.xy a=true):w.frozen? a=false∧∃v,w.cell? a=some v:=by
 unfold LH.xy at hw
 split at hw
 ·rename_i c e lo hi heq;have:=h _ _ _ heq;simp only[Bool.and_eq_true,decide_eq_true_eq,Bool.not_eq_true',Option.isNone_iff_eq_none,Bool.and_eq_false_imp,decide_eq_false_iff_not] at hw;obtain⟨⟨h1,h2⟩,h3⟩:=hw;refine⟨?_,?_⟩
  ·unfold World.frozen?;rw[this];simp only[Bool.and_eq_false_imp,decide_eq_true_eq,decide_eq_false_iff_not];exact h3
  ·unfold World.cell?;rw[this];simp[h1,h2]
 ·cases hw
section
variable {α:Type}{P:Program}{Q:α→LH→Prop}{H:Value→LH→Prop}
def Out(Q:α→LH→Prop)(H:Value→LH→Prop)(L:LH)(w:World)(es:Array Event):Result α×Array Event→Prop
 | (.ok a w',pC)=>∃L' us,pC=es++us∧Tr L L' w w' us∧Q a L'
 | (.halt (.panic v) w',pC)=>∃L' us,pC=es++us∧Tr L L' w w' us∧H v L'
 | _=>False
theorem Out.jJ{L qD:LH}{w lS:World}{es PK us:Array Event}{r:Result α×Array Event}(h:Tr L qD w lS us)(he:PK=es++us)(ho:Out Q H qD lS PK r):Out Q H L w es r:=by
 obtain⟨r,pC⟩:=r;cases r with
 | ok a w'=>
  obtain⟨L',Wk,h1,h2,h3⟩:=ho;exact⟨L',us++Wk,by rw[h1,he,Array.append_assoc],h.trans h2,h3⟩
 | halt hh w'=>
  cases hh <;> first | exact ho.elim | skip
  obtain⟨L',Wk,h1,h2,h3⟩:=ho;exact⟨L',us++Wk,by rw[h1,he,Array.append_assoc],h.trans h2,h3⟩
theorem pZ:∀(s:Sem α) (L:LH),az P Q H s L→∀(w:World) (es:Array Event),Sub L w→Out Q H L w es (s.runT P w es):=by
 intro s
 induction s with
 | pure a=>intro L h w es hs;exact⟨L,#[],by simp,Tr.refl hs,h⟩
 | load m a k ih=>
  intro L h w es hs;unfold az at h;cases m with
  | atomic=>exact h.elim
  | plain=>
   cases hc:L.cell? a with
   | none=>rw[hc] at h;exact h.elim
   | some v=>
    rw[hc] at h;have hw:=hs.cell hc;unfold Sem.runT;simp only[hw];refine Out.jJ (Tr.event hs ?_) (Array.push_eq_append) (ih v L h w _ hs);refine⟨rfl,?_⟩;unfold LH.cell? at hc;cases hx:L a.block with
    | none=>rw[hx] at hc;cases hc
    | some x=>exact⟨x.1,x.2,rfl,fun e=>by cases e⟩
 | store m a v k ih=>
  intro L h w es hs;unfold az at h;obtain⟨⟨rfl,h1,h2⟩,h3⟩:=h;obtain⟨hf,u,hu⟩:=hs.GW h2;have hr:(Sem.store Mode.plain a v k).runT P w es=k.runT P (w.setCell a v) (es.push ⟨.cell a,true,false⟩):=by
   cases v <;> first | (simp only[single,Bool.false_eq_true] at h1;done) | (simp only[Sem.runT,hu,hf,Bool.false_eq_true,if_false];rfl)
  rw[hr];have ht:=Tr.setCell hs h2 v;exact Out.jJ ht (Array.push_eq_append) (ih _ h3 _ _ ht.sub)
 | new o k ih=>
  intro L h w es hs;unfold az at h;unfold Sem.runT;have ht:=Tr.alloc hs o;exact Out.jJ ht (by simp) (ih _ _ (h _ hs.free) _ _ ht.sub)
 | shape r k ih=>
  intro L h w es hs;unfold az at h;unfold Sem.runT;cases hx:L r with
  | none=>rw[hx] at h;exact h.elim
  | some x=>
   obtain⟨o,wr⟩:=x;rw[hx] at h;have hw:=hs _ _ _ hx;cases o <;> (simp only[World.shape?,hw];exact ih _ _ h _ _ hs)
 | freeze a n k ih=>
  intro L h w es hs;unfold az at h;unfold Sem.runT;cases hx:L a.block with
  | none=>rw[hx] at h;exact h.elim
  | some x=>
   obtain⟨o,wr⟩:=x;rw[hx] at h;cases o <;> first | exact h.elim | skip
   cases wr with
   | false=>exact h.elim
   | true=>
    rename_i c e fz;rw[Iw (hs _ _ _ hx)];have ht:=Tr.setObj hs (o:=.cells c e (PO fz a n)) hx;exact Out.jJ ht (by simp) (ih _ h _ _ ht.sub)
 | frozen a k ih=>
  intro L h w es hs;unfold az at h;unfold Sem.runT;cases hx:L a.block with
  | none=>rw[hx] at h;exact h.elim
  | some x=>
   obtain⟨o,wr⟩:=x;rw[hx] at h;have hw:=hs _ _ _ hx;cases o with
   | cells c e fz=>obtain⟨lo,hi⟩:=fz;simp only[World.frozen?,hw];exact ih _ _ h _ _ hs
   | _=>simp only[World.frozen?,hw];exact ih _ _ h _ _ hs
 | getObj r k ih=>
  intro L h w es hs;unfold az at h;unfold Sem.runT;cases hx:L r with
  | none=>rw[hx] at h;exact h.elim
  | some x=>
   obtain⟨o,wr⟩:=x;rw[hx] at h;have hw:=hs _ _ _ hx
   by_cases jX:ic o=true
   ·simp only[jX,if_true] at h
   ·simp only[jX] at h;have Y7:o.isChan=false:=by cases o <;> first | rfl | exact absurd rfl jX
    have cN:nz L ⟨.obj r,false,o.isChan⟩:=⟨Y7,o,wr,hx,fun e=>by cases e⟩;cases o <;> first
     | exact absurd rfl jX
     | (simp only[hw];exact Out.jJ (Tr.event hs cN) (Array.push_eq_append) (ih _ L h w _ hs))
 | setObj r o k ih=>
  intro L h w es hs;unfold az at h;unfold Sem.runT;cases hx:L r with
  | none=>rw[hx] at h;exact h.elim
  | some x=>
   obtain⟨o',wr⟩:=x;rw[hx] at h;cases wr with
   | false=>exact h.elim
   | true=>
    have hw:=hs _ _ _ hx;simp only at h
    by_cases jX:(ic o'||ic o)=true
    ·rw[if_pos jX] at h;exact h.elim
    ·rw[if_neg jX] at h;simp only[Bool.or_eq_true,not_or,Bool.not_eq_true] at jX;have Y7:o.isChan=false:=by cases o <;> first | rfl | (have:=jX.2;cases this)
     have ht:=Tr.setObj hs (o:=o) hx;have cN:nz (L.put r o) ⟨.obj r,true,o.isChan⟩:=⟨Y7,o,true,aj _ _ _,fun _=>rfl⟩;have ht2:=ht.trans (Tr.event ht.sub cN);cases o' <;> first
      | (have:=jX.1;cases this;done)
      | (simp only[hw];exact Out.jJ ht2 (by rw[Array.empty_append];exact Array.push_eq_append) (ih _ h _ _ ht.sub))
 | choose q k ih=>
  intro L h w es hs;unfold az at h;unfold Sem.runT
  by_cases hq:q.forced=true
  ·rw[if_pos hq];exact ih _ _ (h 0 (by unfold j4;rw[if_pos hq])) _ _ hs
  ·rw[if_neg hq];have ht:Tr L L w {w with drawn:=w.drawn+1} #[]:=Tr.world hs rfl rfl rfl rfl;exact Out.jJ ht (by simp) (ih _ _ (h _ (by unfold j4;rw[if_neg hq];exact⟨_,rfl⟩)) _ _ ht.sub)
 | sys c k ih=>intro L h;exact h.elim
 | program k ih=>intro L h w es hs;exact ih _ _ h _ _ hs
 | mark m k ih=>
  intro L h w es hs;unfold az at h;unfold Sem.runT;exact Out.jJ (Tr.event hs (e:=⟨.mark m,false,true⟩) h.1) (Array.push_eq_append) (ih _ h.2 _ _ hs)
 | halt hh=>
  intro L h w es hs;unfold az at h;cases hh <;> first | exact h.elim | skip
  exact⟨L,#[],by simp,Tr.refl hs,h⟩
end
def HU(P:Program)(main:Bool)(g:Goroutine)(L:LH)(K:Goroutine→LH→Prop):Prop:=
 ∀w,Sub L w→∃g' w' es L',stepG P main g w=.go g' w' es∧Tr L L' w w' es∧K g' L'
structure ax(P:Program) where
 main:Bool
 Go:Goroutine→LH→Prop
 step:∀g L,g.status=.running→HU P main g L Go→Go g L
 pk:Addr→Value→Prop
 sP:∀(g g':Goroutine) (L:LH) (a:Addr) (v:Value) (es:Array Event),pk a v→g.status=.running→(∀e∈es,e=⟨.cell a,false,false⟩)→(∀w,w.cell? a=some v→stepG P main g w=.go g' w es)→Go g' L→Go g L
def Fr(f:FuncId)(T:Array Value)(k:List Item)(ds:List Deferred)(m:FrameMode)(kd:CallKind)(ro:Option Nat):Frame:=⟨f,T,k,ds,m,kd,ro⟩
def ev(T:Array Value):Operand→Value
 | .tmp t=>T.getD t undef
 | .const v=>v
 | .global g=>.pointer (some ⟨g,0,none⟩)
 | .func f=>.func (.func f) #[] #[]
theorem qO(f:FuncId)(T:Array Value)(k:List Item)(ds:List Deferred)(m:FrameMode)(kd:CallKind)(ro:Option Nat):(Fr f T k ds m kd ro).eval=ev T:=by
 funext x;cases x <;> rfl
def fj(P:Program)(K:Goroutine→LH→Prop)(fr:Frame)(cs:List Frame)(kind:CallKind):Next→LH→Prop
 | .value v,L=>K (G (fr.finish v) cs) L
 | .skip,L=>K (G (fr.finish undef) cs) L
 | .enter f args,L=>K (G (Frame.enter P f args kind) (fr::cs)) L
 | .round l f tmps assign body,L=>K (G (Frame.round l f tmps assign body .normal) (fr::cs)) L
 | .defer d,L=>K (G ({fr with defers:=d::fr.defers}.finish undef) cs) L
 | .recover,L=>
  match(match fr.roundOf with
   | some l=>if P.follows .rangeFuncRecover then tryRecover fr cs else tryRecoverLoop l cs
   | none=>tryRecover fr cs) with
  | some (v,iY)=>K (G (fr.finish v) iY) L
  | none=>K (G (fr.finish .nilIface) cs) L
 | _,_=>False
def kY(K:Goroutine→LH→Prop)(fr:Frame)(cs:List Frame):Value→LH→Prop:=
 fun v L=>K (G (fr.raise [{v,recovered:=false}]) cs) L
def kindOf(todo:List Item):CallKind:=match todo with | .call _ true _ _::_=>.wrapped | _=>.normal
theorem mL(P:Program)(fn:FuncId)(es:Array Event):∀e∈seen P fn es,e∈es:=by
 have key:∀(l:List Event) (x:Bool×Array Event),∀e∈(l.foldl (fun(x:Bool×Array Event) e=>
   match e.loc with
   | .mark (.extern f)=>((P.funcs[f]?).any (·.norace),x.2)
   | _=>(x.1,if x.1&&!e.sync then x.2 else x.2.push e)) x).2,e∈x.2∨e∈l:=by
  intro l
  induction l with
  | nil=>intro x e he;exact .inl he
  | cons a l ih=>
   intro x e he;simp only[List.foldl_cons] at he;rcases ih _ e he with h | h
   ·revert h
    split
    ·intro h;exact .inl h
    ·intro h;simp only at h
     split at h
     ·exact .inl h
     ·rcases Array.mem_push.1 h with h | h
      ·exact .inl h
      ·exact .inr (by rw[h];exact List.mem_cons_self)
   ·exact .inr (List.mem_cons_of_mem _ h)
 intro e he;dsimp only[seen] at he;rw[←Array.foldl_toList] at he;rcases key es.toList _ e he with h | h
 ·simp at h
 ·exact Array.mem_toList_iff.1 h
theorem Tr.fewer{L L':LH}{w w':World}{es pC:Array Event}(h:Tr L L' w w' es)(hs:∀e∈pC,e∈es):Tr L L' w w' pC:={h with ev:=fun e he=>h.ev e (hs e he)}
theorem ig(es pC:Array Event)(g:Goroutine)(w:World):GStep.after es (.go g w pC)=.go g w (es++pC):=by cases es;rfl
theorem ml{P:Program}{K:Goroutine→LH→Prop}{fr:Frame}{cs:List Frame}{s:Sem Next}{L:LH}{w:World}(hw:Sub L w)
  (h:az P (fj P K fr cs (kindOf fr.todo)) (kY K fr cs) s L):
  ∃g' w' es L',stepG.apply P true fr cs none s w=.go g' w' es∧Tr L L' w w' es∧K g' L':=by
 have ia:=pZ s L h w #[] hw;have he:∃r e9,s.runT P w #[]=(r,e9):=⟨_,_,rfl⟩;obtain⟨r,e9,he⟩:=he;rw[he] at ia;unfold stepG.apply;simp only[he,if_true];have small:∀pC,(∀e∈pC,e∈e9)→∀e∈(if fr.kind==.early then#[] else pC),e∈e9:=by
  intro pC h' e nl
  split at nl
  ·simp at nl
  ·exact h' e nl
 cases r with
 | ok a w'=>
  obtain⟨L',us,h1,h2,h3⟩:=ia;rw[Array.empty_append] at h1;subst h1;have gB:∀e∈seen P fr.fn (if fr.kind==.early then#[] else e9),e∈e9:=fun e nl=>small e9 (fun _ x=>x) e (mL _ _ _ e nl);cases a <;> first | exact h3.elim | skip
  case recover=>
   simp only[fj] at h3
   revert h3
   cases bE:fr.roundOf with
   | none=>
    simp only;cases ht:tryRecover fr cs with
    | none=>intro h3;simp only[ig,Array.append_empty];exact⟨_,_,_,L',rfl,h2.fewer gB,h3⟩
    | some x=>obtain⟨v,iY⟩:=x;intro h3;simp only[ig,Array.append_empty];exact⟨_,_,_,L',rfl,h2.fewer gB,h3⟩
   | some l=>
    simp only;cases ht:(if P.follows .rangeFuncRecover then tryRecover fr cs else tryRecoverLoop l cs) with
    | none=>intro h3;simp only[ig,Array.append_empty];exact⟨_,_,_,L',rfl,h2.fewer gB,h3⟩
    | some x=>obtain⟨v,iY⟩:=x;intro h3;simp only[ig,Array.append_empty];exact⟨_,_,_,L',rfl,h2.fewer gB,h3⟩
  all_goals
   simp only[ig,Array.append_empty];exact⟨_,_,_,L',rfl,h2.fewer gB,h3⟩
 | halt hh w'=>
  cases hh <;> first | exact ia.elim | skip
  obtain⟨L',us,h1,h2,h3⟩:=ia;rw[Array.empty_append] at h1;subst h1;have gB:∀e∈seen P fr.fn (if fr.kind==.early then#[] else e9),e∈e9:=fun e nl=>small e9 (fun _ x=>x) e (mL _ _ _ e nl);simp only[ig,Array.append_empty];exact⟨_,_,_,L',rfl,h2.fewer gB,h3⟩
section
variable {P:Program}(X:ax P)
variable {f:FuncId}{T:Array Value}{k:List Item}{ds:List Deferred}{kd:CallKind}{ro:Option Nat}{cs:List Frame}{L:LH}
theorem ax.quiet{g g':Goroutine}(hs:g.status=.running)(h:∀w,stepG P X.main g w=.go g' w)(hK:X.Go g' L):X.Go g L:=
 X.step g L hs fun w hw=>⟨g',w,#[],L,h w,Tr.refl hw,hK⟩
theorem ax.skip(h:X.Go (G (Fr f T k ds .run kd ro) cs) L):X.Go (G (Fr f T (.code .skip::k) ds .run kd ro) cs) L:=
 X.quiet rfl (fun w=>by simp[G,Fr,stepG,stepG.exec]) h
theorem ax.label{l:Nat}(h:X.Go (G (Fr f T k ds .run kd ro) cs) L):X.Go (G (Fr f T (.code (.label l)::k) ds .run kd ro) cs) L:=
 X.quiet rfl (fun w=>by simp[G,Fr,stepG,stepG.exec]) h
theorem ax.inBlock{l:Nat}(h:X.Go (G (Fr f T k ds .run kd ro) cs) L):X.Go (G (Fr f T (.inBlock l::k) ds .run kd ro) cs) L:=
 X.quiet rfl (fun w=>by simp[G,Fr,stepG,stepG.exec]) h
theorem ax.inScope{c:Code}(h:X.Go (G (Fr f T k ds .run kd ro) cs) L):X.Go (G (Fr f T (.inScope c::k) ds .run kd ro) cs) L:=
 X.quiet rfl (fun w=>by simp[G,Fr,stepG,stepG.exec]) h
theorem ax.seq{a b:Code}(h:X.Go (G (Fr f T (.code a::.code b::k) ds .run kd ro) cs) L):X.Go (G (Fr f T (.code (.seq a b)::k) ds .run kd ro) cs) L:=
 X.quiet rfl (fun w=>by simp[G,Fr,stepG,stepG.exec]) h
theorem ax.cond{c:Operand}{a b:Code}{t:Bool}(ht:ev T c=.bool t)(h:X.Go (G (Fr f T (.code (if t then a else b)::k) ds .run kd ro) cs) L):X.Go (G (Fr f T (.code (.cond c a b)::k) ds .run kd ro) cs) L:=
 X.quiet rfl (fun w=>by
  have h':Frame.eval {fn:=f,tmps:=T,todo:=.code (.cond c a b)::k,defers:=ds,mode:=.run,kind:=kd,roundOf:=ro} c=.bool t:=by
   have:=congrFun (qO f T (.code (.cond c a b)::k) ds .run kd ro) c;exact this.trans ht
  simp[G,Fr,stepG,stepG.exec,h']) h
theorem ax.block{l:Nat}{c:Code}(h:X.Go (G (Fr f T (.code c::.inBlock l::k) ds .run kd ro) cs) L):X.Go (G (Fr f T (.code (.block l c)::k) ds .run kd ro) cs) L:=
 X.quiet rfl (fun w=>by simp[G,Fr,stepG,stepG.exec]) h
theorem ax.loop{c:Code}(h:X.Go (G (Fr f T (.code c::.inLoop c::k) ds .run kd ro) cs) L):X.Go (G (Fr f T (.code (.loop c)::k) ds .run kd ro) cs) L:=
 X.quiet rfl (fun w=>by simp[G,Fr,stepG,stepG.exec]) h
theorem ax.inLoop{c:Code}(h:X.Go (G (Fr f T (.code c::.inLoop c::k) ds .run kd ro) cs) L):X.Go (G (Fr f T (.inLoop c::k) ds .run kd ro) cs) L:=
 X.quiet rfl (fun w=>by simp[G,Fr,stepG,stepG.exec]) h
theorem ax.scope{c:Code}(h:X.Go (G (Fr f T (.code c::.inScope c::k) ds .run kd ro) cs) L):X.Go (G (Fr f T (.code (.scope c)::k) ds .run kd ro) cs) L:=
 X.quiet rfl (fun w=>by simp[G,Fr,stepG,stepG.exec]) h
theorem ax.exit{l:Nat}{k':List Item}(hk:exitTo l k=some k')(h:X.Go (G (Fr f T k' ds .run kd ro) cs) L):X.Go (G (Fr f T (.code (.exit l)::k) ds .run kd ro) cs) L:=
 X.quiet rfl (fun w=>by simp[G,Fr,stepG,stepG.exec,hk]) h
theorem ax.goto{l:Nat}{k':List Item}(hk:gotoIn l k=some k')(h:X.Go (G (Fr f T k' ds .run kd ro) cs) L):X.Go (G (Fr f T (.code (.goto l)::k) ds .run kd ro) cs) L:=
 X.quiet rfl (fun w=>by simp[G,Fr,stepG,stepG.exec,hk]) h
theorem ax.region{id:Nat}{ops:Array Oper}{l:List Nat}(hl:List.range ops.size=l)(h:X.Go (G (Fr f T (.inRegion ops l::k) ds .run kd ro) cs) L):X.Go (G (Fr f T (.code (.region id ops false)::k) ds .run kd ro) cs) L:=
 X.quiet rfl (fun w=>by simp[G,Fr,stepG,stepG.exec,hl]) h
theorem ax.Aw{ops:Array Oper}(h:X.Go (G (Fr f T k ds .run kd ro) cs) L):X.Go (G (Fr f T (.inRegion ops []::k) ds .run kd ro) cs) L:=
 X.quiet rfl (fun w=>by simp[G,Fr,stepG,stepG.exec]) h
theorem ax.unwanted{ops:Array Oper}{i:Nat}{rest:List Nat}(hw:((ops[i]?).map (Region.wanted · (yielded ops T))).getD false=false)
  (h:X.Go (G ((Fr f T (.inRegion ops (i::rest)::k) ds .run kd ro).finish undef) cs) L):X.Go (G (Fr f T (.inRegion ops (i::rest)::k) ds .run kd ro) cs) L:=
 X.quiet rfl (fun w=>by simp[G,Fr,stepG,stepG.exec,hw]) h
theorem ax.G7{id:Nat}{ops:Array Oper}(h:∀t,X.Go (G (Fr f T (.inRegion ops (Region.schedule (P.follows .mixedOrders) ops t)::k) ds .run kd ro) cs) L):
  X.Go (G (Fr f T (.code (.region id ops true)::k) ds .run kd ro) cs) L:=
 X.step _ L rfl fun w hw=>⟨_,{w with drawn:=w.drawn+1},#[],L,by simp[G,Fr,stepG,stepG.exec,choose,Sem.run,Question.forced,Question.cut];rfl,Tr.world hw rfl rfl rfl rfl,h _⟩
theorem ax.op{ops:Array Oper}{i:Nat}{rest:List Nat}{o:Oper}(ho:ops[i]?=some o)(hw:Region.wanted o (yielded ops T)=true)(hd:ro=none∨(∀c,o.op≠.defer c))
  (h:az P (fj P X.Go (Fr f T (.inRegion ops (i::rest)::k) ds .run kd ro) cs .normal) (kY X.Go (Fr f T (.inRegion ops (i::rest)::k) ds .run kd ro) cs) (execOp (ev T) o) L):
  X.Go (G (Fr f T (.inRegion ops (i::rest)::k) ds .run kd ro) cs) L:=
 X.step _ L rfl fun w hs=>by
  obtain⟨g',w',es,L',h1,h2,h3⟩:=ml (K:=X.Go) (fr:=Fr f T (.inRegion ops (i::rest)::k) ds .run kd ro) (cs:=cs) hs h;refine⟨g',w',es,L',?_,h2,h3⟩;rw[←h1,←qO f T (.inRegion ops (i::rest)::k) ds .run kd ro];unfold Fr;cases ro with
  | none=>simp[G,stepG,stepG.exec,stepG.oper,Frame.oper?,ho,hw]
  | some l=>
   rcases hd with hd | hd
   ·cases hd
   ·simp only[G,stepG,stepG.exec,stepG.oper,Frame.oper?,ho,hw,Option.map_some,Option.getD_some,if_true];cases aZ:o.op <;> first | exact absurd aZ (hd _) | rfl
theorem ax.ending(h:X.Go (G (Fr f T [] ds .returning kd none) cs) L):X.Go (G (Fr f T [] ds .run kd none) cs) L:=
 X.quiet rfl (fun w=>by simp[G,Fr,stepG,stepG.exec]) h
theorem ax.ret(h:X.Go (G (Fr f T (.code .ret::k) ds .returning kd none) cs) L):X.Go (G (Fr f T (.code .ret::k) ds .run kd none) cs) L:=
 X.quiet rfl (fun w=>by simp[G,Fr,stepG,stepG.exec]) h
theorem ax.leave{fn:Func}{c:Frame}(hf:P.funcs[f]?=some fn)(hk:kd=.normal∨kd=.wrapped)
  (h:az P (fun v L'=>X.Go (G (c.finish v) cs) L') (fun _ _=>False) (results fn T) L):X.Go (G (Fr f T k [] .returning kd none) (c::cs)) L:=
 X.step _ L rfl fun w hs=>by
  have ia:=pZ _ L h w #[] hs;have he:∃r e9,(results fn T).runT P w #[]=(r,e9):=⟨_,_,rfl⟩;obtain⟨r,e9,he⟩:=he;rw[he] at ia;cases r with
  | halt hh w'=>cases hh <;> first | exact ia.elim | (obtain⟨_,_,_,_,h3⟩:=ia;exact h3.elim)
  | ok v w'=>
   obtain⟨L',us,h1,h2,h3⟩:=ia;rw[Array.empty_append] at h1;subst h1;refine⟨_,w',seen P f e9,L',?_,h2.fewer (mL _ _ _),h3⟩;rcases hk with rfl | rfl <;> simp only[G,Fr,stepG,unwind,hf,he,doReturn,ig,Array.append_empty]
end
def Fn{P:Program}(X:ax P)(f:FuncId)(args:Array Value)(L:LH)(Q:Value→LH→Prop)(H:List PanicEntry→LH→Prop:=fun _ _=>False):Prop:=
 ∀(kd:CallKind) (c:Frame) (cs:List Frame),(kd=.normal∨kd=.wrapped)→(∀v L',Q v L'→X.Go (G (c.finish v) cs) L')→(∀ch L',H ch L'→X.Go (G (c.raise ch) cs) L')→
  X.Go (G (Frame.enter P f args kd) (c::cs)) L
theorem Fn.mono{P:Program}{X:ax P}{f:FuncId}{args:Array Value}{L:LH}{Q Q':Value→LH→Prop}{H H':List PanicEntry→LH→Prop}(h:Fn X f args L Q H)(hq:∀v L',Q v L'→Q' v L')(hh:∀c L',H c L'→H' c L'):Fn X f args L Q' H':=
 fun kd c cs hk h1 h2=>h kd c cs hk (fun v L' x=>h1 v L' (hq v L' x)) (fun ch L' x=>h2 ch L' (hh ch L' x))
theorem oL{P:Program}{f:FuncId}{fn:Func}{body:Code}{args:Array Value}{kd:CallKind}(hf:P.funcs[f]?=some fn)(hb:fn.body=some body):
  Frame.enter P f args kd=Fr f (args++Array.replicate (fn.ntmps - args.size) undef) [.code body] [] .run kd none:=by
 simp[Frame.enter,Fr,hf,hb]
section
variable {α β:Type}{P:Program}{Q:α→LH→Prop}{H:Value→LH→Prop}{L:LH}
theorem gH{Q':α→LH→Prop}{H':Value→LH→Prop}(hq:∀a L,Q a L→Q' a L)(hh:∀v L,H v L→H' v L):∀(s:Sem α) (L:LH),az P Q H s L→az P Q' H' s L:=by
 intro s
 induction s with
 | pure a=>intro L h;exact hq _ _ h
 | load m a k ih=>
  intro L h;unfold az at h ⊢;cases m with
  | atomic=>exact h
  | plain=>cases hc:L.cell? a with
   | none=>rw[hc] at h;exact h
   | some v=>rw[hc] at h;exact ih _ _ h
 | store m a v k ih=>intro L h;exact⟨h.1,ih _ h.2⟩
 | new o k ih=>intro L h b hb;exact ih _ _ (h b hb)
 | shape r k ih=>
  intro L h;unfold az at h ⊢;cases hx:L r with
  | none=>rw[hx] at h;exact h
  | some x=>obtain⟨o,wr⟩:=x;rw[hx] at h;cases o <;> exact ih _ _ h
 | freeze a n k ih=>
  intro L h;unfold az at h ⊢;cases hx:L a.block with
  | none=>rw[hx] at h;exact h
  | some x=>obtain⟨o,wr⟩:=x;rw[hx] at h;cases o <;> first | exact h.elim | (cases wr <;> first | exact h.elim | exact ih _ h)
 | frozen a k ih=>
  intro L h;unfold az at h ⊢;cases hx:L a.block with
  | none=>rw[hx] at h;exact h
  | some x=>obtain⟨o,wr⟩:=x;rw[hx] at h;cases o <;> exact ih _ _ h
 | getObj r k ih=>
  intro L h;unfold az at h ⊢;cases hx:L r with
  | none=>rw[hx] at h;exact h
  | some x=>
   obtain⟨o,wr⟩:=x;rw[hx] at h;simp only at h ⊢
   split <;> rename_i hs
   ·rw[if_pos hs] at h;exact h
   ·rw[if_neg hs] at h;exact ih _ _ h
 | setObj r o k ih=>
  intro L h;unfold az at h ⊢;cases hx:L r with
  | none=>rw[hx] at h;exact h
  | some x=>
   obtain⟨o',wr⟩:=x;rw[hx] at h;cases wr with
   | false=>exact h
   | true=>
    simp only at h ⊢
    split <;> rename_i hs
    ·rw[if_pos hs] at h;exact h
    ·rw[if_neg hs] at h;exact ih _ h
 | choose q k ih=>intro L h n hn;exact ih _ _ (h n hn)
 | sys c k ih=>intro L h;exact h
 | program k ih=>intro L h;exact ih _ _ h
 | mark m k ih=>intro L h;exact⟨h.1,ih _ h.2⟩
 | halt hh=>intro L h;cases hh <;> first | exact h | exact(‹∀v L,H v L→H' v L› _ _ h)
theorem A7(f:β→Sem α):∀(x:Sem β) (L:LH),az P Q H (x.bind f) L↔az P (fun b L'=>az P Q H (f b) L') H x L:=by
 intro x
 induction x with
 | pure a=>intro L;rfl
 | load m a k ih=>
  intro L;simp only[Sem.bind];unfold az;cases m with
  | atomic=>rfl
  | plain=>cases hc:L.cell? a with
   | none=>rfl
   | some v=>exact ih _ _
 | store m a v k ih=>intro L;simp only[Sem.bind];unfold az;rw[ih]
 | new o k ih=>intro L;simp only[Sem.bind];unfold az;simp only[ih]
 | shape r k ih=>
  intro L;simp only[Sem.bind];unfold az;cases hx:L r with
  | none=>rfl
  | some x=>obtain⟨o,wr⟩:=x;cases o <;> exact ih _ _
 | freeze a n k ih=>
  intro L;simp only[Sem.bind];unfold az;cases hx:L a.block with
  | none=>rfl
  | some x=>obtain⟨o,wr⟩:=x;cases o <;> first | rfl | (cases wr <;> first | rfl | exact ih _)
 | frozen a k ih=>
  intro L;simp only[Sem.bind];unfold az;cases hx:L a.block with
  | none=>rfl
  | some x=>obtain⟨o,wr⟩:=x;cases o <;> exact ih _ _
 | getObj r k ih=>
  intro L;simp only[Sem.bind];unfold az;cases hx:L r with
  | none=>rfl
  | some x=>obtain⟨o,wr⟩:=x;simp only[ih]
 | setObj r o k ih=>
  intro L;simp only[Sem.bind];unfold az;cases hx:L r with
  | none=>rfl
  | some x=>obtain⟨o',wr⟩:=x;cases wr <;> simp only[ih]
 | choose q k ih=>intro L;simp only[Sem.bind];unfold az;simp only[ih]
 | sys c k ih=>intro L;rfl
 | program k ih=>intro L;exact ih _ _
 | mark m k ih=>intro L;simp only[Sem.bind];unfold az;rw[ih]
 | halt hh=>intro L;cases hh <;> rfl
theorem ae(x:Sem β)(f:β→Sem α):az P Q H (x>>= f) L=az P (fun b L'=>az P Q H (f b) L') H x L:=propext (A7 f x L)
theorem ar(a:α):az P Q H (pure a) L=Q a L:=rfl
theorem A9(x:Sem β)(f:β→α):az P Q H (f<$>x) L=az P (fun b L'=>Q (f b) L') H x L:=propext (A7 (fun b=>.pure (f b)) x L)
theorem dV{Q:Program→LH→Prop}:az P Q H program L=Q P L:=rfl
end
section
variable {P:Program}{H:Value→LH→Prop}{L:LH}
theorem ao{t:TypeId}{d:TypeDesc}(h:P.underlying t=some d){Q:TypeDesc→LH→Prop}:az P Q H (underlying t) L=Q d L:=by
 unfold underlying;rw[ae,dV];simp only[h]
 rfl
theorem dW{t:TypeId}{i:TypeInfo}(h:P.info? t=some i){Q:TypeInfo→LH→Prop}:az P Q H (typeInfo t) L=Q i L:=by
 unfold typeInfo;rw[ae,dV];simp only[h]
 rfl
theorem dA{t:TypeId}{z:Value}(h:(P.info? t).bind (·.zero)=some z){Q:Value→LH→Prop}:az P Q H (zeroValue t) L=Q z L:=by
 cases hi:P.info? t with
 | none=>rw[hi] at h;cases h
 | some i=>
  rw[hi] at h;simp only[Option.bind_some] at h;unfold zeroValue;rw[ae,dW hi];simp only[h]
  rfl
theorem bL{t:TypeId}{n:Nat}(h:(P.info? t).map (·.size)=some n){Q:Nat→LH→Prop}:az P Q H (sizeOf t) L=Q n L:=by
 cases hi:P.info? t with
 | none=>rw[hi] at h;cases h
 | some i=>
  rw[hi] at h;simp only[Option.map_some,Option.some.injEq] at h;unfold sizeOf;rw[ae,dW hi,ar,h]
def OT:TypeDesc→Bool
 | .struct _ | .array _ _=>true
 | _=>false
def eV(P:Program)(t:TypeId):Option Bool:=(P.underlying t).map OT
theorem uo{t:TypeId}{b:Bool}(h:eV P t=some b){Q:Bool→LH→Prop}:az P Q H (isAgg t) L=Q b L:=by
 unfold eV at h;cases hu:P.underlying t with
 | none=>rw[hu] at h;cases h
 | some d=>
  rw[hu] at h;simp only[Option.map_some,Option.some.injEq] at h;unfold isAgg;rw[ae,ao hu];subst h;cases d <;> rfl
theorem xk{a:Addr}{v:Value}(h:L.cell? a=some v){Q:Value→LH→Prop}:az P Q H (load a) L=Q v L:=by
 show az P Q H (.load .plain a .pure) L=_;unfold az;rw[h]
 rfl
def cH(L:LH)(a:Addr)(n:Nat)(vs:List Value):Prop:=vs.length=n∧∀i v,vs[i]?=some v→L.cell? (a.add i)=some v
theorem uq{a:Addr}{Q:Array Value→LH→Prop}:∀(vs:List Value) (i:Nat) (acc:Array Value),(∀j v,vs[j]?=some v→L.cell? (a.add (i+j))=some v)→
  az P Q H (loadCellsFrom a i vs.length acc) L=Q (acc++vs.toArray) L:=by
 intro vs
 induction vs with
 | nil=>intro i acc _;simp[loadCellsFrom,ar]
 | cons v vs ih=>
  intro i acc h;simp only[List.length_cons,loadCellsFrom];have h0:=h 0 v rfl;rw[Nat.add_zero] at h0;rw[ae,xk h0,ih (i+1) (acc.push v) (fun j u hj=>by rw[Nat.add_assoc,Nat.add_comm 1 j];exact h (j+1) u hj)]
  congr 1
  simp
theorem rI{a:Addr}{n:Nat}{vs:List Value}(h:cH L a n vs){Q:Array Value→LH→Prop}:az P Q H (loadCells a n) L=Q vs.toArray L:=by
 obtain⟨rfl,h⟩:=h;unfold loadCells;rw[uq vs 0 #[] (fun j v hj=>by rw[Nat.zero_add];exact h j v hj)];simp
theorem lE{t:TypeId}{a:Addr}{v:Value}(ha:eV P t=some false)(h:L.cell? a=some v){Q:Value→LH→Prop}:az P Q H (loadVar t a) L=Q v L:=by
 unfold loadVar;rw[ae,uo ha];exact xk h
theorem lF{t:TypeId}{a:Addr}{n:Nat}{vs:List Value}(ha:eV P t=some true)(hn:(P.info? t).map (·.size)=some n)(h:cH L a n vs){Q:Value→LH→Prop}:
  az P Q H (loadVar t a) L=Q (.agg vs.toArray) L:=by
 unfold loadVar;rw[ae,uo ha];simp only[if_true];rw[ae,bL hn,ae,rI h,ar]
theorem fW{t:TypeId}{c:Array Value}{Q:Addr→LH→Prop}:az P Q H (newRow t c) L=∀b,L b=none→Q ⟨b,0,none⟩ (L.put b (.cells c t)):=by
 unfold newRow;rw[ae]
 rfl
end
def Le(L L':LH):Prop:=∀b x,L b=some x→L' b=some x
theorem Le.refl(L:LH):Le L L:=fun _ _ h=>h
theorem Le.trans{L qD Fh:LH}(h:Le L qD)(h':Le qD Fh):Le L Fh:=fun b x hx=>h' b x (h b x hx)
theorem Le.put{L:LH}{b:Nat}(h:L b=none)(o:Obj):Le L (L.put b o):=fun b' x hx=>by
 have:b'≠b:=fun e=>by subst e;rw[h] at hx;cases hx
 rw[au _ _ this];exact hx
theorem Le.cell{L L':LH}(h:Le L L'){a:Addr}{v:Value}(hc:L.cell? a=some v):L'.cell? a=some v:=by
 unfold LH.cell? at hc ⊢;cases hx:L a.block with
 | none=>rw[hx] at hc;cases hc
 | some x=>rw[h _ _ hx,←hx];exact hc
theorem Le.cH{L L':LH}(h:Le L L'){a:Addr}{n:Nat}{vs:List Value}(hc:cH L a n vs):cH L' a n vs:=⟨hc.1,fun i v hi=>h.cell (hc.2 i v hi)⟩
theorem ay{L:LH}{b off:Nat}{c:Array Value}{e:TypeId}{fz:Nat×Nat}{wr:Bool}{v:Value}(h:L b=some (.cells c e fz,wr))(hv:c[off]?=some v):L.cell? ⟨b,off,none⟩=some v:=by
 unfold LH.cell?;simp only[h];exact hv
structure TN(T T':Array Value)(d:Nat)(v:Value):Prop where
 size:T'.size=T.size
 same:T'.getD d undef=v
 other:∀j,(j==d)=false→T'.getD j undef=T.getD j undef
theorem rE{T:Array Value}{d:Nat}(v:Value)(h:d<T.size):TN T (T.setIfInBounds d v) d v where
 size:=by simp
 same:=by simp[Array.getD,h]
 other:=fun j hj=>by
  have aY:j≠d:=by simpa using hj
  by_cases aU:j<T.size
  ·simp[Array.getD,aU,Array.getElem_setIfInBounds,Ne.symm aY]
  ·simp[Array.getD,aU]
section
variable {P:Program}(X:ax P)
variable {f:FuncId}{T:Array Value}{k:List Item}{ds:List Deferred}{kd:CallKind}{ro:Option Nat}{cs:List Frame}{L:LH}{ops:Array Oper}{i:Nat}{rest:List Nat}
theorem mq{o:Oper}{d:Nat}(ho:ops[i]?=some o)(hd:o.dst=some d)(v:Value):
  (Fr f T (.inRegion ops (i::rest)::k) ds .run kd ro).finish v=Fr f (T.setIfInBounds d v) (.inRegion ops rest::k) ds .run kd ro:=by
 simp[Frame.finish,Fr,ho,hd]
theorem pF{o:Oper}(ho:ops[i]?=some o)(hd:o.dst=none)(v:Value):
  (Fr f T (.inRegion ops (i::rest)::k) ds .run kd ro).finish v=Fr f T (.inRegion ops rest::k) ds .run kd ro:=by
 simp[Frame.finish,Fr,ho,hd]
end
def aR(P:Program)(op:Op)(ty:TypeId)(T:Array Value)(L:LH)(v:Value):Prop:=
 ∀(dst:Option Tmp) (pos:String) (af:Array Edge) (gd:Option (Nat×Bool)) (Q:Next→LH→Prop) (H:Value→LH→Prop),Q (.value v) L→az P Q H (execOp (ev T) ⟨dst,op,ty,pos,af,gd⟩) L
def fS:Op→Bool
 | .defer _=>true
 | _=>false
section
variable {P:Program}(X:ax P)
variable {f:FuncId}{T:Array Value}{k:List Item}{ds:List Deferred}{kd:CallKind}{ro:Option Nat}{cs:List Frame}{L:LH}{ops:Array Oper}{i:Nat}{rest:List Nat}
variable {op:Op}{ty:TypeId}{pos:String}{af:Array Edge}{gd:Option (Nat×Bool)}{d:Nat}{v:Value}
end
section
variable {P:Program}{T:Array Value}{L:LH}{ty t t2:TypeId}{x y c:Operand}{v u:Value}{a b:Int}{k:IntKind}
theorem aR.move(h:ev T x=v):aR P (.move x) ty T L v:=by
 intro dst pos af gd Q H hq;subst h;exact hq
theorem aR.assign(h:ev T x=v):aR P (.assign x) ty T L v:=by
 intro dst pos af gd Q H hq;subst h;exact hq
theorem aR.aau(hc:ev T c=.bool true)(h:ev T x=v):aR P (.pick c x y) ty T L v:=by
 intro dst pos af gd Q H hq;simp only[execOp,hc,asBool,ae,ar,if_true,h];exact hq
theorem aR.aat(hc:ev T c=.bool false)(h:ev T y=v):aR P (.pick c x y) ty T L v:=by
 intro dst pos af gd Q H hq;simp only[execOp,hc,asBool,ae,ar,Bool.false_eq_true,if_false,h];exact hq
def nJ:BinOp→IntKind→Int→Int→Option Value
 | .add,k,a,b=>some (.int k (k.wrap (a+b)))
 | .sub,k,a,b=>some (.int k (k.wrap (a - b)))
 | .mul,k,a,b=>some (.int k (k.wrap (a *b)))
 | .eql,_,a,b=>some (.bool (a==b))
 | .neq,_,a,b=>some (.bool (a !=b))
 | .lss,_,a,b=>some (.bool (decide (a<b)))
 | .leq,_,a,b=>some (.bool (decide (a≤b)))
 | .gtr,_,a,b=>some (.bool (decide (b<a)))
 | .geq,_,a,b=>some (.bool (decide (b≤a)))
 | .and,k,a,b=>some (.int k (k.wrap (BitVec.ofInt k.bits a&&& BitVec.ofInt k.bits b).toNat))
 | .or,k,a,b=>some (.int k (k.wrap (BitVec.ofInt k.bits a||| BitVec.ofInt k.bits b).toNat))
 | .xor,k,a,b=>some (.int k (k.wrap (BitVec.ofInt k.bits a ^^^ BitVec.ofInt k.bits b).toNat))
 | .quo,k,a,b=>if b=0 then none else some (.int k (k.wrap (a.tdiv b)))
 | .rem,k,a,b=>if b=0 then none else some (.int k (a.tmod b))
 | _,_,_,_=>none
theorem aR.bin{op:BinOp}(hx:ev T x=.int k a)(hy:ev T y=.int k b)(h:nJ op k a b=some v):aR P (.binOp op t x y t2) ty T L v:=by
 intro dst pos af gd Q H hq;have e:∀(Q':Value→LH→Prop),Q' v L→az P Q' H (do eqGuard op t x y (.int k a) (.int k b);binOp op t (.int k a) (.int k b)) L:=by
  intro Q' kS;rw[ae];have hg:∀X3:Unit→LH→Prop,az P X3 H (eqGuard op t x y (.int k a) (.int k b)) L=X3 () L:=by
   intro X3;cases op <;> rfl
  rw[hg];cases op <;> simp only[nJ,Option.some.injEq,reduceCtorEq] at h <;> first
   | (subst h;simp only[binOp,ne_eq,not_true_eq_false,if_false,Op.intArith,Op.intCmp,Op.intBits];exact kS)
   | skip
  all_goals
   split at h
   ·cases h
   ·rename_i hb;simp only[Option.some.injEq] at h;subst h;simp only[binOp,ne_eq,not_true_eq_false,if_false,Op.intDiv,if_neg hb];exact kS
 simp only[execOp,hx,hy];rw[ae];exact e _ hq
theorem aR.shl{yk:IntKind}(hx:ev T x=.int k a)(hy:ev T y=.int yk b)(hb:0≤b):aR P (.binOp .shl t x y t2) ty T L (.int k (k.wrap (a * 2 ^ min b.toNat k.bits))):=by
 intro dst pos af gd Q H hq;have hn:¬b<0:=by omega
 simp only[execOp,hx,hy,ae,eqGuard,binOp,Op.shift,if_neg hn];exact hq
theorem aR.shr{yk:IntKind}(hx:ev T x=.int k a)(hy:ev T y=.int yk b)(hb:0≤b):aR P (.binOp .shr t x y t2) ty T L (.int k (a.fdiv (2 ^ min b.toNat k.bits))):=by
 intro dst pos af gd Q H hq;have hn:¬b<0:=by omega
 simp only[execOp,hx,hy,ae,eqGuard,binOp,Op.shift,if_neg hn];exact hq
theorem aR.not{p:Bool}(hx:ev T x=.bool p):aR P (.unOp .not t x) ty T L (.bool (!p)):=by
 intro dst pos af gd Q H hq;simp only[execOp,hx,ae,Op.unary,ar];exact hq
theorem aR.neg(hx:ev T x=.int k a):aR P (.unOp .neg t x) ty T L (.int k (k.wrap (0 - a))):=by
 intro dst pos af gd Q H hq;simp only[execOp,hx,ae,Op.unary,Op.intArith,ar];exact hq
theorem aR.conv{d1:TypeDesc}{k':IntKind}(h1:P.underlying t=some d1)(h2:P.underlying t2=some (.int k'))(hx:ev T x=.int k a):aR P (.convert t t2 x) ty T L (.int k' (k'.wrap a)):=by
 intro dst pos af gd Q H hq;simp only[execOp,hx];rw[ae];unfold convert;rw[ae,ao h1,ae,ao h2];cases d1 <;> exact hq
theorem aR.RH{ad:Addr}(ht:eV P t=some false)(hp:ev T x=.pointer (some ad))(hc:L.cell? ad=some v):aR P (.load t x) ty T L v:=by
 intro dst pos af gd Q H hq;simp only[execOp,hp];rw[ae];unfold Instr.loadAt;rw[ae];simp only[Instr.sureAddr,ar];rw[lE ht hc];exact hq
theorem aR.cO{ad:Addr}{n:Nat}{vs:List Value}(ht:eV P t=some true)(hn:(P.info? t).map (·.size)=some n)(hp:ev T x=.pointer (some ad))(hc:cH L ad n vs):aR P (.load t x) ty T L (.agg vs.toArray):=by
 intro dst pos af gd Q H hq;simp only[execOp,hp];rw[ae];unfold Instr.loadAt;rw[ae];simp only[Instr.sureAddr,ar];rw[lF ht hn hc];exact hq
theorem yF{ad:Addr}{fl:Field}{n:Nat}(hn:(P.info? fl.type).map (·.size)=some n)(h0:n≠0){Q:Addr→LH→Prop}{H:Value→LH→Prop}:az P Q H (fieldPlace ad fl) L=Q (ad.add fl.offset) L:=by
 unfold fieldPlace;rw[ae,bL hn];simp only[if_neg h0,ar]
theorem aR.field{ad Mm:Addr}{fs:Array Field}{fl:Field}{fi n:Nat}(hu:P.underlying t=some (.struct fs))(hf:fs[fi]?=some fl)(hn:(P.info? fl.type).map (·.size)=some n)(h0:n≠0)(hp:ev T x=.pointer (some ad))(ha:ad.add fl.offset=Mm):
  aR P (.fieldAddr t x fi) ty T L (.pointer (some Mm)):=by
 intro dst pos af gd Q H hq;simp only[execOp,hp];rw[ae];unfold Instr.fieldAt;rw[ae,ao hu];simp only[hf];rw[ae];simp only[Instr.sureAddr,ar];rw[ae,yF hn h0,ar,ha];exact hq
theorem aR.Ae{ad:Addr}(hx:ev T x=.pointer (some ad)):aR P (.nilCheck x) ty T L (.pointer (some ad)):=by
 intro dst pos af gd Q H hq;simp only[execOp,hx];exact hq
theorem aR.Ad{g:FuncId}{f1 f2:Array Value}(hx:ev T x=.func (.func g) f1 f2):aR P (.nilCheck x) ty T L (.func (.func g) f1 f2):=by
 intro dst pos af gd Q H hq;simp only[execOp,hx];exact hq
theorem aR.Jl{l:Nat}{f1 f2:Array Value}(hx:ev T x=.func (.yield l) f1 f2):aR P (.nilCheck x) ty T L (.func (.yield l) f1 f2):=by
 intro dst pos af gd Q H hq;simp only[execOp,hx];exact hq
theorem aR.xI{e:TypeId}{ad:Addr}{len cap n i:Nat}(hu:P.underlying t=some (.slice e))(hn:(P.info? e).map (·.size)=some n)(hx:ev T x=.slice (some ad) len cap)(hy:ev T y=.int k (i:Int))(hi:i<len):
  aR P (.indexAddr t x y) ty T L (.pointer (some (ad.add (i *n)))):=by
 intro dst pos af gd Q H hq;simp only[execOp,hx,hy];rw[ae];unfold Instr.indexAt;simp only[asIntOf,ae,ar];rw[ao hu];simp only[ae,ar];rw[ao hu];have aU:(0:Int)≤(i:Int)∧(i:Int)<(len:Int):=⟨by omega,by omega⟩;simp only[aU,and_self,if_true];rw[ae,bL hn,ar];exact hq
theorem aR.CG{e:TypeId}{ad:Addr}{len n i:Nat}(hu:P.underlying t=some (.array len e))(hn:(P.info? e).map (·.size)=some n)(hx:ev T x=.pointer (some ad))(hy:ev T y=.int k (i:Int))(hi:i<len):
  aR P (.indexAddr t x y) ty T L (.pointer (some (ad.add (i *n)))):=by
 intro dst pos af gd Q H hq;simp only[execOp,hx,hy];rw[ae];unfold Instr.indexAt;simp only[asIntOf,ae,ar];rw[ao hu];simp only[Instr.sureAddr,ae,ar];rw[ao hu];have aU:(0:Int)≤(i:Int)∧(i:Int)<(len:Int):=⟨by omega,by omega⟩;simp only[aU,and_self,if_true];rw[ae,bL hn,ar];exact hq
theorem aR.extract{vs:Array Value}{n:Nat}(hx:ev T x=.tuple vs)(h:vs[n]?=some v):aR P (.extract x n) ty T L v:=by
 intro dst pos af gd Q H hq;simp only[execOp,hx,ae,Instr.extract,h,ar];exact hq
theorem aR.makeFunc{g:Go.Fn}{f1 f2:Array Operand}{v1 v2:Array Value}(h1:f1.map (ev T)=v1)(h2:f2.map (ev T)=v2):aR P (.makeFunc g f1 f2) ty T L (.func g v1 v2):=by
 intro dst pos af gd Q H hq;simp only[execOp,ae,Instr.makeFunc,ar,h1,h2];exact hq
theorem aR.Jd{d1:TypeDesc}(hu:P.underlying t=some d1)(hn:∀ms,d1≠.interface ms)(h:ev T x=v):aR P (.makeInterface t x) ty T L (.iface t v):=by
 intro dst pos af gd Q H hq;simp only[execOp,h];rw[ae];unfold Instr.makeInterface;rw[ae,ao hu];cases d1 <;> first | exact absurd rfl (hn _) | exact hq
theorem aR.build{fs:Array Field}{parts:Array (Nat×Operand)}{z:Value}{pv:List (Nat×Value)}{pl:Array (Nat×Nat)}{cells:Array Value}(hz:(P.info? t).bind (·.zero)=some z)(hu:P.underlying t=some (.struct fs))
  (hp:(parts.map fun(i,x)=>(i,ev T x)).toList=pv)(qT:∀(Q:Array (Nat×Nat)→LH→Prop) (H:Value→LH→Prop),az P Q H (fs.mapM fun f=>do pure (f.offset,←sizeOf f.type)) L=Q pl L)(hc:Instr.fill (pl[·]?) z.cells pv=some cells):
  aR P (.build t parts) ty T L (.agg cells):=by
 intro dst pos af gd Q H hq;simp only[execOp];rw[ae];unfold Instr.build;rw[ae,dA hz,ae,ao hu];simp only;rw[ae,qT,hp];simp only[hc];exact hq
theorem aR.CJ{ad:Option Addr}{len cap:Nat}{e t0:TypeId}(hu:P.underlying t0=some (.slice e))(hx:ev T x=.slice ad len cap):aR P (.call {callee:=.builtin .len,args:=#[x],argTypes:=#[t0]}) ty T L (.int .i64 len):=by
 intro dst pos af gd Q H hq;simp only[execOp,resolve,List.map_toArray,List.map_cons,List.map_nil,hx,pure,Sem.bind,bind,invoke,builtin,Builtin.len_];simp only[List.getElem?_toArray,List.getElem?_cons_zero];show az P Q H ((_>>= _)>>= _) L;rw[ae,ae,ao hu];exact hq
theorem aR.Vp{n:Nat}{e t0:TypeId}(hu:P.underlying t0=some (.array n e)):aR P (.call {callee:=.builtin .len,args:=#[x],argTypes:=#[t0]}) ty T L (.int .i64 n):=by
 intro dst pos af gd Q H hq;simp only[execOp,resolve,List.map_toArray,List.map_cons,List.map_nil,pure,Sem.bind,bind,invoke,builtin,Builtin.len_];simp only[List.getElem?_toArray,List.getElem?_cons_zero];show az P Q H ((_>>= _)>>= _) L;rw[ae,ae,ao hu];exact hq
theorem aR.min{t0:Array TypeId}(hx:ev T x=.int k a)(hy:ev T y=.int k b):aR P (.call {callee:=.builtin .min,args:=#[x,y],argTypes:=t0}) ty T L (.int k (if b<a then b else a)):=by
 intro dst pos af gd Q H hq;simp only[execOp,resolve,List.map_toArray,List.map_cons,List.map_nil,hx,hy,pure,Sem.bind,bind,invoke,builtin,Builtin.min_,List.foldlM_cons,List.foldlM_nil,Builtin.min2];exact hq
theorem aR.max{t0:Array TypeId}(hx:ev T x=.int k a)(hy:ev T y=.int k b):aR P (.call {callee:=.builtin .max,args:=#[x,y],argTypes:=t0}) ty T L (.int k (if b>a then b else a)):=by
 intro dst pos af gd Q H hq;simp only[execOp,resolve,List.map_toArray,List.map_cons,List.map_nil,hx,hy,pure,Sem.bind,bind,invoke,builtin,Builtin.max_,List.foldlM_cons,List.foldlM_nil,Builtin.max2];exact hq
end
end Go.Mz
