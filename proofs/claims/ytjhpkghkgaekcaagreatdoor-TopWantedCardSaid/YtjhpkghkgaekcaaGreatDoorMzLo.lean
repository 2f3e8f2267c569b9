/- Lemmas for the claim. -/
import Derived.Test.YtjhpkghkgaekcaaGreatDoorMzLm
set_option linter.defProp false
set_option maxRecDepth 100000
namespace Go.Mz
open Go.Conc
variable {P:aV}{α:Type}{n k m:Nat}{L R J:LH}{t e:bh}{w u:World}{h:α->List Value}{c:Int}{B:aX}{x:aW}{Y:Trace}{l:aH}{r:List α}{s:Sw}{q:aU}{Q:bC}{E:cK}{j:aR}{D:bt}{d:bA}{F:Env}{g:aT}{o:bD}{C:bH}{N:Nm}{K:bI}{z:SV}{I:cj}{H:ck}{X:aM Proofs.Tryz.prog}
section
open Go.Proofs
def Zb(t:Ro)(x:Int):jh t x=if JD t x none≠0 then(⟨0,0⟩,JD t x none) else(⟨rI ((eg t x.toNat).map λk=>t.be.getD k 0),wh ((eg t x.toNat).map λk=>t.be.getD k 0)⟩,0):=by
 unfold jh JD FO
 by_cases q:ic t≠0
 .rw[ax q,ax q,ax q,ax q]
 .rw[A q,A q];cases z:cV x 0 ((t.samples:Int) - 1) with
  | false=>
   let s:pn t x none=3:=by unfold pn;rw[show MX t x=false from z]
   rw[s]
   rfl
  | true=>
   let s:pn t x none=0:=by unfold pn;rw[show MX t x=true from z];rfl
   rw[s]
   by_cases r:eB t t.aQ=[]
   .rw[ax r];simp[r]
   .rw[A r];simp[r]
def afp{t:Ro}(h:JD t c none=0):cV c 0 ((t.samples:Int) - 1)=true:=by
 unfold JD FO at h
 by_cases q:ic t≠0
 .rw[ax q,ax q] at h;exact ar h q
 .rw[A q] at h;cases z:cV c 0 ((t.samples:Int) - 1) with
  | false=>
   let s:pn t c none=3:=by unfold pn;rw[show MX t c=false from z]
   rw[s] at h;cases h
  | true=>rfl
def aeq{Post:dp}{W0:World}(t:Ro)(p:BP)(x:Int)(L:LH)(u1:iG L t p):Sp (jV Tryz.prog Post W0) 305 [xL t p,x] L (λv L'=>v=.tuple #[HL (jh t x).1,(jh t x).2]/\Dm L L'):=by
 refine Sp.enter (n:=43) Tryz.func305 O O O O λC hX _ d r=>?_;refine .de [15] 99 O ?_;refine .cz 14 (.inr ⟨_,_,_,rfl⟩) O O ?_;intro q hq _;have e1:Le L (L.put q (.cells #[.int .i64 x] 3)):=Le.put hq _;have k1:=aj L q (.cells #[x] 3)
 change W _ _ _ _ _ _ (L.put q (.cells #[x] 3))
 generalize L.put q (.cells #[x] 3)=L1 at e1 k1 ⊢;have F:=acQ (Post:=Post) (W0:=W0) t p (some ⟨q,0,none⟩) 1 x none L1 (u1.le e1) (cY (e:=3) aY k1) (λ_ _ h=>by cases h);rw[show Option.map (·.2) (none:Option (Addr×Int))=none from rfl] at F;rw[<-hX] at F;refine .go 99 O ?_;refine .Pe O O O (Ef.call O (F)) ?_;rintro _ _ _ ⟨_,rfl,rfl,hc⟩;rw[Zb] at r;rcases hc with⟨he,rfl,hl⟩ | ⟨he,ok,CC,bb,mb,ks,rfl,FB,PF⟩
 .rw[ax he] at r;generalize JD t x none=e at he r;refine .go 99 O ?_;have h0:(e !=0)=true:=by simpa using he
  rw[h0];refine .split O O O (λc=>?_) (λc=>ar c V);refine .go 99 O ?_;refine W.ret r O O ?_;exact⟨rfl,(Dm.of_le e1).trans hl⟩
 .have u9:=PM (afp he);rw[A LD] at r;obtain⟨w,rfl⟩:∃w:Nat,x=(w:Int):=⟨x.toNat,M⟩;rw[kT] at r;rename_i g;refine .go 99 O ?_;refine .split O O O (λc=>ar c V) (λc=>?_);refine .de [22] 99 O ?_;refine .cz 8 (.inl ⟨_,rfl⟩) O O ?_;intro s h8 _;have j:Le g (g.put s (.cells (DG []).toArray 447)):=Le.put h8 _;have k8:=aj g s (.cells (DG []).toArray 447)
  change W _ _ _ _ _ _ (g.put s (.cells (DG []).toArray 447))
  generalize g.put s (.cells (DG []).toArray 447)=L3 at j k8 ⊢;refine .kI (E':=[(1,.v (.int .i64 w)),(2,.p 0 0),(4,.p 1 0),(6,.v (pt bb)),(8,.v (pt s))]) (B':=[some ⟨(jU t p).map .v,48⟩,some ⟨UA.z.cells.toList.map .v,88⟩]) (by exact⟨rfl,rfl,rfl,rfl,rfl,aE⟩) kO ?_ O (gV _ _ O);refine .go 99 O ?_;refine .Pe O O O (Ef.call O (Vq w L3 (FB.le j) ok M)) ?_;rintro _ _ _ ⟨v,rfl,rfl,H⟩;rename_i L4;obtain⟨la,lc,rfl,u2⟩:=H.slice;have Q:=H.1 _ _ k8;have y:bz (L4.bT s) la 1 bL (wM t w t.be.length):=(bE.Bb H aY Q V).2;have K:bK (L4.bT s) p.a2 t.be:=FB.at_.h2.le (rW (j.trans H.1) h8);have b:Dm L (L4.bT s):=((Dm.of_le e1).trans PF).trans (Dm.of_le (rW (j.trans H.1) h8));have R:wM t w t.be.length=(eg t w).map λ(k:Nat)=>(k:Int):=rfl;have f:(wM t w t.be.length).length=(eg t w).length:=by rw[R,eT]
  have u3:=Nb t w t.be.length;have q0:=ok.d1;have q1:=ok.t3;rw[f] at u2 u3;refine .go 99 O ?_;refine .loop (λm' E B L'=>∃i:Nat,m'=(eg t w).length - i/\i<=(eg t w).length/\Le (L4.bT s) L'/\L' s=some (.cells (DG (((eg t w).take i).map λk=>t.be.getD k 0)).toArray 447 (0,0),true)/\
    E=[(2,.p 0 0),(4,.p 1 0),(8,.v (pt s)),(24,.v (.slice la (eg t w).length lc)),(25,.v ((eg t w).length)),(26,.v (.int .i64 i))]/\B=[some ⟨(jU t p).map .v,48⟩,some ⟨UA.z.cells.toList.map .v,88⟩])
   ⟨0,rfl,M,gC _ _,Q,rfl,rfl⟩ (by rw[f];exact⟨rfl,rfl,rfl,rfl,rfl,rfl,aE⟩) kO ?_ O (gV _ _ O)
  rintro _ _ _ S ⟨i,rfl,G,J,I,rfl,rfl⟩ again;refine .go 99 O ?_;refine .split O O O (λc1=>?_) (λc1=>?_)
  .have G:i<(eg t w).length:=by simpa using c1
   have hx:(eg t w)[i]?=some (eg t w)[i]:=bX G;have o:(eg t w)[i]<t.be.length:=by
    have:=fY G;unfold eg at this;exact fo.1 (nH.1 this).1
   have T:(eg t w).take (i+1)=(eg t w).take i++[(eg t w)[i]]:=ja G;generalize(eg t w)[i]=k at hx o T;have l:(wM t w t.be.length)[i]?=some (k:Int):=by rw[R,im,hx];rfl
   have u4:t.be[k]?=some (t.be.getD k 0):=by rw[dL,bX o];rfl
   obtain⟨a,rfl⟩:=y.addr (show i<(wM t w t.be.length).length by omega);obtain⟨da,u5⟩:=K.addr o;refine .go 99 O ?_;refine .vf O O O O (Vf.NH O O O O O O O (G)) ?_;refine .go 99 O ?_;refine .vf O O O O (Vf.load O O O ((y.le J).int l)) ?_;refine .go 99 O ?_;have D:=K;rw[u5] at D ⊢;refine .vf O O O O (Vf.NH O O O O O O O (o)) ?_;refine .go 99 O ?_;refine .vf O O O O (Vf.load O O O ((D.le J).int u4)) ?_;refine .go 99 O ?_;refine .cz 35 (.inr ⟨_,_,_,rfl⟩) O O ?_;intro u hu _;have u6:u≠s:=λe=>by subst e;rw[I] at hu;cases hu
   have eu:Le S (S.put u (.cells #[.int .i64 (t.be.getD k 0)] 3)):=Le.put hu _;have ku:bK ((S.put u (.cells #[.int .i64 (t.be.getD k 0)] 3)).bT s) (some ⟨u,0,none⟩) [t.be.getD k 0]:=cY (e:=3) aY (by rw[bW u6];exact aj _ _ _);have X:=eu _ _ I;have m:=J.trans eu
   change W _ _ _ _ _ _ (S.put u (.cells #[.int .i64 (t.be.getD k 0)] 3))
   generalize S.put u (.cells #[.int .i64 (t.be.getD k 0)] 3)=L6 at ku X m ⊢;refine .go 99 O ?_;refine .Pe O O O (Ef.call O (af7 s (((eg t w).take i).map λk=>t.be.getD k 0) (t.be.getD k 0) ⟨u,0,none⟩ 1 L6 X ku)) ?_;rintro _ _ _ ⟨_,rfl,rfl,rfl,rfl⟩;refine .go 99 O ?_;have u7:(((eg t w).take (i+1)).map λk=>t.be.getD k 0)=(((eg t w).take i).map λk=>t.be.getD k 0)++[t.be.getD k 0]:=by rw[T,iq];rfl
   exact .again (again _ _ _ _ M ⟨i+1,rfl,G,aG m (tU _ _) _,by rw[u7];exact aj _ _ _,rfl,rfl⟩) (by exact⟨rfl,rfl,rfl,rfl,rfl,aJ some (cr M),aE⟩) kO O (gV _ _ O)
  .have u8:i=(eg t w).length:=by simp at c1;omega
   subst u8;rw[lK] at I;refine .go 99 O ?_;refine .vf O O O O (Vf.load O O O (aF I O)) ?_;refine .go 99 O ?_;refine .vf O O O O (Vf.load O O O (aF I O)) ?_;refine .go 99 O ?_;refine W.ret r O O ?_;exact⟨rfl,b.trans (Dm.of_le J)⟩
def Ir.le{e:mS}{p:Kp}{w:List (Nat×List Int)}{q:oS}(h:Ir L n e p w q d k)(u:Le L R):Ir R n e p w q d k:=⟨u _ _ h.o,h.k.le u,h.s.le u,h.a.le u,h.x,h.c⟩
def pZ(e:Int):Value:=if e=0 then .nilIface else .iface 214 (.agg #[e])
def A5(e:Int)(L:LH):Sp X 302 [e] L (λv u=>v=pZ e/\L=u):=by
 refine Sp.e Tryz.func302 O λC j d r=>(.g O ?_)
 by_cases i:e=0
 .subst i;refine .T O (.g O (.r r O ⟨rfl,rfl⟩))
 .refine .F O ?_ (by simpa using i);refine .g O (.r r O ⟨by unfold pZ;rw[A i];rfl,rfl⟩)
def FD(n:Nat):qk (n:Int)=cu n:=by
 unfold qk;rw[A M,kT]
def SG(n:Nat):tE (n:Int)=agC++32::cu n:=by
 unfold tE;rw[FD]
def Rv(n:Nat)(L:LH)(y:n<100):Sp X 110 [.agg #[n]] L (λv u=>v=str (tE n)/\L=u):=by
 let o:=pz ⟨n,y⟩;simp only at o;refine Sp.e Tryz.func110 O λC j d r=>(.y O (Di n _ y) (.u O (Vf.cat (l:=[101,114,114,111,114,32]) O O (by show 6+(cu n).length<=_;omega)) (.g O ?_)));exact .r r O ⟨by rw[SG];rfl,rfl⟩
def MC(b:Bl)(v:Int):(gv b v).1.length<=6/\∀n∈(gv b v).1,n<=5:=by
 unfold gv
 by_cases h:fP b≠0
 .rw[ax h];exact⟨fj _,λn y=>by simp at y⟩
 .rw[A h];let s:=Fq ri;let k:=s.h5;let o:(nh b v.toNat).length<=6:=by
   refine lI (BB ..) ?_;rw[vt];omega
  let u:∀n∈nh b v.toNat,n<=5:=λn y=>by
   have:=fo.1 (nH.1 y).1;omega
  split
  .exact⟨fj _,λn y=>by simp at y⟩
  .split
   .exact⟨fj _,λn y=>by simp at y⟩
   .split
    .exact⟨fj _,λn y=>by simp at y⟩
    .exact⟨o,u⟩
def xP(l:aU):ly (cm l)=ql (l.map cu):=by
 unfold ly cm;rw[yW];exact aJ ql (yX λn _=>FD n)
def YX(c:E3 X)(I L:LH)(a:Nat)(f:Fi)(p:Fp)(v:Int)(h:lH I L a f p):Sp X 300 [.agg #[v],nL a] L (Il I L a f (ly (cm (gv f.b v).1)) (pZ (gv f.b v).2)):=by
 let g:=(c.af5 f.b p.b v I h.b).frame h.le;refine Sp.e Tryz.func300 O λC j d r=>(.t O (.run' [0,1,2,3,5,6] O (.u 4 O (Vf.q O (jr (vs:=wJ f.b p.b) h.o O O)) ?_)));rw[<-j] at g;refine .c 7 rfl rfl g (by intro _ _ ⟨J,⟨_,_,_,x,_⟩,u⟩;exact u.all h.le x) ?_;rintro _ _ ⟨J,⟨w,z,rfl,x,k,y⟩,u⟩;refine .run' [8,9,10,11,12] O (.fin O (.g O ?_));let⟨t,q⟩:=MC f.b v;rw[xP] at r;generalize(gv f.b v).1=l at k y t q r ⊢;let i:(cm l).length=l.length:=eT ..;rw[i];refine .c O (Ov w z l _ (k.le u.le) M (λn s=>by have:=q n s;omega)) ?_;rintro _ _ ⟨rfl,m⟩;refine .y O (A5 _ _) (.D r O ?_);exact⟨rfl,J,p,.of_le x,(h.step x u).up m,(jG.qq a u).up m⟩
structure Vg(X:aM Tryz.prog):Prop where
 add:∀(ro:Ro) (p:BP) (s:Sg) (L:LH),iG L ro p->Sp X 224 [xL ro p,.agg (jM s).toArray] L (RoQ (oA ro s).1 (oA ro s).2 L)
structure EZ(X:aM Tryz.prog):Prop where
 aiG:∀(ro:Ro) (p:BP) (x:Int) (L:LH),iG L ro p->Sp X 305 [xL ro p,.int .i64 x] L (λv L'=>v=.tuple #[HL (jh ro x).1,.int .i64 (jh ro x).2]/\Dm L L')
structure EY(X:aM Tryz.prog):Prop where
 abQ:∀(s:Sw) (p:Wp) (L:LH),eE L s p->Sm s->Sp X 31 [gZ s p] L (λv L'=>∃ad cap,v=.tuple #[.slice ad (dP s).1.length cap,.int .i64 (dP s).2.1,.int .i64 (dP s).2.2]/\bK L' ad (cm (dP s).1)/\Dm L L')
def XQ(q:EZ X)(I L:LH)(a:Nat)(f:Fi)(p:Fp)(x:Int)(h:lH I L a f p)(d:∀n:Int,n=(jh f.ro x).1.lo\/n=(jh f.ro x).1.hi->0<=n/\n<100):Sp X 304 [.agg #[x],nL a] L (Il I L a f (cu (jh f.ro x).1.lo.toNat++45::cu (jh f.ro x).1.hi.toNat) (pZ (jh f.ro x).2)):=by
 have u:=(q.aiG f.ro p.r x I h.r).frame h.le;generalize jh f.ro x=D at d u ⊢;obtain⟨⟨s,i⟩,e⟩:=D;obtain⟨t,j⟩:=d s (.inl rfl);obtain⟨g,c⟩:=d i (.inr rfl);obtain⟨z,rfl⟩:∃n:Nat,s=(n:Int):=⟨s.toNat,M⟩;obtain⟨y,rfl⟩:∃n:Nat,i=(n:Int):=⟨i.toNat,M⟩;let m:=pz ⟨z,M⟩;let w:=pz ⟨y,M⟩;simp only at m w;refine Sp.e (n:=29) Tryz.func304 O λC b k r=>?_;refine .g rfl (.f (.run' [0,1,2,3,5,6,11] rfl (.a 4 rfl (Ef.val rfl (Vf.q rfl (jr (vs:=jU f.ro p.r) h.o rfl rfl))) dV ?_)));rintro _ _ _ ⟨rfl,rfl,rfl⟩;rw[<-b] at u;refine .w 7 O O u ?_;rintro _ _ ⟨J,⟨rfl,hd⟩,v⟩;refine .run' [8,9,10] rfl (.a 12 rfl (Ef.lG rfl) dV ?_);rintro _ _ _ ⟨rfl,rfl,rfl⟩;refine .run' [13] O (.fin O (.g O ?_));let K:=h.dm hd v;refine .z (.run' [0,1,4,5,8] rfl (.c 2 rfl rfl (Di z _ M) jw ?_));rintro _ _ ⟨rfl,rfl⟩;refine .u 3 rfl (Vf.cat (r:=[45]) rfl rfl (by show(cu z).length+1<=_;omega)) (.c 6 rfl rfl (Di y _ M) jw ?_);rintro _ _ ⟨rfl,rfl⟩;refine .u 7 rfl (Vf.cat (l:=cu z++[45]) rfl rfl YM) (.c 9 rfl rfl (A5 _ _) jw ?_);rintro _ _ ⟨rfl,rfl⟩;refine .run' [10,11] O (.fin O (.D r O ?_));refine⟨?_,J,p,hd,K,.qq a v⟩;simp
 rfl
def adK(e:Vg X)(I L:LH)(z:Nat)(f:Fi)(p:Fp)(x:Sg)(l:bA)(m:Nat)(h:lH I L z f p)(w:bK (jB I L) l [x.gU,x.iR,x.year,x.found]):Sp X 176 [pt z,.slice l 4 m] L (OT I L z (vH f x).1 (vH f x).2):=by
 obtain⟨a,rfl⟩:=w.addr (i:=0) U;have j:=(e.add f.ro p.r x I h.r).frame h.le;have u:=w;have K:=(om h.n).trans h.o;refine Sp.e Tryz.func176 O λC D d r=>(.g O ?_);refine W.drawn aN (jB I L) (uM I L) (.run' [0,1,2,4,7,10,13] O (.u 5 O (Vf.b O O ((show 0<4 by decide))) (.u 8 O (Vf.b O O ((show 1<4 by decide))) (.u 11 O (Vf.b O O ((show 2<4 by decide))) (.u 14 O (Vf.b O O ((show 3<4 by decide))) (.u 3 O (Vf.q O (jr (vs:=jU f.ro p.r) K O O)) (.u 6 O (Vf.l O (u.int (i:=0) O)) ?_)))))));refine .u 9 O (Vf.l O (u.int O)) (.u 12 O (Vf.l O (u.int (i:=2) O)) (.u 15 O (Vf.l O (u.int (i:=3) O)) (.run' [16,21] O ?_)));rw[<-D] at j;refine .c 17 rfl rfl j (by rintro _ _ ⟨J,⟨k,rfl,hd,t⟩,v⟩;exact Ke v) ?_;rintro _ _ ⟨J,⟨k,rfl,hd,t⟩,v⟩;refine .run' [18,19,20] O ?_;have g:=Ke v;refine .a 22 rfl (Ef.lG rfl) ((by rintro _ _ _ ⟨rfl,rfl,rfl⟩;exact⟨g,rfl,.inl rfl⟩)) ?_;rintro _ _ _ ⟨rfl,rfl,rfl⟩;refine .run' [23] O (.fin O (.g O ?_));have q:=h.dm hd v
 by_cases c:(oA f.ro x).2=0
 .have y:vH f x=({f with ro:=(oA f.ro x).1},0):=ax c;rw[y] at r;rw[c];refine .T O (.g O ?_);refine .fL O O (Ef.BX O ⟨_,rfl,rfl⟩ O (bM _ _ _) q.o O (show 5+5<=14 by decide) (bQ O)) ?_;rintro _ _ _ ⟨rfl,rfl,rfl⟩;refine .D r O ?_;exact⟨rfl,J,{p with r:=k},hd,⟨aG q.le q.n _,q.n,aj _ _ _,q.b,t,q.s⟩,(jG.qq z v).put _⟩
 .have y:vH f x=(f,(oA f.ro x).2):=A c;rw[y] at r;refine .F O ?_ lA;refine .D r O ?_;exact⟨rfl,J,p,hd,q,.qq z v⟩
def aei(m:Int)(d:Value)(a:∃c,d=.agg c)(L:LH):Sp X 313 [.agg #[m],d] L (λv u=>v=.tuple #[str okB,pZ 0]/\L=u):=by
 obtain⟨c,rfl⟩:=a;refine Sp.e Tryz.func313 O λC j q r=>(.g O ?_);exact .r r O ⟨rfl,rfl⟩
def UF(a:Nat)(m n x:Nat)(L:LH)(h:n<=m):Sp X 108 [pt a,.agg #[m],n,.int .u8 x] L (λv u=>v=.tuple #[.int .u8 x,pZ 3]/\L=u):=by
 refine Sp.e Tryz.func108 O λC j d r=>(.g O ?_);let e:decide ((n:Int)<=m)=true:=ri
 rw[e];refine .T O (.g O (.r r O ⟨rfl,rfl⟩))
def Xl(y:Nat)(k:mS)(p:Kp)(w:List (Nat×List Int))(i:oS)(a:Addr)(d:Nat)(m n q:Nat)(L:LH)(b:Ir L y k p w i a d)(F:m<n)(I:m<i)(R:i.length<=6)(J:q<256)(g:i[m].v<3):Sp X 108 [pt y,.agg #[m],n,.int .u8 q] L (λv G=>v=.tuple #[.int .u8 (ru i[m].x m q).1,pZ (ru i[m].x m q).2]/\L=G):=by
 have K:=bX I;have H:=b.s;have h:ru i[m].x m q=if q.testBit m then(q,4) else(q||| 2 ^ m,0):=by
  unfold ru;rw[A (by show¬3<=i[m].v;omega)]
 generalize i[m]=u at K g h ⊢;obtain⟨v,f,l,t⟩:=u;simp only at g;have z:L.cell? (a.add m)=jW v l t f:=by
  have:=H.get K (j:=0) (v:=jW v l t f) rfl
  simpa using this
 have c:jW v l t f=.iface 252 (.agg #[v,.slice l f t]):=by
  unfold jW;rw[A M,A M,A M,A M]
 rw[c] at z;refine Sp.e (n:=42) Tryz.func108 O λC S Q r=>?_;refine .g O ?_;have e:decide ((n:Int)<=m)=false:=by simpa using F
 rw[e];refine .F O (.t O (.run' [0,1,2,4,5] O (.u 3 O (Vf.l O ((show _=some (Value.slice (some a) i.length d) from aF b.o O))) (.u 6 O (Vf.b O O (I)) (.u 7 O (Vf.l O (z)) ?_)))));refine .fin O ?_;refine .N O (.y O (PD q m _ J M) (.g O ?_));cases D:q.testBit m with
 | true=>
  rw[D,ax rfl] at h;rw[h] at r;refine .T O (.g O ?_);exact .r r O ⟨rfl,rfl⟩
 | false=>
  rw[D,A Bool.false_ne_true] at h;rw[h] at r;refine .F O (.y O (UI q m _ J M) (.g O ?_));exact .r r O ⟨rfl,rfl⟩
def UG(K:Nat)(k:mS)(p:Kp)(w:List (Nat×List Int))(q:oS)(a:Addr)(c:Nat)(m n t:Nat)(L:LH)(b:Ir L K k p w q a c)(I:m<n)(y:m<q)(g:q[m].v=3\/q[m].v=4\/q[m].v=5\/q[m].v=6):Sp X 108 [pt K,.agg #[m],n,.int .u8 t] L (λv F=>v=.tuple #[.int .u8 (ru q[m].x m t).1,pZ (ru q[m].x m t).2]/\L=F):=by
 have D:=bX y;let G:=b.s;have H:ru q[m].x m t=(t,8):=by
  unfold ru;rw[ax (by show 3<=q[m].v;omega)]
 rw[H];generalize q[m]=u at D g;obtain⟨v,f,l,i⟩:=u;simp only at g;have z:L.cell? (a.add m)=jW v l i f:=by
  have:=G.get D (j:=0) (v:=jW v l i f) rfl
  simpa using this
 rcases g with rfl | rfl | rfl | rfl
 .have h:jW 3 l i f=.iface 209 (.agg #[f.getD 0 0]):=rfl;rw[h] at z;refine Sp.e (n:=42) Tryz.func108 O λC J d r=>?_;refine .g O ?_;have e:decide ((n:Int)<=m)=false:=by simpa using I
  rw[e];refine .F O (.t O (.run' [0,1,2,4,5] O (.u 3 O (Vf.l O ((show _=some (Value.slice (some a) q.length c) from aF b.o O))) (.u 6 O (Vf.b O O (y)) (.u 7 O (Vf.l O (z)) ?_)))));refine .fin O ?_;refine .K O (.g O ?_);exact .r r O ⟨rfl,rfl⟩
 .have h:jW 4 l i f=.iface 153 (.agg #[f.getD 0 0]):=rfl;rw[h] at z;refine Sp.e (n:=42) Tryz.func108 O λC J d r=>?_;refine .g O ?_;have e:decide ((n:Int)<=m)=false:=by simpa using I
  rw[e];refine .F O (.t O (.run' [0,1,2,4,5] O (.u 3 O (Vf.l O ((show _=some (Value.slice (some a) q.length c) from aF b.o O))) (.u 6 O (Vf.b O O (y)) (.u 7 O (Vf.l O (z)) ?_)))));refine .fin O ?_;refine .K O (.g O ?_);exact .r r O ⟨rfl,rfl⟩
 .have h:jW 5 l i f=.iface 155 (.agg #[f.getD 0 0]):=rfl;rw[h] at z;refine Sp.e (n:=42) Tryz.func108 O λC J d r=>?_;refine .g O ?_;have e:decide ((n:Int)<=m)=false:=by simpa using I
  rw[e];refine .F O (.t O (.run' [0,1,2,4,5] O (.u 3 O (Vf.l O ((show _=some (Value.slice (some a) q.length c) from aF b.o O))) (.u 6 O (Vf.b O O (y)) (.u 7 O (Vf.l O (z)) ?_)))));refine .fin O ?_;refine .K O (.g O ?_);exact .r r O ⟨rfl,rfl⟩
 .have h:jW 6 l i f=.iface 157 (.agg #[]):=rfl;rw[h] at z;refine Sp.e (n:=42) Tryz.func108 O λC J d r=>?_;refine .g O ?_;have e:decide ((n:Int)<=m)=false:=by simpa using I
  rw[e];refine .F O (.t O (.run' [0,1,2,4,5] O (.u 3 O (Vf.l O ((show _=some (Value.slice (some a) q.length c) from aF b.o O))) (.u 6 O (Vf.b O O (y)) (.u 7 O (Vf.l O (z)) ?_)))));refine .fin O ?_;refine .K O (.g O ?_);exact .r r O ⟨rfl,rfl⟩
def SwQ(x:Sw×Int)(L:LH)(v:Value)(L':LH):Prop:=∃p,v=.tuple #[gZ x.1 p,x.2]/\eE L' x.1 p/\Le L L'
structure OP(X:aM Tryz.prog):Prop where
 add:∀(s:Sw) (p:Wp) (x:Want) (L:LH),eE L s p->Sm s->Sp X 225 [gZ s p,.agg (gj x).toArray] L (SwQ (nR s x) L)
def agc(K:OP X)(I L:LH)(t:Nat)(f:Fi)(p:Fp)(x:Want)(l:bA)(m:Nat)(h:lH I L t f p)(y:Sm f.s)(e:bK L l [x.sort,x.kind,x.cO,x.pay]):Sp X 177 [pt t,.slice l 4 m] L (OT I L t (sZ f x).1 (sZ f x).2):=by
 obtain⟨a,rfl⟩:=e.addr (i:=0) U;have j:=(K.add f.s p.s x I h.s y).frame h.le;have z:=e;refine Sp.e Tryz.func177 O λC D d r=>(.t O (.run' [0,1,2,4,7,10,13] O (.u 5 O (Vf.b O O ((show 0<4 by decide))) (.u 8 O (Vf.b O O ((show 1<4 by decide))) (.u 11 O (Vf.b O O ((show 2<4 by decide))) (.u 14 O (Vf.b O O ((show 3<4 by decide))) ?_))))));refine .u 3 O (Vf.q O (jr h.o O O)) (.u 6 O (Vf.l O (z.int O)) (.u 9 O (Vf.l O (z.int O)) (.u 12 O (Vf.l O (z.int (i:=2) O)) (.u 15 O (Vf.l O (z.int (i:=3) O)) (.run' [16,21] O ?_)))));rw[<-D] at j;refine .c 17 rfl rfl j (by rintro _ _ ⟨J,⟨_,_,_,u⟩,v⟩;exact v.all h.le u) ?_;rintro _ _ ⟨J,⟨F,rfl,g,u⟩,v⟩;refine .run' [18,19,20] O ?_;have w:=v.all h.le u;refine .a 22 rfl (Ef.lG rfl) ((by rintro _ _ _ ⟨rfl,rfl,rfl⟩;exact⟨w,rfl,.inl rfl⟩)) ?_;rintro _ _ _ ⟨rfl,rfl,rfl⟩;refine .run' [23] O (.fin O (.g O ?_));have q:=h.step u v
 by_cases c:(nR f.s x).2=0
 .have k:sZ f x=({f with s:=(nR f.s x).1},0):=ax c;rw[k] at r;rw[c];refine .T O (.g O ?_);refine .fL O O (Ef.BX O ⟨_,rfl,rfl⟩ O (bM _ _ _) q.o O (show 10+4<=14 by decide) (bQ O)) ?_;rintro _ _ _ ⟨rfl,rfl,rfl⟩;refine .D r O ?_;exact⟨rfl,J,{p with s:=F},.of_le u,⟨aG q.le q.n _,q.n,aj _ _ _,q.b,q.r,g⟩,(jG.qq t v).put _⟩
 .have k:sZ f x=(f,(nR f.s x).2):=A c;rw[k] at r;refine .F O ?_ lA;refine .D r O ?_;exact⟨rfl,J,p,.of_le u,q,.qq t v⟩
structure ym(X:aM Tryz.prog)(v:Nat):Prop where
 lt:v<7
 p:v=0->IB X
 a:v=1->Vg X
 w:v=2->OP X
 t:v=4->E3 X
 g:v=5->EZ X
 b:v=6->EY X
def SC(I L:LH)(q:Nat)(f:Fi)(p:Fp)(v:Nat)(a:aH)(l:bA)(m:Nat)(h:lH I L q f p)(o:bK (jB I L) l a)(g:v<3)(y:a=jQ v)(t:ym X v)(b:Sm f.s):Sp X 134 [nL q,.agg #[v,.slice l a m]] L (OT I L q (qI f (v,a)).1 (qI f (v,a)).2):=by
 let u:=o.le (uM I L);rcases(by omega:v=0\/v=1\/v=2) with rfl | rfl | rfl
 .rw[show qI f (0,a)=vE f (FT a) from rfl];let y:=y;rw[y];rw[ajb y] at u;generalize FT a=x at u ⊢;let z:=adt (X:=X) (t.p rfl) I L q f p x l m h u;unfold nL;refine Sp.e (n:=30) Tryz.func134 O λC j d r=>?_;rw[<-j] at z;refine .N O (.g O ?_);refine W.DK (v1:=[pt q]) (v2:=[]) O O O O O O z ?_ (λ_ _ h=>h.elim);rintro _ c ⟨rfl,i⟩;refine .D r O ?_;exact⟨rfl,i⟩
 .rw[show qI f (1,a)=vH f (KO a) from rfl];let y:a.length=4:=y;rw[y];rw[sg4 y] at o;generalize KO a=x at o ⊢;let z:=adK (X:=X) (t.a rfl) I L q f p x l m h o;unfold nL;refine Sp.e (n:=30) Tryz.func134 O λC j d r=>?_;rw[<-j] at z;refine .K O (.N O (.g O ?_));refine W.DK (v1:=[pt q]) (v2:=[]) O O O O O O z ?_ (λ_ _ h=>h.elim);rintro _ c ⟨rfl,i⟩;refine .D r O ?_;exact⟨rfl,i⟩
 .rw[show qI f (2,a)=sZ f (Mf a) from rfl];let y:a.length=4:=y;rw[y];rw[wt4 y] at u;generalize Mf a=x at u ⊢;let z:=agc (X:=X) (t.w rfl) I L q f p x l m h b u;unfold nL;refine Sp.e (n:=30) Tryz.func134 O λC j d r=>?_;rw[<-j] at z;refine .K O (.K O (.g O ?_));refine W.DK (v1:=[pt q]) (v2:=[]) O O O O O O z ?_ (λ_ _ h=>h.elim);rintro _ c ⟨rfl,i⟩;refine .D r O ?_;exact⟨rfl,i⟩
def acj(I L:LH)(u:Nat)(f:Fi)(p:Fp)(v:Nat)(a:aH)(l:bA)(m:Nat)(h:lH I L u f p)(z:bK (jB I L) l a)(g:v<3)(y:a=jQ v)(i:ym X v)(o:Sm f.s):Sp X 314 [.agg #[v,.slice l a m],nL u] L (Il I L u (qI f (v,a)).1 okB (pZ (qI f (v,a)).2)):=by
 let q:=SC I L u f p v a l m h z g y i o;refine Sp.e Tryz.func314 O λC j d r=>?_;rw[<-j] at q;refine .o O q ?_;rintro _ _ ⟨rfl,t⟩;refine .p O (A5 _ _) (.D r O ⟨rfl,t⟩)
def JC{q:iW}(h:∀w∈q,w.length<=10):(ql q)<=11 *q.length+10:=by
 cases q with
 | nil=>exact fj _
 | cons x q=>
  let v:=uV q λw u=>h w (fG _ u);let z:=h x (fC ..);rw[zM,eX,pR];omega
def XH(x:EY X)(I L:LH)(a:Nat)(f:Fi)(p:Fp)(h:lH I L a f p)(K:Sm f.s)(d:∃n:Nat,n<100/\(dP f.s).2.1=n)(c:(dP f.s).1.length<=100/\∀n∈(dP f.s).1,n<100):Sp X 311 [.agg #[],nL a] L (Il I L a f (ly (cm (dP f.s).1)++[58,32]++qk (dP f.s).2.1) (pZ (dP f.s).2.2)):=by
 have t:=(x.abQ f.s p.s I h.s K).frame h.le;generalize dP f.s=B at t d c ⊢;obtain⟨l,b,e⟩:=B;obtain⟨n,y,rfl⟩:=d;obtain⟨j,z⟩:=c;dsimp only at t j z ⊢;let D:=pz ⟨n,y⟩;rw[xP,FD];refine Sp.e (n:=27) Tryz.func311 O λC F G r=>?_;refine .G O (Vf.q O (jr (vs:=cX f.s p.s) h.o O O)) (.g O ?_);rw[<-F] at t;refine .c O t ?_;rintro _ _ ⟨J,⟨H,g,rfl,k,hd⟩,v⟩;rename_i T;let Q:=h.dm hd v;let R:(cm l).length=l.length:=eT ..;refine .o O (Ov H g l _ (k.le v.le) j z) ?_;rintro _ _ ⟨rfl,i⟩;let W:(ql (l.map cu)).length<=1110:=by
  refine lI (JC (q:=l.map cu) λw u=>?_) (by rw[eT];omega);obtain⟨m,S,rfl⟩:=fK.1 u;have:=pz ⟨m,z m S⟩;simp only at this;omega
 simp only at D;refine .u O (Vf.cat (l:=ql (l.map cu)) (r:=[58,32]) O O (by show(ql (l.map cu)).length+2<=_;omega)) (.y O (Di n _ y) (.u O (Vf.cat (l:=ql (l.map cu)++[58,32]) O O YM) (.y O (A5 _ _) (.g O ?_))));refine .r r O ?_;exact⟨rfl,J,p,hd,Q.up i,(jG.qq a v).up i⟩
def Dm.bk(h:Dm L R){k:mS}{p:Kp}(f:nT L k p):nT R k p:=⟨h.bl f.b,h.ro f.r,h.sw f.s,h.sl f.l,h.sl f.a⟩
structure Ck(I L:LH)(bc:Nat)(k:mS)(p:Kp)(xs:List Ln)(us:List AP)(ua:Option Addr)(uc:Nat):Prop where
 le:Le I L
 bk:nT I k p
 o:jB I L bc=some (.cells (HE k p++[Value.slice ua us.length uc]).toArray 195 (0,0),true)
 s:bz (jB I L) ua 1 BG us
 a:xg (jB I L) us
 x:us.map AP.x=xs
 c:us.length<=uc
def Ck.go{v:LH}{e:mS}{p:Kp}{w:dg}{q:oS}(h:Ck R L n e p w q d m)(z:Dm R J)(j:jG R L J v k)(u:L k=none)(i:Le J v):Ck J v n e p w q d m:=
 ⟨i,z.bk h.bk,j.out u _ _ h.o,h.s.le (j.out u),h.a.le (j.out u),h.x,h.c⟩
def Ck.at_{e:mS}{p:Kp}{w:dg}{u:oS}(h:Ck R L n e p w u d k):Ir L n e p w u d k:=
 ⟨uM R L _ _ h.o,h.bk.le h.le,h.s.le (uM R L),h.a.le (uM R L),h.x,h.c⟩
def Tv(k:mS)(p:Kp)(T:bA)(lc:Nat)(ls:iW)(w:dg)(L:LH)(f:nT L k p)(o:bz L T 1 dv ls)(h6:ls.length<=6)(hn:∀l∈ls,l.length<=100)(hp:ls.map kV=w.map some):
  Sp X 94 [Fo k p,.slice T ls lc] L (λv L'=>∃bc us D uc,v=pt bc/\Ck L L' bc {k with ls:=ls} {p with la:=T,lc:=lc} w us D uc):=by
 refine Sp.e (n:=42) Tryz.func94 O λC hX q3 r=>?_;refine .g O ?_;have q4:ls=w.length:=by have:=aJ List.length hp;simpa using this
 refine .l (λm' E B L'=>∃(i:Nat) (us:oS) (D:bA) (uc:Nat) (I:LH),m'=ls - i/\i<=ls/\us.map AP.x=w.take i/\Le L I/\xg (jB L I) us/\bE I 1 159 BG L' (.slice D i uc) us/\E=[(5,.p 1 0),(18,.v (.slice T ls lc)),(19,.v (.int .i64 ls.length)),(20,.v (.int .i64 i))]/\B=[some ⟨(HE k p).map .v,56⟩,some ⟨(HE {k with ls:=ls} {p with la:=T,lc:=lc}++[Value.slice D i uc]).map .v,195⟩]) ⟨0,[],none,0,L,rfl,fj _,rfl,Le.refl _,λu hu=>by simp at hu,bE.nil (Le.refl _),rfl,rfl⟩ ?_
 rintro _ _ _ L1 ⟨i,us,D,uc,I,rfl,hi,hx,j,u1,z,rfl,rfl⟩ again;have e:us.length=i:=by
  have:=aJ List.length hx;rw[eT,mi] at this;omega
 refine .I O (λc1=>W.go 99 O ?_) (λc1=>W.go 99 O ?_)
 .have hi:i<ls.length:=by simpa using c1
  obtain⟨a,rfl⟩:=o.addr hi;have F:=bX hi;have u2:i<w.length:=M
  have h:=bX u2;have K:kV ls[i]=some w[i]:=by
   have:=aJ (λl=>l[i]?) hp;simp only[im,F,h,mg] at this;exact bR this
  have g:=hn _ (fY hi);have u3:w.take (i+1)=w.take i++[w[i]]:=ja u2;generalize ls[i]=l at F K g;generalize w[i]=x at h K u3;obtain⟨v,G⟩:=x;obtain⟨_,_,u8,H,u9⟩:=He K;have H:G.length=jQ v:=by rw[Ct u9];exact H
  refine .u O (Vf.b O O (hi)) (.G O (Vf.l O (ox (o.le (j.trans z.1)) F)) (.o O (Iy l v G _ M K) ?_));rintro _ _ ⟨ad,m,rfl,Q⟩;rename_i L2;have q0:=(Q.at aY).2;refine .g O (.f (.run' [0,1,2,3,4,5] O (.w 6 O O (aah v ad m G _ u8 H q0) ?_)));rintro u _ ⟨hu,rfl⟩;obtain⟨t1,w1,rfl⟩:=abB hu;refine .run' [7] O ?_;obtain⟨J,u4,_,q1,hJ⟩:=z.base Q.1;have u5:xg (jB L J) (us++[(⟨v,G,ad,m⟩:AP)]):=λu hu=>by
   rcases fg.1 hu with hu | hu
   .exact(u1 u hu).le (CQ u4)
   .rw[dJ.1 hu];exact Q.under aY λb d=>(om (bN (j.trans z.1) d)).trans (hJ b d)
  refine .a 8 rfl (Ef.grow rfl rfl rfl rfl rfl rfl rfl rfl rfl tW DU q1 (ls:=[(⟨v,G,ad,m⟩:AP)]) (.own rfl rfl rfl (aJ (λu=>some [u]) hu)) QP) (YH) ?_;rintro _ _ _ ⟨v1,rfl,rfl,R,_⟩;obtain⟨c,t,rfl,_⟩:=R.slice;rw[show(us++[(⟨v,G,ad,m⟩:AP)]).length=i+1 by rw[eX,mW,e]] at R ⊢;refine .run' [9,10] rfl (.a 11 rfl (Ef.lG rfl) nj ?_);rintro _ _ _ ⟨rfl,rfl,rfl⟩;refine .fin O ?_;refine .g O ?_;exact .a (again _ _ _ _ M ⟨i+1,us++[(⟨v,G,ad,m⟩:AP)],c,t,J,rfl,hi,by rw[iq,hx,u3];rfl,j.trans u4,u5,R,rfl,rfl⟩)
 .have q5:i=ls.length:=by simp at c1;omega
  refine .cz 4 (.inl ⟨_,rfl⟩) O O ?_;intro bc u6 _;refine .r r O ?_;have u7:=j.trans z.1;have S:=Le.put u6 (.cells (HE {k with ls:=ls} {p with la:=T,lc:=lc}++[Value.slice D i uc]).toArray 195);have y:us.length<=uc:=by
   rw[<-e] at z;obtain⟨_,_,g1,q⟩:=z.slice;cases g1;exact q
  have q2:=bN u7 u6;refine⟨bc,us,D,uc,rfl,u7.trans S,?_,?_,?_,?_,?_,y⟩
  .exact⟨f.b,f.r,f.s,o,f.a⟩
  .rw[e,om q2];exact aj _ _ _
  .rw[<-e] at z;exact(z.under (J:=jB L L1) tW λb d=>om (bN j d)).le (CQ S)
  .exact u1.le (CQ (z.1.trans S))
  .rw[hx,qG M]
def Y2{x:Want}(h:eD s)(z:(nR s x).2=0):eD (nR s x).1:=by
 unfold nR at z ⊢
 split at z
 .rename_i q;exact ar z q
 .rename_i q;rw[A q]
  split at z
  .cases z
  .rename_i v;rw[A v]
   split at z
   .rename_i r;exact ar z r
   .rename_i r;rw[A r]
    split at z
    .cases z
    .rename_i d;rw[A d];let u:gy s.ay x=0:=by simpa using r
     exact⟨h.l1,h.l3,h.lf,h.st,h.sr,h.k0,h.k3,YN,λy hy=>by
      rcases fg.1 hy with hy | hy
      .exact h.wt y hy
      .rw[dJ.1 hy];exact uX u⟩
def ZM{f:Fi}{x:Ln}(h:eD f.s):eD (qI f x).1.s:=by
 unfold qI
 split
 .unfold vE;split <;> exact h
 .split
  .unfold vH;split <;> exact h
  .unfold sZ
   split
   .rename_i z;exact Y2 h z
   .exact h
def GR{f0:Fi}{w:dg}{out:Nat}{x:Ln}(u:w[n]?=x):dH f0 w out (n+1)=pY out n x (dH f0 w out n):=by
 obtain⟨i,rfl⟩:=eO.1 u;unfold dH;rw[ja i,vv,mi,yR M,jJ]
def mZ{q:Fi}{xs:dg}{out:Nat}(h:eD q.s):∀i,eD (dH q xs out i).1.s
 | 0=>h
 | i+1=>by
  have l:=mZ (xs:=xs) (out:=out) h i;cases u:xs[i]? with
  | none=>
   have:dH q xs out (i+1)=dH q xs out i:=by
    have:=List.getElem?_eq_none_iff.1 u;unfold dH;rw[qG M,qG M]
   rwa[this]
  | some x=>
   rw[GR u];unfold pY
   split
   .exact ZM l
   .exact l
def adP{c:Nat}(e:bz L d k h r):bz L (if c=0 then d else Option.map (λa:Addr=>a.add (0 *m)) d) k h r:=by
 split
 .exact e
 .intro i x u;obtain⟨a,rfl,z⟩:=e i x u;refine⟨a.add (0 *m),rfl,λj v g=>?_⟩;rw[Dr,yO,jJ];exact z j v g
def XN(I L:LH)(bc:Nat)(k:mS)(p:Kp)(w:dg)(us:oS)(ua:bA)(d n K:Nat)(hc:Ck I L bc k p w us ua d)(hl:us.length<=6)(hn:n<=us)(ho:K<256)(hv:∀u∈us,ym X u.v/\u.a=jQ u.v)(hs:eD k.s):
  Sp X 95 [pt bc,n,.int .u8 K] L (λv L'=>∃H J R,v=.tuple #[nL H,.int .u8 (dH ⟨k.b,k.ro,k.s⟩ w K n).2]/\L H=none/\Dm I J/\lH J L' H (dH ⟨k.b,k.ro,k.s⟩ w K n).1 R/\jG I L J L' H):=by
 have hN:=(Wi (X:=X) k p I hc.bk).frame hc.le;have hL:=hc.at_;refine Sp.e (n:=55) Tryz.func95 O λC hX v1 r=>?_;refine .G O (Vf.q O (jr (vs:=HE k p) hL.o O O)) (.g O ?_);rw[<-hX] at hN;refine .c O hN ?_;rintro _ _ ⟨_,⟨H,rfl,u4⟩,hP⟩;rename_i L1 I1;have u5:L H=none:=by
  rcases hP.fresh H (by rw[u4.o];simp) with h | h
  .exact ar u4.n h
  .exact h
 have Q:lH I L1 H ⟨k.b,k.ro,k.s⟩ ⟨p.b,p.r,p.s⟩:=u4.up hP.le;have S:jG I L I L1 H:=⟨λb x q _ h3=>hP.keep b x q h3,λb h=>.inl h⟩;have q2:=(hc.go (Dm.of_le (Le.refl _)) S u5 Q.le).at_;refine .G O (Vf.l O (aF q2.o O)) (.G O (Vf.EB (i:=0) (j:=n) O Tryz.underlying151 adM O O O O (fj _) (by have:=hc.c;omega)) ?_);have u6:=adP (c:=d) (m:=1) hc.s;rw[wH,wH];generalize(if d=0 then ua else Option.map (λa:Addr=>a.add (0 * 1)) ua)=ta at u6 ⊢;refine .g O ?_;have v2:us=w.length:=by rw[<-hc.x,eT]
 refine .l (λm' E B L'=>∃(i:Nat) (J:LH) (R:Fp),m'=n - i/\i<=n/\Dm I J/\lH J L' H (dH ⟨k.b,k.ro,k.s⟩ w K i).1 R/\jG I L J L' H/\E=[(2,.v (.int .u8 K)),(6,.p 0 0),(8,.p 1 0),(9,.v (.int .u8 (dH ⟨k.b,k.ro,k.s⟩ w K i).2)),(24,.v (.slice ta n d)),(25,.v (.int .i64 n)),(26,.v (.int .i64 i))]/\B=[some ⟨ad3.z.cells.toList.map .v,118⟩,some ⟨(nL H).cells.toList.map .v,118⟩]) ⟨0,I,⟨p.b,p.r,p.s⟩,rfl,fj _,Dm.of_le (Le.refl _),Q,S,rfl,rfl⟩ ?_
 rintro _ _ _ g ⟨i,J,R,rfl,hi,G,Q,S,rfl,rfl⟩ again;have q3:(dH ⟨k.b,k.ro,k.s⟩ w K i).2<256:=Fw M;have q4:eD (dH ⟨k.b,k.ro,k.s⟩ w K i).1.s:=mZ hs i;refine .I O (λc1=>W.go 99 O ?_) (λc1=>W.go 99 O ?_)
 .have hi:i<n:=by simpa using c1
  have u2:i<us:=M
  have v4:i<w:=M
  obtain⟨a,rfl⟩:=u6.addr u2;have hu:=bX u2;have u9:=hv _ (fY u2);have u3:=S.out u5;have y:=(hc.a _ (fY u2)).le u3;have q5:w[i]?=some us[i].x:=by
   rw[<-hc.x,im,hu];rfl
  have t:=GR (f0:=⟨k.b,k.ro,k.s⟩) (out:=K) q5;generalize us[i]=u at hu u9 y t;obtain⟨v,f,l,T⟩:=u;obtain⟨u1,q0⟩:=u9;have D:g.cell? (a.add i)=some (jW v l T f):=by
   have:=((u6.le u3).le (uM _ _)).get hu (j:=0) (v:=jW v l T f) rfl
   simpa using this
  have v5:=Q.le;refine .u O (Vf.b O O (hi)) (.g O ?_);simp only at q0 u1;have v0:=u1.1;rw[<-hX] at u1;have t:dH ⟨k.b,k.ro,k.s⟩ w K (i+1)=pY K i (v,f) (dH ⟨k.b,k.ro,k.s⟩ w K i):=t;have q6:v<3\/v=3\/v=4\/v=5\/v=6:=by have:=u1.1;omega
  rcases q6 with h0 | rfl | rfl | rfl | rfl
  .have q1:jW v l T f=.iface 252 (.agg #[.int .i64 v,.slice l f T]):=by
    unfold jW;rw[A M,A M,A M,A M]
   rw[q1] at D;refine .u O (Vf.l O (D)) (.N O (.y O (PD K i _ ho M) (.I O (λc2=>?_) (λc2=>?_))))
   .have u7:K.testBit i=false:=by simpa using c2
    rw[show pY K i (v,f) (dH ⟨k.b,k.ro,k.s⟩ w K i)=((qI (dH ⟨k.b,k.ro,k.s⟩ w K i).1 (v,f)).1,if(qI (dH ⟨k.b,k.ro,k.s⟩ w K i).1 (v,f)).2=0 then(dH ⟨k.b,k.ro,k.s⟩ w K i).2||| 2 ^ i else(dH ⟨k.b,k.ro,k.s⟩ w K i).2) from ax ⟨h0,u7⟩] at t;refine .o O (SC J g H _ R v f l T Q y h0 q0 u1 q4.sm) ?_;rintro _ _ ⟨rfl,J',p',q7,q8,e⟩;rename_i L3;have F:=again _ _ _ L3 M ⟨i+1,J',p',rfl,hi,G.trans q7,by rw[t];exact q8,S.trans e (by rw[Q.o];simp),rfl,rfl⟩;rw[t] at F;simp only at F;refine .I O (λc3=>?_) (λc3=>?_)
    .rw[ax (by simpa using c3)] at F;refine .y O (UI _ i _ q3 M) (.g O ?_);exact .a F
    .rw[A (by simpa using c3)] at F;refine .g O ?_;exact .a F
   .have u7:¬K.testBit i=false:=by simpa using c2
    rw[show pY K i (v,f) (dH ⟨k.b,k.ro,k.s⟩ w K i)=dH ⟨k.b,k.ro,k.s⟩ w K i from A (λh=>u7 h.2)] at t;have F:=again _ _ _ g M ⟨i+1,J,R,rfl,hi,G,LF,S,rfl,rfl⟩;rw[t] at F;refine .g O ?_;exact .a F
  .refine .u O (Vf.l O ((show _=some (Value.iface 209 (.agg #[.int .i64 (f.getD 0 0)])) from D))) (.g O ?_);rw[show pY K i (3,f) (dH ⟨k.b,k.ro,k.s⟩ w K i)=dH ⟨k.b,k.ro,k.s⟩ w K i from rfl] at t;have F:=again _ _ _ g M ⟨i+1,J,R,rfl,hi,G,LF,S,rfl,rfl⟩;rw[t] at F;refine .F O (.g O ?_);exact .a F
  .refine .u O (Vf.l O ((show _=some (Value.iface 153 (.agg #[.int .i64 (f.getD 0 0)])) from D))) (.g O ?_);rw[show pY K i (4,f) (dH ⟨k.b,k.ro,k.s⟩ w K i)=dH ⟨k.b,k.ro,k.s⟩ w K i from rfl] at t;have F:=again _ _ _ g M ⟨i+1,J,R,rfl,hi,G,LF,S,rfl,rfl⟩;rw[t] at F;refine .F O (.g O ?_);exact .a F
  .refine .u O (Vf.l O ((show _=some (Value.iface 155 (.agg #[.int .i64 (f.getD 0 0)])) from D))) (.g O ?_);rw[show pY K i (5,f) (dH ⟨k.b,k.ro,k.s⟩ w K i)=dH ⟨k.b,k.ro,k.s⟩ w K i from rfl] at t;have F:=again _ _ _ g M ⟨i+1,J,R,rfl,hi,G,LF,S,rfl,rfl⟩;rw[t] at F;refine .F O (.g O ?_);exact .a F
  .refine .u O (Vf.l O ((show _=some (Value.iface 157 (.agg #[])) from D))) (.g O ?_);rw[show pY K i (6,f) (dH ⟨k.b,k.ro,k.s⟩ w K i)=dH ⟨k.b,k.ro,k.s⟩ w K i from rfl] at t;have F:=again _ _ _ g M ⟨i+1,J,R,rfl,hi,G,LF,S,rfl,rfl⟩;rw[t] at F;refine .F O (.g O ?_);exact .a F
 .have q9:i=n:=by simp at c1;omega
  subst q9;refine .r r O ?_;exact⟨H,J,R,rfl,u5,G,Q,S⟩
end
def xO:Nat->Nat->List Item->List Item
 | 0,_,k=>k
 | f+1,m,.code (.seq a b)::k=>xO f m (.code a::.code b::k)
 | f+1,m,.code (.block l c)::k=>xO f m (.code c::.inBlock l::k)
 | _+1,0,.code (.region _ ops false)::k=>.inRegion ops (List.range ops.size)::k
 | f+1,m+1,.code (.region _ _ _)::k=>xO f m k
 | f+1,m+1,.code (.cond _ _ _)::k=>xO f m k
 | f+1,m+1,.inRegion _ _::k=>xO f m k
 | f+1,m,.code .skip::k=>xO f m k
 | f+1,m,.inBlock _::k=>xO f m k
 | _+1,_,k=>k
def W.agu{C:Cx P}(m:Nat)(J:Q5)(i:∀F B L,J F B L->W C n I (xO 99 m K) F B L)
  (h:(∀u v q,J u v q->W C n I (xO 99 m K) u v q)->W C n I K F B L):W C n I K F B L:=h i
section
open Go.Proofs
section
variable {X:aM Proofs.Tryz.prog}
def xj(s:Sw):Prop:=∃n:Nat,n<100/\(dP s).2.1=n
section
variable {c:Xf}{H:bC}{R:LH}
def ahx(v:Value):aP Tryz.prog c H (method (Tryz.prog.types.size+Made.depth) 252 v "muscovado/clerk.answer") R=c (314,v) R:=by kernel_rfl
def ahy(v:Value):aP Tryz.prog c H (method (Tryz.prog.types.size+Made.depth) 209 v "muscovado/clerk.answer") R=c (313,v) R:=by kernel_rfl
def ac3(v:Value):aP Tryz.prog c H (method (Tryz.prog.types.size+Made.depth) 153 v "muscovado/clerk.answer") R=c (300,v) R:=by kernel_rfl
def ac4(v:Value):aP Tryz.prog c H (method (Tryz.prog.types.size+Made.depth) 155 v "muscovado/clerk.answer") R=c (304,v) R:=by kernel_rfl
def ac5(v:Value):aP Tryz.prog c H (method (Tryz.prog.types.size+Made.depth) 157 v "muscovado/clerk.answer") R=c (311,v) R:=by kernel_rfl
end
def jG.post{I v:LH}(h:jG I L J v n)(d:L n=none)(a:Dm I J)(u:Le J v):Go.Mz.Post I L J v:=by
 refine⟨u,λb x q z=>h.keep b x q (λe=>by subst e;rw[d] at z;cases z) z,h.fresh,λb h=>?_⟩;cases e:I b with
 | none=>exact ar e h
 | some y=>
  let⟨o,wr⟩:=y;let⟨i,p⟩:=a b o wr e;rw[p];simp
def Il.post{I q L2:LH}{f:Fi}{a:Bs}{w v:Value}(i:jG I L J q n)(d:L n=none)(r:q n≠none)(z:Dm I J)(h:Il J q n f a w v L2):v=.tuple #[str a,w]/\∃g,Dm I g/\Go.Mz.Post I L g L2:=by
 obtain⟨rfl,g,p,u,o,j⟩:=h;exact⟨rfl,g,z.trans u,(i.trans j r).post d (z.trans u) o.le⟩
def Ck.post{I v:LH}{j:mS}{p:Kp}{w:dg}{m:oS}(h:Ck I L n j p w m d k)(y:Dm I J)(f:Go.Mz.Post I L J v):Ck J v n j p w m d k:=by
 let t:Le (jB I L) (jB J v):=λb x u=>by
  let⟨q,z⟩:=oM u;let i:=qF λe=>(f.fresh b e).elim (λg=>g q) λg=>by rw[z] at g;cases g
  rw[om i];exact f.keep b x q z
 exact⟨f.le,y.bk h.bk,t _ _ h.o,h.s.le t,h.a.le t,h.x,h.c⟩
def Post.trans{I v i f:LH}(h:Go.Mz.Post I L J v)(z:Go.Mz.Post J v i f):Go.Mz.Post I L i f:=by
 let t:∀b x,I b=none->L b=some x->J b=none:=λb x q r=>qF λe=>(h.fresh b e).elim (λg=>g q) λg=>by rw[r] at g;cases g
 refine⟨z.le,λb x q r=>z.keep b x (t b x q r) (h.keep b x q r),λb u=>?_,λb d=>z.jZ b (h.jZ b d)⟩;rcases z.fresh b u with g | g
 .exact h.fresh b g
 .by_cases e:I b=none
  .refine .inr ?_;cases o:L b with
   | none=>rfl
   | some x=>rw[h.keep b x e o] at g;cases g
  .exact .inl e
def Post.up{I v g:LH}(h:Go.Mz.Post I L J v)(o:Le v g):Go.Mz.Post I L J g:=⟨h.le.trans o,λb x q z=>o _ _ (h.keep b x q z),h.fresh,h.jZ⟩
def HU{n:Int}(h:0<=n):qk n=cu n.toNat:=by
 unfold qk;rw[A M]
def aa0(z:Nat)(k:mS)(p:Kp)(w:dg)(s:oS)(a:Addr)(d:Nat)(m n q:Nat)(L:LH)(b:Ir L z k p w s a d)(y:n<=s)(f:s.length<=6)(j:q<256)(g:∀u∈s,u.v<7):Sp X 108 [pt z,.agg #[m],n,.int .u8 q] L (λv t=>v=.tuple #[.int .u8 (sY w n q m).1,pZ (sY w n q m).2]/\L=t):=by
 unfold sY
 by_cases o:n<=m
 .rw[ax M];exact UF z m n q L o
 .let i:m<s:=by omega
  rw[A M,kT];let c:w.getD m (6,[])=s[m].x:=by
   rw[<-b.x,dL,im,bX i];rfl
  rw[c];let l:=g _ (fY i)
  by_cases r:s[m].v<3
  .exact Xl z k p w s a d m n q L b M i f j r
  .exact UG z k p w s a d m n q L b M i M
def Xz(X:aM Tryz.prog)(x:Ln):Prop:=ym X x.1/\x.2=jQ x.1/\(x.1=3->0<=x.2.getD 0 0)
def YY(I L:LH)(bc:Nat)(k:mS)(p:Kp)(G:dg)(R:oS)(ua:bA)(d:Nat)(d2:kA I)(hc:Ck I L bc k p G R ua d)(hl:R.length<=6)(hv:∀u∈R,Xz X u.x)(hs:eD k.s)
  (z2:∀i x,G[i]?=some x->x.1=6->xj (dH ⟨k.b,k.ro,k.s⟩ G (eG ⟨k.b,k.ro,k.s⟩ G i) i).1.s):
  Sp X 70 [pt bc] L (λv L'=>∃aa ac J K,v=.tuple #[.slice aa G ac,.int .u8 (eG ⟨k.b,k.ro,k.s⟩ G G)]/\Dm I J/\Go.Mz.Post I L J K/\Ck J K bc k p G R ua d/\bE K 1 9 dv L' (.slice aa G ac) (mG ⟨k.b,k.ro,k.s⟩ G G)):=by
 have d3:R=G.length:=by rw[<-hc.x,eT]
 have d4:∀u∈R,ym X u.v/\u.a=jQ u.v:=λu hu=>⟨(hv u hu).1,(hv u hu).2.1⟩;have d5:=hc.at_;refine Sp.e (n:=64) Tryz.func70 O λC hX i3 r=>?_;refine .G O (Vf.l O ((show _=some (Value.slice ua R.length d) from aF d5.o O))) (.g O ?_);generalize z3:(⟨k.b,k.ro,k.s⟩:Fi)=f0 at *;refine .l (λm' E B L'=>∃(i:Nat) (aa:bA) (ac:Nat) (J K:LH),m'=R - i/\i<=R/\Dm I J/\Go.Mz.Post I L J K/\Ck J K bc k p G R ua d/\bE K 1 9 dv L' (.slice aa i ac) (mG f0 G i)/\E=[(0,.v (pt bc)),(4,.v (.slice aa i ac)),(5,.v (.int .u8 (eG f0 G i))),(18,.v (.slice ua R d)),(19,.v (.int .i64 R.length)),(20,.v (.int .i64 i))]/\B=[]) ⟨0,none,0,I,L,rfl,fj _,Dm.of_le (Le.refl _),Post.refl hc.le,hc,bE.nil (Le.refl _),rfl,rfl⟩ ?_
 rintro _ _ _ L2 ⟨i,aa,ac,J,K,rfl,hi,u4,e,u3,hg,rfl,rfl⟩ again;refine .I O (λc1=>?_) (λc1=>?_)
 .have hi:i<R:=by have:=gN c1;omega
  have i4:i<G:=M
  have z4:=hg.1;have v2:=u3.at_;obtain⟨a,rfl⟩:=v2.s.addr hi;have hu:=bX hi;have q7:=hv _ (fY hi);have q8:=u3.a _ (fY hi);have v7:G[i]?=some R[i].x:=by rw[<-hc.x,im,hu];rfl
  have d6:G.getD i (6,[])=R[i].x:=by rw[dL,v7];rfl
  have u9:=UK f0 G i;have z5:=ry f0 G i;have v4:eG f0 G i<256:=Fs M;have q9:eG f0 G (i+1)=(nO f0 G i (eG f0 G i)).2:=rfl;have h:=z2 i _ v7;have q:=MV (dH f0 G (eG f0 G i) i).1 R[i].x;generalize hA:mX (dH f0 G (eG f0 G i) i).1 R[i].x=ao at q;obtain⟨aA,hV⟩:∃aA,aA=if R[i].x.1=3 then sY G i (eG f0 G i) (R[i].x.2.getD 0 0) else(eG f0 G i,ao.2):=⟨_,rfl⟩;have v8:nO f0 G i (eG f0 G i)=(uY ao.1 aA.2,aA.1):=by
   unfold nO;dsimp only;rw[d6,hA,hV]
  have q9:eG f0 G (i+1)=aA.1:=aJ Prod.snd v8;rw[v8] at u9;dsimp only at u9;refine W.agu 7 (λE B L'=>∃J2 K2,Dm I J2/\Go.Mz.Post I L J2 K2/\Ck J2 K2 bc k p G R (some a) d/\bE K2 1 9 dv L' (.slice aa i ac) (mG f0 G i)/\gR E [(0,.v (pt bc)),(4,.v (.slice aa i ac)),(5,.v (.int .u8 aA.1)),(10,.v (str ao.1)),(11,.v (pZ aA.2)),(18,.v (.slice (some a) R d)),(19,.v (.int .i64 R.length)),(20,.v (.int .i64 i))]/\mV B []) ?_ ?_
  .rintro E B L4 ⟨J2,K2,u4,e,u3,hg,hE,hB⟩;refine .kI (B':=[]) hE hB ?_;have d7:Er aA.2:=by
    rw[hV]
    split
    .exact Xk ..
    .exact q
   clear q hV v8;obtain⟨w,wo⟩:=ao;obtain⟨vo,ve⟩:=aA;obtain⟨n,hn,rfl⟩:=d7;dsimp only at u9 q9 ⊢;refine .de [53] 99 O (.cz 14 (.inl ⟨_,rfl⟩) O O ?_);intro q2 v5 _;refine .a (E':=[(0,.v (pt bc)),(4,.v (.slice aa i ac)),(5,.v (.int .u8 vo)),(10,.v (str w)),(11,.v (pZ (n:Int))),(14,.v (pt q2)),(18,.v (.slice (some a) R.length d)),(19,.v (.int .i64 R.length)),(20,.v (.int .i64 i)),(52,.v (pZ (n:Int)))]) (B':=[]) ?_;have q3:=Le.put v5 (.cells #[.int .i64 0] 214);have q4:=aj L4 q2 (.cells #[.int .i64 0] 214)
   change W C _ _ _ _ _ (L4.put q2 (.cells #[.int .i64 0] 214))
   generalize L4.put q2 (.cells #[.int .i64 0] 214)=L5 at q3 q4 ⊢;have z6:=hg.le q3;have z7:kA L5:=(e.le.trans z6.1).cell (u4.cell d2);rcases pU n with zF | zF
   .subst zF;rw[show pZ ((0:Nat):Int)=.nilIface from rfl];rw[show uY w ((0:Nat):Int)=w from rfl] at u9;refine .y O (Y3 _ _) (.K O (.v O (Ef.grow O O O O O O O O O dR kE z6 (ls:=[w]) (.own O O O O) ((by rw[z5,mW];omega))) ?_));rintro _ _ _ ⟨v1,rfl,rfl,u7,_⟩;rw[<-u9] at u7;obtain⟨v9,q5,rfl,_⟩:=u7.slice;rw[ry] at u7 ⊢;refine .g O ?_;exact .a (again _ _ _ _ M ⟨i+1,v9,q5,J2,K2,rfl,hi,u4,e,u3,u7,rfl,rfl⟩) (by exact⟨rfl,rfl,aJ (λz:Nat=>some (SV.v (.int .u8 (z:Int)))) q9.symm,rfl,rfl,aJ some (cr M),aE⟩)
   .have z8:(n:Int)≠0:=by omega
    rw[show pZ (n:Int)=.iface 214 (.agg #[.int .i64 n]) from A z8];rw[show uY w (n:Int)=tE n from A z8] at u9;refine .o O (agQ q2 (.int .i64 n) _ O _ z7 q4) ?_;rintro _ _ ⟨rfl,z9,z1⟩;refine .N O (.G O (Vf.q O (jr (c:=[.int .i64 n]) (vs:=[.int .i64 n]) z9 O O)) (.y O (Rv n _ hn) (.g O ?_)));rename_i L6;have d8:=hg.off v5 λb' x h1 h2=>z1 b' x h1 (q3 _ _ h2);refine .e O (Ef.grow O O O O O O O O O dR kE d8 (ls:=[tE n]) (.own O O O O) ((by rw[z5,mW];omega))) ?_;rintro _ _ _ ⟨v1,rfl,rfl,u7,_⟩;rw[<-u9] at u7;obtain⟨v9,q5,rfl,_⟩:=u7.slice;rw[ry] at u7 ⊢;refine .g O ?_;exact .a (again _ _ _ _ M ⟨i+1,v9,q5,J2,K2,rfl,hi,u4,e,u3,u7,rfl,rfl⟩) (by exact⟨rfl,rfl,aJ (λz:Nat=>some (SV.v (.int .u8 (z:Int)))) q9.symm,rfl,rfl,aJ some (cr M),aE⟩)
  intro q6;have H:=(XN (X:=X) J K bc k p G R (some a) d i (eG f0 G i) u3 hl M v4 d4 hs).frame z4;rw[z3,<-hX] at H;have v0:eD (dH f0 G (eG f0 G i) i).1.s:=mZ (by rw[<-z3];exact hs) i;generalize dH f0 G (eG f0 G i) i=D at H hA h v0;obtain⟨f,i5⟩:=D;dsimp only at H hA h v0;have F:L2.cell? (a.add i)=some R[i].u:=by
   have:=(v2.s.le z4).get hu (j:=0) (v:=R[i].u) rfl
   simpa using this
  generalize R[i]=u at hu q7 q8 v7 F hV hA h;obtain⟨v,Q,l,m⟩:=u;have q1:ym X v:=q7.1;have d9:Q.length=jQ v:=q7.2.1;have i0:v=3->0<=Q.getD 0 0:=q7.2.2;have F:L2.cell? (a.add i)=some (jW v l m Q):=F;replace hA:mX f (v,Q)=ao:=hA;replace hV:aA=if v=3 then sY G i (eG f0 G i) (Q.getD 0 0) else(eG f0 G i,ao.2):=hV;have h:v=6->xj f.s:=h;have q8:bK (jB J K) l Q:=q8;have i2:=q1.1;rw[<-hX] at q1;refine .G O (Vf.b O O (hi)) (.g O ?_);rcases(by omega:v<3\/v=3\/v=4\/v=5\/v=6) with h0 | rfl | rfl | rfl | rfl
  .have d0:jW v l m Q=.iface 252 (.agg #[.int .i64 v,.slice l Q m]):=by
    unfold jW;rw[A M,A M,A M,A M]
   rw[d0] at F;rw[A M] at hV;rw[show mX f (v,Q)=(okB,(qI f (v,Q)).2) from ax h0] at hA;subst hA hV;refine .u O (Vf.l O (F)) (.o O H ?_);rintro _ _ ⟨K1,⟨bf,J1,fp,rfl,u5,y,S,u6⟩,T⟩;rename_i L3;refine .v O (Ef.inv O O O (λ_ _ _=>ahx _) (.inl ((acj J1 K1 bf _ fp v Q l m S (q8.le (u6.out u5)) h0 d9 q1 v0.sm).frame T.le))) ?_;rintro _ _ _ ⟨_,rfl,rfl,K2,hQ,q0⟩;obtain⟨rfl,J2,u1,u2⟩:=hQ.post u6 u5 LG y;refine .K O (.de [14] 99 O ?_);exact q6 _ _ _ ⟨J2,K2,u4.trans u1,Post.trans e u2,u3.post u1 u2,(hg.post T).post q0,Gc,aE⟩
  .have i6:=i0 rfl;obtain⟨mn,d1⟩:∃n:Nat,Q.getD 0 0=(n:Int):=⟨(Q.getD 0 0).toNat,M⟩;rw[show jW 3 l m Q=.iface 209 (.agg #[.int .i64 (Q.getD 0 0)]) from rfl,d1] at F;rw[ax rfl,d1] at hV;rw[show mX f (3,Q)=(okB,0) from rfl] at hA;subst hA hV;refine .u O (Vf.l O (F)) (.o O H ?_);rintro _ _ ⟨K1,⟨bf,J1,fp,rfl,u5,y,S,u6⟩,T⟩;rename_i L3;obtain⟨_,J2,u1,u2⟩:=Il.post u6 u5 LG y (f:=f) (a:=[]) (w:=.nilIface) (v:=.tuple #[str [],.nilIface]) (L2:=K1) ⟨rfl,J1,fp,Dm.of_le (Le.refl _),S,jG.refl bf⟩;have v6:=u3.post u1 u2;refine .v O (Ef.inv O O O (λ_ _ _=>ahy _) (.inl (aei mn _ ⟨_,rfl⟩ _))) ?_;rintro _ _ _ ⟨_,rfl,rfl,rfl,rfl⟩;refine .N O (.y O (aa0 bc k p G R a d mn i (eG f0 G i) _ (v6.at_.le T.le) M hl v4 (λu hu=>(hv u hu).1.1)) (.de [14] 99 O ?_));exact q6 _ _ _ ⟨J2,K1,u4.trans u1,Post.trans e u2,v6,hg.post T,Gc,aE⟩
  .rw[show jW 4 l m Q=.iface 153 (.agg #[.int .i64 (Q.getD 0 0)]) from rfl] at F;rw[A V] at hV;rw[show mX f (4,Q)=(ly (cm (gv f.b (Q.getD 0 0)).1),(gv f.b (Q.getD 0 0)).2) from rfl] at hA;subst hA hV;refine .u O (Vf.l O (F)) (.o O H ?_);rintro _ _ ⟨K1,⟨bf,J1,fp,rfl,u5,y,S,u6⟩,T⟩;rename_i L3;refine .v O (Ef.inv O O O (λ_ _ _=>ac3 _) (.inl ((YX (q1.t O) J1 K1 bf f fp (Q.getD 0 0) S).frame T.le))) ?_;rintro _ _ _ ⟨_,rfl,rfl,K2,hQ,q0⟩;obtain⟨rfl,J2,u1,u2⟩:=hQ.post u6 u5 LG y;refine .K O (.de [14] 99 O ?_);exact q6 _ _ _ ⟨J2,K2,u4.trans u1,Post.trans e u2,u3.post u1 u2,(hg.post T).post q0,Gc,aE⟩
  .rw[show jW 5 l m Q=.iface 155 (.agg #[.int .i64 (Q.getD 0 0)]) from rfl] at F;rw[A V] at hV;rw[show mX f (5,Q)=(qk (jh f.ro (Q.getD 0 0)).1.lo++45::qk (jh f.ro (Q.getD 0 0)).1.hi,(jh f.ro (Q.getD 0 0)).2) from rfl] at hA;rw[HU (tQ _ _ _ (.inl rfl)).1,HU (tQ _ _ _ (.inr rfl)).1] at hA;subst hA hV;refine .u O (Vf.l O (F)) (.o O H ?_);rintro _ _ ⟨K1,⟨bf,J1,fp,rfl,u5,y,S,u6⟩,T⟩;rename_i L3;refine .v O (Ef.inv O O O (λ_ _ _=>ac4 _) (.inl ((XQ (q1.g O) J1 K1 bf f fp (Q.getD 0 0) S (tQ _ _)).frame T.le))) ?_;rintro _ _ _ ⟨_,rfl,rfl,K2,hQ,q0⟩;obtain⟨rfl,J2,u1,u2⟩:=hQ.post u6 u5 LG y;refine .K O (.de [14] 99 O ?_);exact q6 _ _ _ ⟨J2,K2,u4.trans u1,Post.trans e u2,u3.post u1 u2,(hg.post T).post q0,Gc,aE⟩
  .rw[show jW 6 l m Q=.iface 157 (.agg #[]) from rfl] at F;rw[A V] at hV;rw[show mX f (6,Q)=(ly (cm (dP f.s).1)++[58,32]++qk (dP f.s).2.1,(dP f.s).2.2) from rfl] at hA;subst hA hV;refine .u O (Vf.l O (F)) (.o O H ?_);rintro _ _ ⟨K1,⟨bf,J1,fp,rfl,u5,y,S,u6⟩,T⟩;rename_i L3;refine .v O (Ef.inv O O O (λ_ _ _=>ac5 _) (.inl ((XH (q1.b O) J1 K1 bf f fp S v0.sm (h O) ⟨by have:=(yE f.s).1;omega,λn hn=>by have:=(yE f.s).2 n hn;omega⟩).frame T.le))) ?_;rintro _ _ _ ⟨_,rfl,rfl,K2,hQ,q0⟩;obtain⟨rfl,J2,u1,u2⟩:=hQ.post u6 u5 LG y;refine .K O (.de [14] 99 O ?_);exact q6 _ _ _ ⟨J2,K2,u4.trans u1,Post.trans e u2,u3.post u1 u2,(hg.post T).post q0,Gc,aE⟩
 .have i1:i=R:=by have:=jX c1;omega
  subst i1;rw[d3] at hg ⊢;refine .D r O ?_;exact⟨aa,ac,J,K,rfl,u4,e,u3,hg⟩
end
def xh(u:bA)(c:Nat)(l:List _)(L:LH)(h:bz L u 1 bL l)(y:l.length<=1000000):Sp X 97 [.slice u l c] L (λv i=>bE L 1 3 bL i v l):=by
 refine Sp.e Tryz.func97 O λC j f r=>(.I O (λq=>W.go 99 O ?_) (λq=>W.go 99 O ?_))
 .have e:u=none:=by cases u with | none=>rfl | some a=>simp at q
  subst e;obtain rfl:=h.nil;refine .r r O (bE.nil (Le.refl _))
 refine .cz 5 (.inr ⟨_,_,_,rfl⟩) O O λb d _=>?_;refine .e O (Ef.grow O O O O O O O O O aY gf (bE.new (Le.put d _) (aj _ _ _) d) (.sl (h.le (Le.put d _)) aY O) bU) ?_;rintro _ _ _ ⟨o,rfl,rfl,z,_⟩;refine .D r O z
def Ck.sub{e:mS}{p:Kp}{w:dg}{v:oS}(h:Ck R L n e p w v d k)(i:Le J R)(f:nT J e p):Ck J L n e p w v d k:=by
 let j:Le (jB R L) (jB J L):=λb x u=>by
  let⟨q,z⟩:=oM u;rwa[om (bN i q)]
 exact⟨i.trans h.le,f,j _ _ h.o,h.s.le j,h.a.le j,h.x,h.c⟩
def H6(k:mS)(p:Kp)(w:dg)(L:LH)(f:nT L k p)(s:Xw k)(g:k.ls.map kV=w.map some):Sp X 58 [Fo k p,.slice none 0 0] L (λv q=>∃a us z uc,v=.tuple #[pt a,.int .i64 0]/\Ck L q a k p w us z uc):=by
 have i:=s.l6;refine Sp.e (n:=38) Tryz.func58 O λC j c r=>(.o O (UR k p _ f s) ?_);rintro _ _ ⟨rfl,m⟩;rename_i h;have d:=f.le m;refine .K O (.g O (.l (λt E B q=>t=0/\h=q/\E=[(2,.p 0 0),(15,.v (.int .i64 0)),(16,.v (.int .i64 0))]/\B=[some ⟨(HE k p).map .v,56⟩]) ⟨rfl,rfl,rfl,rfl⟩ ?_))
 rintro _ _ _ _ ⟨rfl,rfl,rfl,rfl⟩ again;refine .K O (.y O (YU p.la p.lc k.ls _ d.l M (λx u=>(s.ln x u).2.1)) (.K O (.g O (.c O (Tv k p p.la p.lc k.ls w _ d d.l i (λl o=>(s.ln l o).1) g) ?_))));rintro _ _ ⟨a,us,z,uc,rfl,b⟩;refine .D r O ⟨a,us,z,uc,rfl,b.sub m f⟩
structure yM(X:aM Tryz.prog)(k:mS)(xs:List Ln):Prop where
 ok:Xw k
 p:k.ls.map kV=xs.map some
 v:∀x∈xs,Xz X x
 pay:∀i x,xs[i]?=some x->x.1=6->xj (dH ⟨k.b,k.ro,k.s⟩ xs (eG ⟨k.b,k.ro,k.s⟩ xs i) i).1.s
def yM.l6{k:mS}{w:dg}(h:yM X k w):w.length<=6:=by
 have:=aJ List.length h.p;rw[eT,eT] at this;have:=h.ok.l6;omega
def yM.yD{k:mS}{w:dg}(h:yM X k w):eD k.s:=nA h.ok.s
def Ck.us{c:mS}{p:Kp}{q:dg}{s:oS}(h:Ck R L n c p q s d k)(w:yM X c q):s.length<=6/\s=q.length/\∀u∈s,Xz X u.x:=by
 let o:s=q.length:=by rw[<-h.x,eT]
 refine⟨by have:=w.l6;omega,o,λu z=>?_⟩;exact w.v u.x (by rw[<-h.x];exact List.mem_map_of_mem z)
def XA(k:mS)(p:Kp)(u:dg)(L:LH)(h:kA L)(f:nT L k p)(w:yM X k u):Sp X 29 [Fo k p] L (λv i=>∃q x J,v=.tuple #[.slice q u x,.int .i64 0]/\Dm L J/\bE J 1 9 dv i (.slice q u x) (mG ⟨k.b,k.ro,k.s⟩ u u)):=by
 refine Sp.e Tryz.func29 O λC j o r=>(.o O (H6 k p u _ f w.ok w.p) ?_);rintro _ _ ⟨t,us,m,uc,rfl,z⟩;let⟨g,c,d⟩:=z.us w;refine .K O ?_;let a:=YY L _ t k p u us m uc h z g d w.yD w.pay;rw[<-j] at a;refine .o O a ?_;rintro _ _ ⟨q,x,J,K,rfl,hd,y,l,e⟩;refine .D r O ⟨q,x,J,rfl,hd,e.less y.le⟩
def Fl(I L:LH)(a:Nat)(k:mS)(p:Kp)(q:dg)(f:oS)(g:bA)(c:Nat)(h:kA I)(F:Ck I L a k p q f g c)(w:yM X k q):
  Sp X 59 [pt a] L (λv G=>∃l J e,v=.tuple #[nL l,.int .u8 (eQ ⟨k.b,k.ro,k.s⟩ q).2]/\Dm I J/\lH J G l (eQ ⟨k.b,k.ro,k.s⟩ q).1 e/\Go.Mz.Post I L J G):=by
 let⟨H,t,d⟩:=F.us w;let Q:=YY I L a k p q f g c h F H d w.yD w.pay;refine Sp.e Tryz.func59 O λC j W r=>(.g O ?_);rw[<-j] at Q;refine .c O Q ?_;rintro _ _ ⟨aa,ac,J,K,rfl,hd,B,m,R⟩;rename_i L1;refine .G O (Vf.l O ((aF (m.at_.le R.1).o O))) (.g O ?_);let S:=(XN J K a k p q f g c f (eG ⟨k.b,k.ro,k.s⟩ q q) m H (dA _) (Fs M) (λu T=>⟨(d u T).1,(d u T).2.1⟩) w.yD).frame R.1;rw[<-j] at S;refine .c O S ?_;rintro _ _ ⟨K1,⟨l,E,e,rfl,x,y,i,D⟩,z⟩;refine .D r O ?_;rw[t] at i;rw[t];exact⟨l,E,e,rfl,hd.trans y,i.up z.le,(Post.trans B (D.post x y i.le)).up z.le⟩
abbrev Bn(v n:Nat):List AP:=(List.range n).map λ(i:Nat)=>⟨v,[(i:Int)],none,0⟩
def OD(v n:Nat):Bn v (n+1)=Bn v n++[⟨v,[(n:Int)],none,0⟩]:=by
 unfold Bn;rw[nI,iq];rfl
def TA(f:Fi)(l:dg)(x:Ln):nM f (l++[x])=nM f l++[uY (mX f x).1 (mX f x).2]:=by
 unfold nM;rw[iq];rfl
def Kd{v:LH}(a:Go.Mz.Post R L J v):Le (jB R L) (jB J v):=λb x u=>by
 let⟨q,z⟩:=oM u;let i:=qF λe=>(a.fresh b e).elim (λg=>g q) λg=>by rw[z] at g;cases g
 rw[om i];exact a.keep b x q z
def ai4(v:Value){z:Xf}{H:bC}{R:LH}:aP Tryz.prog z H (method (Tryz.prog.types.size+Made.depth) 214 v "Error") R=z (110,v) R:=by kernel_rfl
def Dh(k:mS)(p:Kp)(xs:dg)(L:LH)(q8:kA L)(hk:nT L k p)(w:yM X k xs)(hR:EZ X)(u8:EY X)(u9:E3 X)(o:xj (eQ ⟨k.b,k.ro,k.s⟩ xs).1.s):
  Sp X 32 [Fo k p] L (λv L'=>∃aa ac J,v=.tuple #[.slice aa (iI ⟨k.b,k.ro,k.s⟩ xs) ac,.int .i64 0]/\Dm L J/\bE J 1 9 dv L' (.slice aa (iI ⟨k.b,k.ro,k.s⟩ xs) ac) (iI ⟨k.b,k.ro,k.s⟩ xs)):=by
 have q9:eD (eQ ⟨k.b,k.ro,k.s⟩ xs).1.s:=mZ w.yD _;let q0:=w.ok;have v0:=Fq q0.b;have y:=Kz q0.r;have v7:=v0.s3;have v8:=y.p2;refine Sp.e (n:=83) Tryz.func32 O λC hX v9 r=>?_;refine .o O (H6 k p xs _ hk w.ok w.p) ?_;rintro _ _ ⟨bc,us,ua,uc,rfl,hc⟩;rename_i L1;refine .K O (.g O ?_);refine .l (λm' E B L'=>∃(i:Nat) (a:bA) (c:Nat),m'=k.b.bq.length - i/\i<=k.b.bq.length/\bE L1 1 159 BG L' (.slice a i c) (Bn 4 i)/\E=[(1,.p 0 0),(4,.v (pt bc)),(6,.v (.slice a i c)),(27,.v (.int .i64 k.b.bq.length)),(28,.v (.int .i64 i))]/\B=[some ⟨(HE k p).map .v,56⟩]) ⟨0,none,0,rfl,fj _,bE.nil (Le.refl _),rfl,rfl⟩ ?_
 rintro _ _ _ L2 ⟨i,a,c,rfl,R,F,rfl,rfl⟩ again;refine .I O (λc1=>W.go 99 O ?_) (λc1=>W.go 99 O ?_)
 .have R:i<k.b.bq:=by have:=gN c1;omega
  have e:=OD 4 i;refine .e O (Ef.grow O O O O O O O O O tW DU F (ls:=[(⟨4,[(i:Int)],none,0⟩:AP)]) (.own O O O O) (bU)) ?_;rintro _ _ _ ⟨v1,rfl,rfl,g,_⟩;rw[<-e] at g;obtain⟨Q,t,rfl,_⟩:=g.slice;rw[eT,vt] at g ⊢;refine .g O ?_;exact .a (again _ _ _ _ M ⟨i+1,Q,t,rfl,R,g,rfl,rfl⟩)
 have u1:i=k.b.bq:=by have:=jX c1;omega
 subst u1;clear again c1;refine .l (λm' E B L'=>∃(i:Nat) (a:bA) (c:Nat),m'=k.ro.samples - i/\i<=k.ro.samples/\bE L1 1 159 BG L' (.slice a (k.b.bq+i) c) (Bn 4 k.b.bq++Bn 5 i)/\E=[(4,.v (pt bc)),(6,.v (.slice a (k.b.bq+i) c)),(41,.v (.int .i64 k.ro.samples.length)),(42,.v (.int .i64 i))]/\B=[]) ⟨0,a,c,rfl,fj _,by rw[show Bn 5 0=[] from rfl,pf];exact F,rfl,rfl⟩ ?_
 clear F;rintro _ _ _ L2 ⟨i,a,c,rfl,R,F,rfl,rfl⟩ again;refine .I O (λc1=>W.go 99 O ?_) (λc1=>W.go 99 O ?_)
 .have R:i<k.ro.samples:=by have:=gN c1;omega
  have e:=OD 5 i;refine .e O (Ef.grow O O O O O O O O O tW DU F (ls:=[(⟨5,[(i:Int)],none,0⟩:AP)]) (.own O O O O) (bU)) ?_;rintro _ _ _ ⟨v1,rfl,rfl,g,_⟩;rw[tq,<-e] at g;obtain⟨Q,t,rfl,_⟩:=g.slice;rw[eX,eT,vt,eT,vt] at g ⊢;refine .g O ?_;exact .a (again _ _ _ _ M ⟨i+1,Q,t,rfl,R,g,rfl,rfl⟩)
 have u1:i=k.ro.samples:=by have:=jX c1;omega
 subst u1;clear again c1;have hB:=(Fl (X:=X) L L1 bc k p xs us ua uc q8 hc w).frame F.1;rw[<-hX] at hB;refine .c O hB ?_;rintro _ _ ⟨K1,⟨bf,J,fp,rfl,hd,hD,hP⟩,q1⟩;have q2:=F.post q1;generalize hf:(eQ ⟨k.b,k.ro,k.s⟩ xs).1=f at *;refine .v O (Ef.grow O O O O O O O O O tW DU q2 (ls:=[(⟨6,[],none,0⟩:AP)]) (.own O O O O) (bU)) ?_;rintro _ _ _ ⟨v1,rfl,rfl,l,_⟩;rename_i L5 _;have q3:(Bn 4 k.b.bq++Bn 5 k.ro.samples.length++[(⟨6,[],none,0⟩:AP)]).map AP.x=IH ⟨k.b,k.ro,k.s⟩++[(6,[])]:=by
  unfold IH Bn;simp only[iq,yW]
  rfl
 have hv:∀u∈Bn 4 k.b.bq++Bn 5 k.ro.samples.length++[(⟨6,[],none,0⟩:AP)],u.v=4\/u.v=5\/u.v=6:=λu hu=>by
  rcases fg.1 hu with hu | hu
  .rcases fg.1 hu with hu | hu
   .obtain⟨_,_,rfl⟩:=fK.1 hu;exact .inl O
   .obtain⟨_,_,rfl⟩:=fK.1 hu;exact .inr (.inl O)
  .rw[dJ.1 hu];exact .inr (.inr O)
 have v2:(Bn 4 k.b.bq.length++Bn 5 k.ro.samples.length++[(⟨6,[],none,0⟩:AP)]).length<=100:=bU
 have q4:iI ⟨k.b,k.ro,k.s⟩ xs=nM f (IH ⟨k.b,k.ro,k.s⟩++[(6,[])]):=by unfold iI;rw[hf]
 rw[q4,<-q3] at r;generalize Bn 4 k.b.bq++Bn 5 k.ro.samples.length++[(⟨6,[],none,0⟩:AP)]=I at l hv v2 r;obtain⟨wa,wc,rfl,_⟩:=l.slice;have D:bz (jB K1 L5) wa 1 BG I:=l.under tW λb hb=>om hb;refine .g O ?_;rw[<-hX] at hR u8 u9;refine .l (λm' E B L'=>∃(i:Nat) (J K ae:LH) (fp:Fp) (oa:bA) (oc:Nat),m'=I - i/\i<=I/\Dm L J/\lH J K bf f fp/\bz (jB K ae) wa 1 BG I/\Le K ae/\bE ae 1 9 dv L' (.slice oa i oc) (nM f ((I.map AP.x).take i))/\E=[(9,.v (.slice oa i oc)),(10,.p 0 0),(61,.v (.slice wa I wc)),(62,.v (.int .i64 I.length)),(63,.v (.int .i64 i))]/\B=[some ⟨(nL bf).cells.toList.map .v,118⟩]) ⟨0,J,K1,L5,fp,none,0,rfl,fj _,hd,hD,D,l.1,bE.nil (Le.refl _),rfl,rfl⟩ ?_
 clear l D hD hd q1 hP q2 F hc q4 q3 hB;rintro _ _ _ L6 ⟨i,J,K,ae,fp,oa,oc,rfl,R,hd,hD,D,h,F,rfl,rfl⟩ again;refine .I O (λc1=>?_) (λc1=>?_)
 .have R:i<I:=by have:=gN c1;omega
  obtain⟨a,rfl⟩:=D.addr R;have hu:=bX R;have u6:=hv _ (fY R);have v4:(I.map AP.x)[i]?=some I[i].x:=by rw[im,hu];rfl
  have S:nM f ((I.map AP.x).take (i+1))=nM f ((I.map AP.x).take i)++[uY (mX f I[i].x).1 (mX f I[i].x).2]:=by
   rw[<-TA]
   congr 1
   obtain⟨h1,h2⟩:=eO.1 v4;rw[<-h2];exact ja h1
  have q5:(nM f ((I.map AP.x).take i)).length=i:=YO
  have d:(nM f ((I.map AP.x).take (i+1))).length=i+1:=YO
  have z:L6.cell? (a.add i)=some I[i].u:=by
   have:=((D.le (uM K ae)).le F.1).get hu (j:=0) (v:=I[i].u) rfl
   simpa using this
  have u5:=MV f I[i].x;generalize hA:mX f I[i].x=ao at u5 S;refine W.agu 3 (λE B L'=>∃J2 T M2 q,Dm L J2/\lH J2 T bf f q/\bz (jB T M2) (some a) 1 BG I/\Le T M2/\bE M2 1 9 dv L' (.slice oa i oc) (nM f ((I.map AP.x).take i))/\gR E [(9,.v (.slice oa i oc)),(10,.p 0 0),(14,.v (str ao.1)),(15,.v (pZ ao.2)),(61,.v (.slice (some a) I wc)),(62,.v (.int .i64 I.length)),(63,.v (.int .i64 i))]/\mV B [some ⟨(nL bf).cells.toList.map .v,118⟩]) ?_ ?_
  .clear z hA D h F hd hD;rintro E B L4 ⟨J2,T,M2,q,hd,hD,D,h,F,hE,hB⟩;refine .kI (B':=[some ⟨(nL bf).cells.toList.map .v,118⟩]) hE hB ?_;obtain⟨w',we⟩:=ao;obtain⟨n,hn,rfl⟩:=u5;dsimp only at S ⊢;rcases pU n with zF | zF
   .subst zF;rw[show pZ ((0:Nat):Int)=.nilIface from rfl];rw[show uY w' ((0:Nat):Int)=w' from rfl] at S;refine .v O (Ef.grow O O O O O O O O O dR kE F (ls:=[w']) (.own O O O O) ((by rw[q5,mW];omega))) ?_;rintro _ _ _ ⟨v1,rfl,rfl,g,_⟩;rw[<-S] at g;obtain⟨Q,t,rfl,_⟩:=g.slice;rw[d] at g ⊢;refine .g O ?_;exact .a (again _ _ _ _ M ⟨i+1,J2,T,M2,q,Q,t,rfl,R,hd,hD,D,h,g,rfl,rfl⟩)
   .have q6:(n:Int)≠0:=by omega
    rw[show pZ (n:Int)=.iface 214 (.agg #[.int .i64 n]) from A q6];rw[show uY w' (n:Int)=tE n from A q6] at S;refine .v O (Ef.inv O O O (λ_ _ _=>ai4 _) (.inl (Rv n _ hn))) ?_;rintro _ _ _ ⟨_,rfl,rfl,rfl,rfl⟩;refine .v O (Ef.grow O O O O O O O O O dR kE F (ls:=[tE n]) (.own O O O O) ((by rw[q5,mW];omega))) ?_;rintro _ _ _ ⟨v1,rfl,rfl,g,_⟩;rw[<-S] at g;obtain⟨Q,t,rfl,_⟩:=g.slice;rw[d] at g ⊢;refine .g O ?_;exact .a (again _ _ _ _ M ⟨i+1,J2,T,M2,q,Q,t,rfl,R,hd,hD,D,h,g,rfl,rfl⟩)
  intro u7;generalize I[i]=u at hu u6 z hA;obtain⟨v,G,ad,m⟩:=u;have z:L6.cell? (a.add i)=some (jW v ad m G):=z;replace hA:mX f (v,G)=ao:=hA;refine .G O (Vf.b O O (R)) (.g O ?_);simp only at u6;rcases u6 with rfl | rfl | rfl
  .rw[show jW 4 ad m G=.iface 153 (.agg #[.int .i64 (G.getD 0 0)]) from rfl] at z;rw[show mX f (4,G)=(ly (cm (gv f.b (G.getD 0 0)).1),(gv f.b (G.getD 0 0)).2) from rfl] at hA;subst hA;refine .u O (Vf.l O (z)) (.v O (Ef.inv O O O (λ_ _ _=>ac3 _) (.inl (((YX u9 J K bf f fp (G.getD 0 0) hD).frame h).frame F.1))) ?_);rintro _ _ _ ⟨_,rfl,rfl,M2,⟨T,⟨rfl,J2,q,u2,u3,q7⟩,H⟩,u4⟩;refine .de [73] 99 O ?_;exact u7 _ _ _ ⟨J2,T,M2,q,hd.trans u2,u3,D.le (Kd H),H.le,F.post u4,rj,sV⟩
  .rw[show jW 5 ad m G=.iface 155 (.agg #[.int .i64 (G.getD 0 0)]) from rfl] at z;rw[show mX f (5,G)=(qk (jh f.ro (G.getD 0 0)).1.lo++45::qk (jh f.ro (G.getD 0 0)).1.hi,(jh f.ro (G.getD 0 0)).2) from rfl] at hA;rw[HU (tQ _ _ _ (.inl rfl)).1,HU (tQ _ _ _ (.inr rfl)).1] at hA;subst hA;refine .u O (Vf.l O (z)) (.v O (Ef.inv O O O (λ_ _ _=>ac4 _) (.inl (((XQ hR J K bf f fp (G.getD 0 0) hD (tQ _ _)).frame h).frame F.1))) ?_);rintro _ _ _ ⟨_,rfl,rfl,M2,⟨T,⟨rfl,J2,q,u2,u3,q7⟩,H⟩,u4⟩;refine .de [73] 99 O ?_;exact u7 _ _ _ ⟨J2,T,M2,q,hd.trans u2,u3,D.le (Kd H),H.le,F.post u4,rj,sV⟩
  .rw[show jW 6 ad m G=.iface 157 (.agg #[]) from rfl] at z;rw[show mX f (6,G)=(ly (cm (dP f.s).1)++[58,32]++qk (dP f.s).2.1,(dP f.s).2.2) from rfl] at hA;subst hA;refine .u O (Vf.l O (z)) (.v O (Ef.inv O O O (λ_ _ _=>ac5 _) (.inl (((XH u8 J K bf f fp hD q9.sm o ⟨by have:=(yE f.s).1;omega,λn hn=>by have:=(yE f.s).2 n hn;omega⟩).frame h).frame F.1))) ?_);rintro _ _ _ ⟨_,rfl,rfl,M2,⟨T,⟨rfl,J2,q,u2,u3,q7⟩,H⟩,u4⟩;refine .de [73] 99 O ?_;exact u7 _ _ _ ⟨J2,T,M2,q,hd.trans u2,u3,D.le (Kd H),H.le,F.post u4,rj,sV⟩
 .have u1:i=I:=by have:=jX c1;omega
  subst u1;refine .D r O ?_;have v5:(I.map AP.x).length=I.length:=eT ..;have v6:(nM f (I.map AP.x))=I.length:=by unfold nM;rw[eT,v5]
  rw[qG M] at F;rw[v6];exact⟨oa,oc,J,rfl,hd,F.less (hD.le.trans h)⟩
def qP(L:LH):Sp X 30 [] L (λv g=>∃p,v=uw eK p/\Le L g/\iK g eK p/\p.c4=1):=by
 refine Sp.e Tryz.func30 O λC b d r=>(.de [12] 99 O (.cz 3 (.inr ⟨_,_,_,rfl⟩) O O ?_));intro t f _;refine .cz 4 (.inr ⟨_,_,_,rfl⟩) O O λk q _=>?_;refine .cz 5 (.inr ⟨_,_,_,rfl⟩) O O λj z _=>?_;refine .cz 9 (.inr ⟨_,_,_,rfl⟩) O O λu c _=>?_;refine .cz 11 (.inr ⟨_,_,_,rfl⟩) O O λo x _=>?_;have i:=cY (L:=L.put t (.cells ([⟨4,6⟩,⟨8,8⟩].flatMap cJ).toArray 88)) df (aj _ _ _);have s1:=cY (l:=([1,2]:List Int)) (e:=3) aY (aj (L.put t (.cells ([⟨4,6⟩,⟨8,8⟩].flatMap cJ).toArray 88)) k (.cells (([1,2]:List Int).flatMap bL).toArray 3));have y:=cY (l:=([8,12,16]:List Int)) (e:=3) aY (aj ((L.put t (.cells ([⟨4,6⟩,⟨8,8⟩].flatMap cJ).toArray 88)).put k (.cells (([1,2]:List Int).flatMap bL).toArray 3)) j (.cells (([8,12,16]:List Int).flatMap bL).toArray 3));have w:=cY (l:=([⟨1,2⟩,⟨2,2⟩,⟨1,3⟩]:List ei)) (e:=88) df (aj (((L.put t (.cells ([⟨4,6⟩,⟨8,8⟩].flatMap cJ).toArray 88)).put k (.cells (([1,2]:List Int).flatMap bL).toArray 3)).put j (.cells (([8,12,16]:List Int).flatMap bL).toArray 3)) u (.cells (([⟨1,2⟩,⟨2,2⟩,⟨1,3⟩]:List ei).flatMap cJ).toArray 88));have a:=cY (l:=([⟨0,2,1⟩]:List sA)) (e:=35) lP (aj ((((L.put t (.cells ([⟨4,6⟩,⟨8,8⟩].flatMap cJ).toArray 88)).put k (.cells (([1,2]:List Int).flatMap bL).toArray 3)).put j (.cells (([8,12,16]:List Int).flatMap bL).toArray 3)).put u (.cells (([⟨1,2⟩,⟨2,2⟩,⟨1,3⟩]:List ei).flatMap cJ).toArray 88)) o (.cells (([⟨0,2,1⟩]:List sA).flatMap ju).toArray 35));have l0:=Le.put f (.cells ([⟨4,6⟩,⟨8,8⟩].flatMap cJ).toArray 88);have s:=Le.put q (.cells (([1,2]:List Int).flatMap bL).toArray 3);have m:=Le.put z (.cells (([8,12,16]:List Int).flatMap bL).toArray 3);have l3:=Le.put c (.cells (([⟨1,2⟩,⟨2,2⟩,⟨1,3⟩]:List ei).flatMap cJ).toArray 88);have l4:=Le.put x (.cells (([⟨0,2,1⟩]:List sA).flatMap ju).toArray 35);refine .D r O ?_;exact⟨⟨some ⟨t,0,none⟩,some ⟨k,0,none⟩,some ⟨j,0,none⟩,some ⟨u,0,none⟩,some ⟨o,0,none⟩,2,2,3,3,1⟩,rfl,l0.trans (s.trans (m.trans (l3.trans l4))),⟨i.le (s.trans (m.trans (l3.trans l4))),s1.le (m.trans (l3.trans l4)),y.le (l3.trans l4),w.le l4,a,V,V,V,V,V,dA _⟩,rfl⟩
def uA(L:LH):Sp X 18 [] L (λv g=>∃p,v=xL ir p/\Le L g/\iG g ir p):=by
 refine Sp.e Tryz.func18 O λC b d r=>(.de [1] 99 O (.cz 8 (.inr ⟨_,_,_,rfl⟩) O O ?_));intro t f _;refine .de [18] 99 O (.cz 10 (.inr ⟨_,_,_,rfl⟩) O O λk q _=>?_);refine .cz 11 (.inr ⟨_,_,_,rfl⟩) O O λj z _=>?_;refine .cz 14 (.inr ⟨_,_,_,rfl⟩) O O λu c _=>?_;refine .cz 17 (.inr ⟨_,_,_,rfl⟩) O O λo x _=>?_;let i:=cY jL (aj (L) t (.cells ((([⟨0,20,⟨0,1⟩⟩,⟨0,30,⟨1,2⟩⟩,⟨5,12,⟨0,0⟩⟩,⟨5,18,⟨0,0⟩⟩]:List Gl)).flatMap kg).toArray 90));let l0:=Le.put f (.cells ((([⟨0,20,⟨0,1⟩⟩,⟨0,30,⟨1,2⟩⟩,⟨5,12,⟨0,0⟩⟩,⟨5,18,⟨0,0⟩⟩]:List Gl)).flatMap kg).toArray 90);let s1:=cY aY (aj ((L).put t (.cells ((([⟨0,20,⟨0,1⟩⟩,⟨0,30,⟨1,2⟩⟩,⟨5,12,⟨0,0⟩⟩,⟨5,18,⟨0,0⟩⟩]:List Gl)).flatMap kg).toArray 90)) k (.cells ((([10,18]:List Int)).flatMap bL).toArray 3));let s:=Le.put q (.cells ((([10,18]:List Int)).flatMap bL).toArray 3);let y:=cY aY (aj (((L).put t (.cells ((([⟨0,20,⟨0,1⟩⟩,⟨0,30,⟨1,2⟩⟩,⟨5,12,⟨0,0⟩⟩,⟨5,18,⟨0,0⟩⟩]:List Gl)).flatMap kg).toArray 90)).put k (.cells ((([10,18]:List Int)).flatMap bL).toArray 3)) j (.cells ((([3,5,8]:List Int)).flatMap bL).toArray 3));let m:=Le.put z (.cells ((([3,5,8]:List Int)).flatMap bL).toArray 3);let w:=cY df (aj ((((L).put t (.cells ((([⟨0,20,⟨0,1⟩⟩,⟨0,30,⟨1,2⟩⟩,⟨5,12,⟨0,0⟩⟩,⟨5,18,⟨0,0⟩⟩]:List Gl)).flatMap kg).toArray 90)).put k (.cells ((([10,18]:List Int)).flatMap bL).toArray 3)).put j (.cells ((([3,5,8]:List Int)).flatMap bL).toArray 3)) u (.cells ((([⟨8,24⟩,⟨5,15⟩]:List ei)).flatMap cJ).toArray 88));let l3:=Le.put c (.cells ((([⟨8,24⟩,⟨5,15⟩]:List ei)).flatMap cJ).toArray 88);let a:=cY kK (aj (((((L).put t (.cells ((([⟨0,20,⟨0,1⟩⟩,⟨0,30,⟨1,2⟩⟩,⟨5,12,⟨0,0⟩⟩,⟨5,18,⟨0,0⟩⟩]:List Gl)).flatMap kg).toArray 90)).put k (.cells ((([10,18]:List Int)).flatMap bL).toArray 3)).put j (.cells ((([3,5,8]:List Int)).flatMap bL).toArray 3)).put u (.cells ((([⟨8,24⟩,⟨5,15⟩]:List ei)).flatMap cJ).toArray 88)) o (.cells ((([⟨0,0,4,2⟩,⟨0,2,5,0⟩]:List Sg)).flatMap jM).toArray 126));let l4:=Le.put x (.cells ((([⟨0,0,4,2⟩,⟨0,2,5,0⟩]:List Sg)).flatMap jM).toArray 126);refine .D r O (⟨⟨some ⟨t,0,none⟩,some ⟨k,0,none⟩,some ⟨j,0,none⟩,some ⟨u,0,none⟩,some ⟨o,0,none⟩,4,2,3,2,2⟩,rfl,l0.trans (s.trans (m.trans (l3.trans (l4)))),i.le (s.trans (m.trans (l3.trans (l4)))),s1.le (m.trans (l3.trans (l4))),y.le (l3.trans (l4)),w.le l4,a,V,V,V,V,V,dA _⟩)
def KA(ws:dt):Sw:=⟨[[5,3,2],[4,2]],[2,2],1,ws⟩
abbrev qK:Sw:=KA []
def AX(o:dt)(y:bA)(a:Nat)(L:LH)(w:bz L y 4 gj o)(b:o<=a):Sp X 19 [.slice y o a] L (λv g=>∃p,v=gZ (KA o) p/\Le L g/\eE g (KA o) p):=by
 refine Sp.e Tryz.func19 O λC K d r=>(.de [5] 99 O (.cz 3 (.inr ⟨_,_,_,rfl⟩) O O ?_));intro t f _;refine .cz 4 (.inr ⟨_,_,_,rfl⟩) O O λk q _=>?_;refine .de [8] 99 O (.cz 5 (.inr ⟨_,_,_,rfl⟩) O O λj z _=>?_);refine .cz 6 (.inr ⟨_,_,_,rfl⟩) O O λc h _=>?_;let i:=cY aY (aj (L) t (.cells ((([5,3,2]:List Int)).flatMap bL).toArray 3));let l0:=Le.put f (.cells ((([5,3,2]:List Int)).flatMap bL).toArray 3);let s1:=cY aY (aj ((L).put t (.cells ((([5,3,2]:List Int)).flatMap bL).toArray 3)) k (.cells ((([4,2]:List Int)).flatMap bL).toArray 3));let s:=Le.put q (.cells ((([4,2]:List Int)).flatMap bL).toArray 3);let I:=cY gh (aj (((L).put t (.cells ((([5,3,2]:List Int)).flatMap bL).toArray 3)).put k (.cells ((([4,2]:List Int)).flatMap bL).toArray 3)) j (.cells ((([((some ⟨t,0,none⟩,3,3),[5,3,2]),((some ⟨k,0,none⟩,2,2),[4,2])]:List (Rw Int))).flatMap iP).toArray 22));let m:=Le.put z (.cells ((([((some ⟨t,0,none⟩,3,3),[5,3,2]),((some ⟨k,0,none⟩,2,2),[4,2])]:List (Rw Int))).flatMap iP).toArray 22);let J:=cY aY (aj ((((L).put t (.cells ((([5,3,2]:List Int)).flatMap bL).toArray 3)).put k (.cells ((([4,2]:List Int)).flatMap bL).toArray 3)).put j (.cells ((([((some ⟨t,0,none⟩,3,3),[5,3,2]),((some ⟨k,0,none⟩,2,2),[4,2])]:List (Rw Int))).flatMap iP).toArray 22)) c (.cells ((([2,2]:List Int)).flatMap bL).toArray 3));let l3:=Le.put h (.cells ((([2,2]:List Int)).flatMap bL).toArray 3);refine .D r O (⟨⟨some ⟨j,0,none⟩,some ⟨c,0,none⟩,y,2,2,a⟩,rfl,l0.trans (s.trans (m.trans (l3))),⟨_,rfl,I.le l3,λx u=>?_⟩,J,w.le (l0.trans (s.trans (m.trans (l3)))),b⟩);rcases eP.1 u with rfl | u
 .exact⟨i.le (s.trans (m.trans (l3))),rfl,dA _⟩
 .rw[dJ.1 u];exact⟨s1.le (m.trans (l3)),rfl,dA _⟩
def jz:Bs:=[63]
def dZ(b:Bl)(ro:Ro)(s:Sw)(ls:iW):mS:=⟨b,ro,s,ls,List.replicate ls jz⟩
def wK(b:Bl)(t:Ro)(s:Sw)(c:iW)(q m:BP)(l:Wp)(k:bA)(J:Nat)(L:LH)(R:iK L b q)(S:iG L t m)(a:eE L s l)(o:bz L k 1 dv c)(y:c.length<=1000):
  Sp X 17 [uw b q,xL t m,gZ s l,.slice k c J] L (λv F=>∃p,v=Fo (dZ b t s c) p/\Le L F/\nT F (dZ b t s c) p):=by
 refine Sp.e (n:=28) Tryz.func17 O λC j T r=>?_;refine .g O ?_;refine .l (λw E B F=>∃(i:Nat) (I:bA) (x:Nat),w=c - i/\i<=c/\bE L 1 9 dv F (.slice I i x) (List.replicate i jz)/\E=[(3,.v (.slice k c J)),(8,.p 3 0),(9,.p 4 0),(10,.v (.int .i64 i))]/\B=[some ⟨(wJ b q).map .v,28⟩,some ⟨(jU t m).map .v,48⟩,some ⟨(cX s l).map .v,52⟩,some ⟨Uz.z.cells.toList.map .v,56⟩,some ⟨(wJ b q++jU t m++cX s l++[Value.slice k c J,.slice I i x]).map .v,56⟩]) ⟨0,none,0,rfl,fj _,bE.nil (Le.refl _),rfl,rfl⟩ ?_
 rintro _ _ _ h ⟨i,I,x,rfl,hi,u,rfl,rfl⟩ again;refine .I O (λG=>W.go 99 O ?_) (λG=>W.go 99 O ?_)
 .have e:i<c:=by have:=gN G;omega
  have H:(List.replicate i jz).length=i:=zk;have d:List.replicate i jz++[jz]=List.replicate (i+1) jz:=by rw[List.replicate_succ']
  refine .e O (Ef.grow O O O O O O O O O dR kE u (ls:=[jz]) (.own O O O O) ((by rw[H,mW];omega))) ?_;rintro _ _ _ ⟨v1,rfl,rfl,g,_⟩;rw[d] at g;obtain⟨Q,K,rfl,_⟩:=g.slice;rw[zk] at g ⊢;refine .g O ?_;exact .a (again _ _ _ _ M ⟨i+1,Q,K,rfl,e,g,rfl,rfl⟩)
 .have e:i=c:=by have:=jX G;omega
  subst e;have D:(List.replicate c.length jz).length=c.length:=zk;refine .r r O ?_;refine⟨⟨q,m,l,k,J,I,x⟩,?_,u.1,R.le u.1,S.le u.1,a.le u.1,o.le u.1,?_⟩
  .show _=Value.agg (wJ b q++jU t m++cX s l++[Value.slice k c.length J,.slice I (List.replicate c.length jz).length x]).toArray;rw[D];rfl
  .have f:bE L 1 9 dv h (.slice I (List.replicate c jz) x) (List.replicate c jz):=by rw[D];exact u
   exact(f.at dR).2
def afQ(b:Bl)(t:Ro)(s:Sw)(c:iW)(u:dg)(z i:BP)(l:Wp)(f d:bA)(I a:Nat)(L:LH)(h:kA L)(G:iK L b z)(H:iG L t i)(Q:eE L s l)(o:bz L f 1 dv c)(w:yM X (dZ b t s c) u)(R:bz L d 1 dv (mG ⟨b,t,s⟩ u u.length)):
  Sp X 21 [uw b z,xL t i,gZ s l,.slice f c.length I,.slice d u a] L (λv S=>v=true/\Dm L S):=by
 let y:c.length<=6:=w.ok.l6;let T:=w.l6;let x:=ry ⟨b,t,s⟩ u u;refine Sp.e (n:=29) Tryz.func21 O λC j W r=>?_;refine .o O (wK b t s c z i l f I _ G H Q o M) ?_;rintro _ _ ⟨p,rfl,m,g⟩;let K:=XA (X:=X) (dZ b t s c) p u _ (h.le m) g w;rw[<-j] at K;refine .c O K ?_;rintro _ _ ⟨B,E,J,rfl,e,D⟩;let k:=D.Zo dR x;let q:Dm L _:=((Dm.of_le m).trans e).trans (.of_le D.1);refine .N O (.g O ?_);let F:=B9 (X:=C.X) B d E a (mG ⟨b,t,s⟩ u u) _ k (q.sl R) M;rw[x] at F;refine .p O F (.D r O ?_);exact⟨rfl,q⟩
end
section
open Go.Proofs
abbrev SL:Fi:=⟨eK,ir,qK⟩
theorem Ew:e8 qK=0:=iu
theorem DI:fP eK=0:=iu
theorem Ib:ic ir=0:=iu
theorem adF(n:dt)(h:n.length<=1000):Sm (KA n):=⟨(by decide:2<=1000),(by decide:2<=1000),h,λl o=>by
 rcases eP.1 o with rfl | o
 ·decide
 ·rw[dJ.1 o];decide⟩
theorem I4{b:Bl}{t:Ro}{c:iW}{xs:dg}(d:fP b=0)(v:ic t=0)(a:e8 s=0)(z:c.length<=6)(i:c.map kV=xs.map some)(q:∀l∈c,l.length<=100/\fF l 63=0):Xw (dZ b t s c):=
 ⟨d,v,a,(nA a).sm,z,λl o=>⟨(q l o).1,(q l o).2,by
  have:kV l∈xs.map some:=i▸List.mem_map_of_mem o;obtain⟨x,_,u⟩:=fK.1 this;exact⟨x.1,x.2,u.symm⟩⟩,zk,λl o=>by rw[(List.mem_replicate.1 o).2];decide⟩
theorem R2{v K F:Value}{g l:Nat}{f p:aR}{i a:bD}(s:dB L k e v m j o)(r:dB L n t K g f i)(x:∀d,o=some d->i≠some d)(G:∀d,o=some d->R d=none)(z:Le R L)(u:dB J k e F l p a)
  (H:(J=L/\a=none/\o=none)\/∃b c,a=some b/\J=L.put b (.cells c e)/\((o=some b/\∃D,L b=some (.cells D e (0,0),true)/\c.size=D.size)\/L b=none)):
  dB J n t K g f i/\(∀d,a=some d->i≠some d)/\(∀d,a=some d->R d=none)/\Le R J:=by
 rcases H with⟨rfl,rfl,_⟩ | ⟨q,c,rfl,rfl,⟨rfl,_⟩ | hn⟩
 ·exact⟨r,λ_ h=>(by cases h),λ_ h=>(by cases h),z⟩
 ·have y:=G q rfl;have w:=x q rfl;exact⟨r.keep λd I=>aB _ _ (λe=>by subst e;exact w I),λ_ h=>(by cases h;exact w),λ_ h=>(by cases h;exact y),aG z y _⟩
 ·have w:i≠some q:=λe=>by
   subst e;exact r.blk hn
  exact⟨r.keep λd I=>aB _ _ (λe=>by subst e;exact w I),λ_ h=>(by cases h;exact w),λ_ h=>(by cases h;exact bN z hn),z.trans (Le.put hn _)⟩
abbrev kh(x:Ln):Bs:=pA x.1 x.2
theorem HW{x:Ln}(h:Ml x.1 x.2):kV (kh x)=some x/\(kh x).length<=40/\fF (kh x) 63=0:=
 ⟨Tb h,Z6 h,List.count_eq_zero.2 λo=>acV h _ o O⟩
theorem ahu{x:Ln}(h:Ml x.1 x.2)(f:ym X x.1):Xz X x:=⟨f,h.l,λr=>by
 have o:x.2.length=1:=by rw[h.l,r];rfl
 rcases h.a 0 (x.2.getD 0 0) (by rw[dL,bX (show 0<x.2.length by omega)];rfl) with g | ⟨_,g,_⟩
 ·exact g.1
 ·cases g⟩
theorem Gp{b:Bl}{t:Ro}{w:dg}(d:fP b=0)(v:ic t=0)(a:e8 s=0)(f:w.length<=6)(o:∀x∈w,Ml x.1 x.2/\ym X x.1)(m:∀i x,w[i]?=some x->x.1=6->xj (dH ⟨b,t,s⟩ w (eG ⟨b,t,s⟩ w i) i).1.s):yM X (dZ b t s (w.map kh)) w:=by
 have q:(w.map kh).map kV=w.map some:=by
  rw[yW];exact yX λx u=>(HW (o x u).1).1
 exact⟨I4 d v a (by rw[eT];exact f) q (λl z=>by
  obtain⟨x,u,rfl⟩:=fK.1 z;exact⟨lI (HW (o x u).1).2.1 V,(HW (o x u).1).2.2⟩),q,λx u=>ahu (o x u).1 (o x u).2,m⟩
theorem H8(h:eD s)(a:∀x∈s.aC,x.pay<=9):xj s:=by
 unfold xj dP
 by_cases f:e8 s≠0
 ·rw[ax f];exact⟨0,V,rfl⟩
 ·rw[A f];dsimp only;rw[M0 h];obtain⟨w,d,o⟩:=CM h (ez s) (CW h);obtain⟨q,_⟩:=pD.1 d;obtain⟨z,r⟩:=(rY (dA _)).1 q;have m:=Yf h z λi v=>(r i v).2;have k:fb s (gm s)=bu (s.aC.map (·.pay)):=by unfold fb;rw[ou]
  have t:=kH 9 (s.aC.map (·.pay)) λy g=>by
   obtain⟨x,u,rfl⟩:=fK.1 g;have:=a x u;have:=(h.wt x u).p0;exact⟨M,M⟩
  rw[eT] at t;have c:=h.w5;have j:0<=fb s w:=by
   unfold fb;refine(kH 30 _ λy g=>?_).1;obtain⟨x,u,rfl⟩:=fK.1 g;have u:x∈s.aC:=by
    unfold aZ at u;obtain⟨i,_,v⟩:=Fc.1 u;exact fZ v
   have:=(h.wt x u).p0;have:=(h.wt x u).p1;exact⟨M,M⟩
  rw[<-o];exact⟨(fb s w).toNat,M,M⟩
theorem aex{x:Want}(c:(nR s x).2=0):(nR s x).1=mF s x:=by
 unfold nR at c ⊢
 by_cases q:e8 s≠0
 ·rw[ax q] at c;exact ar c q
 rw[A q] at c ⊢
 by_cases z:s.aC.length=5
 ·rw[ax z] at c;exact ar c V
 rw[A z] at c ⊢
 by_cases r:gy s.ay x≠0
 ·rw[ax r] at c;exact ar c r
 rw[A r] at c ⊢
 by_cases u:(cT s&&!cT (mF s x))=true
 ·rw[ax u] at c;exact ar c V
 rw[A u]
theorem ZL{f:Fi}{x:Ln}(h:∀w∈f.s.aC,w.pay<=9)(v:x.1=2->x.2.getD 3 0<=9)(r:x.1<3):∀w∈(qI f x).1.s.aC,w.pay<=9:=by
 unfold qI
 split
 ·unfold vE;split <;> exact h
 ·split
  ·unfold vH;split <;> exact h
  ·unfold sZ
   split
   ·rename_i z q c;intro w u;have e:=aex c;rw[e] at u;rcases fg.1 u with u | u
    ·exact h w u
    ·rw[dJ.1 u];exact v M
   ·exact h
theorem xt{f0:Fi}{q:dg}{out:Nat}(h:∀w∈f0.s.aC,w.pay<=9)(u:∀x∈q,x.1=2->x.2.getD 3 0<=9):∀n,∀w∈(dH f0 q out n).1.s.aC,w.pay<=9
 | 0=>h
 | n+1=>by
  have l:=xt h u (out:=out) n;cases e:q[n]? with
  | none=>rw[GQ e];exact l
  | some x=>
   rw[zt e];unfold pY
   split
   ·rename_i c;exact ZL l (u x (fZ e)) c.1
   ·exact l
structure IA(X:aM Tryz.prog):Prop where
 g:EZ X
 b:EY X
 t:E3 X
 w:OP X
theorem acP(h:IA X):ym X 2:=⟨V,λh=>ar h V,λh=>ar h V,λ_=>h.w,λh=>ar h V,λh=>ar h V,λh=>ar h V⟩
theorem ai0(h:IA X):ym X 6:=⟨V,λh=>ar h V,λh=>ar h V,λh=>ar h V,λh=>ar h V,λh=>ar h V,λ_=>h.b⟩
def xsN:List Ln:=[(2,[0,0,0,2]),(2,[1,-1,9,3]),(6,[])]
def Fy:List Bs:=[[111,107],[111,107],[48,32,49,58,32,53]]
def vz:List Bs:=[[119,97,110,116,32,48,32,48,32,48,32,50],[119,97,110,116,32,49,32,97,110,121,32,57,32,51],[98,101,115,116]]
def tM:List Want:=[⟨0,0,0,2⟩,⟨1,-1,9,3⟩]
theorem ah5:mG SL xsN 3=Fy:=iu
theorem Z7:xsN.map kh=vz:=iu
theorem ag4:dP (KA tM)=([0,1],5,0):=iu
theorem agh(h:IA X):∀x∈xsN,Ml x.1 x.2/\ym X x.1:=λx u=>by
 rcases eP.1 u with rfl | u
 ·exact⟨⟨V,rfl,λi n h=>by
   match i,h with
   | 0,h=>cases h;exact .inl V
   | 1,h=>cases h;exact .inl V
   | 2,h=>cases h;exact .inl V
   | 3,h=>cases h;exact .inl V⟩,acP h⟩
 ·rcases eP.1 u with rfl | u
  ·exact⟨⟨V,rfl,λi n h=>by
    match i,h with
    | 0,h=>cases h;exact .inl V
    | 1,h=>cases h;exact .inr ⟨rfl,rfl,rfl⟩
    | 2,h=>cases h;exact .inl V
    | 3,h=>cases h;exact .inl V⟩,acP h⟩
  ·rw[dJ.1 u];exact⟨⟨V,rfl,λi n h=>by cases h⟩,ai0 h⟩
theorem aa4(L:LH)(hR:IA X)(Q:kA L):Sp X 33 [] L (λv L'=>v=.bool true/\Dm L L'):=by
 refine Sp.e (n:=32) Tryz.func33 O λC hX u4 r=>?_;refine .de [8] 99 O (.cz 7 (.inr ⟨_,_,_,rfl⟩) O O ?_);intro F h0 _;have t:=cY (l:=tM) (e:=68) iA (aj L F (.cells (tM.flatMap gj).toArray 68));have f:=Le.put h0 (.cells (tM.flatMap gj).toArray 68)
 change W _ _ _ _ _ _ (L.put F (.cells (tM.flatMap gj).toArray 68))
 generalize L.put F (.cells (tM.flatMap gj).toArray 68)=L1 at t f ⊢;refine .o O (AX tM (some ⟨F,0,none⟩) 2 _ t V) ?_;rintro _ _ ⟨ps,rfl,j,hs⟩;have hB:=hR.b.abQ (KA tM) ps _ hs (adF tM V);rw[ag4,<-hX] at hB;refine .o O hB ?_;rintro _ _ ⟨z,bc,rfl,R,S⟩;rename_i g G;have hd:Dm L G:=(Dm.of_le (f.trans j)).trans S;refine .de [16] 99 O (.di 15 (p:=true) O O (.de [20] 99 O (.di 19 (p:=true) O O (.de [22] 99 O (.cz 21 (.inr ⟨_,_,_,rfl⟩) O O ?_)))));intro H c _;have T:=cY (l:=([0,1]:List Int)) (e:=3) aY (aj G H (.cells (([0,1]:List Int).flatMap bL).toArray 3));have y:=Le.put c (.cells (([0,1]:List Int).flatMap bL).toArray 3);refine .y O (oC z (some ⟨H,0,none⟩) bc 2 [0,1] [0,1] _ (R.le y) T V V) ?_;rw[jY rfl];have I:=hd.trans (.of_le y);have J:kA _:=I.cell Q
 change W _ _ _ _ _ _ (G.put H (.cells (([0,1]:List Int).flatMap bL).toArray 3))
 generalize G.put H (.cells (([0,1]:List Int).flatMap bL).toArray 3)=L4 at I J ⊢;refine .de [25] 99 O (.di 24 (p:=true) O O (.o O (qP _) ?_));rintro _ _ ⟨qb,rfl,q,B,_⟩;refine .o O (uA _) ?_;rintro _ _ ⟨qr,rfl,w,E⟩;refine .o O (AX [] none 0 _ Bm V) ?_;rintro _ _ ⟨s,rfl,k,u1⟩;rename_i L5;refine .de [29] 99 O (.cz 28 (.inr ⟨_,_,_,rfl⟩) O O ?_);intro o d _;have K:=cY (l:=vz) (e:=9) dR (aj L5 o (.cells (vz.flatMap dv).toArray 9));have m:=Le.put d (.cells (vz.flatMap dv).toArray 9)
 change W _ _ _ _ _ _ (L5.put o (.cells (vz.flatMap dv).toArray 9))
 generalize L5.put o (.cells (vz.flatMap dv).toArray 9)=L6 at K m ⊢;refine .de [30] 99 O (.cz 29 (.inr ⟨_,_,_,rfl⟩) O O ?_);intro D u2 _;have qT:=cY (l:=Fy) (e:=9) dR (aj L6 D (.cells (Fy.flatMap dv).toArray 9));have a:=Le.put u2 (.cells (Fy.flatMap dv).toArray 9)
 change W _ _ _ _ _ _ (L6.put D (.cells (Fy.flatMap dv).toArray 9))
 generalize L6.put D (.cells (Fy.flatMap dv).toArray 9)=L7 at qT a ⊢;have hw:yM X (dZ eK ir qK vz) xsN:=by
  rw[<-Z7];exact Gp DI Ib Ew V (agh hR) λi x u h6=>H8 (mZ (nA Ew) i) (xt (f0:=SL) (by simp[KA]) (λx u=>by
   rcases eP.1 u with rfl | u
   ·intro _;decide
   ·rcases eP.1 u with rfl | u
    ·intro _;decide
    ·rw[dJ.1 u];intro h;exact ar h V) i)
 have hS:=afQ eK ir qK vz xsN qb qr s (some ⟨o,0,none⟩) (some ⟨D,0,none⟩) 3 3 L7 (J.le (q.trans (w.trans (k.trans (m.trans a))))) (B.le (w.trans (k.trans (m.trans a)))) (E.le (k.trans (m.trans a))) (u1.le (m.trans a)) (K.le a) hw (show bz L7 (some ⟨D,0,none⟩) 1 dv (mG SL xsN 3) by rw[ah5];exact qT);rw[<-hX] at hS;refine .o O hS ?_;rintro _ _ ⟨rfl,u3⟩;refine .D r O ?_;exact⟨rfl,(I.trans (.of_le (q.trans (w.trans (k.trans (m.trans a)))))).trans u3⟩
theorem GB(b:Nat)(ad:bA)(K:Nat)(l:aH)(n0 k:Nat)(L:LH)(h:gQ L b ad K l n0)(hn:n0<=900000)(hl:l.length<=140737488355328)(hk:k<=100):
  Sp X 28 [pt b,.int .i64 k] L (λv R=>∃o a c m,v=.slice a (cm o).length c/\Perm k o/\m<=n0+k/\Le (L.bT b) R/\gQ R b ad K l m/\(cm o).length<=c/\bK (R.bT b) a (cm o)):=by
 refine Sp.e (n:=42) Tryz.func28 O λC hX v7 r=>?_;refine .g O ?_;refine .l (λw E B R=>∃(i:Nat) (v:Value),w=k - i/\i<=k/\bE L 1 3 bL R v (cm (List.range i))/\E=[(0,.v (pt b)),(1,.v (.int .i64 k)),(5,.v v),(6,.v (.int .i64 i))]/\B=[]) ⟨0,_,rfl,M,bE.nil (Le.refl _),rfl,rfl⟩ ?_
 rintro _ _ _ L1 ⟨i,v,rfl,hi,hg,rfl,rfl⟩ again;refine .I O (λe1=>W.go 99 O ?_) (λe1=>W.go 99 O ?_)
 ·have u5:i<k:=by simpa using e1
  refine .e O (Ef.grow O O O O O O O O O aY gf hg (ls:=[(i:Int)]) (.own O O O O) (by simp[cm];omega)) ?_;rintro _ _ _ ⟨v',rfl,rfl,q6,-⟩;refine .g O ?_;exact .a (again _ _ _ _ M ⟨i+1,v',rfl,M,by rw[nI,CN];exact q6,rfl,rfl⟩) ⟨rfl,rfl,rfl,aJ some (cr M),aE⟩
 have u5:i=k:=by simp at e1;omega
 subst u5;clear again;obtain⟨u6,ob,s,u7⟩:=hg;have q7:=h.le u6;refine .l (λw E B R=>∃(q m:Nat) (o:aU),w=q/\q<=i/\m+q=n0+i/\Perm i o/\Le (L.bT b) R/\gQ R b ad K l m/\dB R 1 3 v (cm o).length ((cm o).flatMap bL) ob/\E=[(0,.v (pt b)),(5,.v v),(7,.v (.int .i64 ((q:Int) - 1)))]/\B=[]) ⟨i,n0,List.range i,rfl,dA _,rfl,TE i,(gC _ _).trans u6,q7,s,rfl,rfl⟩ ?_ (by exact⟨rfl,rfl,aJ some (Ra O M M),aE⟩)
 clear s;rintro q _ _ L2 ⟨_,m,o,rfl,hq,hm,hp,u1,u2,s,rfl,rfl⟩ again;have v8:(cm o).length=i:=by rw[jF,hp.len]
 refine .I O (λe2=>W.go 99 O ?_) (λe2=>W.go 99 O ?_)
 ·obtain⟨q,rfl⟩:∃r,q=r+1:=⟨q - 1,by simp at e2;omega⟩;have q8:0<q:=by simp at e2;omega
  rw[show((q+1:Nat):Int) - 1=(q:Int) by omega];cases ob with
  | none=>obtain⟨_,h0,_⟩:=s;omega
  | some f=>
   have u3:=u7 f rfl;have z:f≠b:=h.off u3;obtain⟨cp,ca,rfl,u8,v9,z1,z2,v5⟩:=id s;refine .c O (sB b ad K l m q L2 u2 M hl M) ?_;rintro _ _ ⟨⟨y,rfl,hy⟩,D,q9⟩;rename_i S;have v0:=u2.next D q9;have F:dB S 1 3 (.slice (some ⟨f,0,none⟩) (cm o).length cp) (cm o).length ((cm o).flatMap bL) (some f):=s.keep λG J=>by cases J;exact D _ z
   have v6:S f=some (.cells ca 3 (0,0),true):=(D _ z).trans u8;have u9:=F.at aY;obtain⟨xq,q0⟩:∃x,o[q]?=some x:=⟨_,bX (by rw[hp.len];omega)⟩;obtain⟨xy,j⟩:∃x,o[y]?=some x:=⟨_,bX (by rw[hp.len];omega)⟩;have cq:S.cell? (Addr.add ⟨f,0,none⟩ q)=some (.int .i64 xq):=u9.int (by rw[cm,im,q0];rfl);have cy:S.cell? (Addr.add ⟨f,0,none⟩ y)=some (.int .i64 xy):=u9.int (by rw[cm,im,j];rfl);have T:q<(cm o).length:=M
   have t:y<(cm o).length:=M
   refine .g O (.f (.run' [0,1,2,3,4,5,8,9] O (.u 6 O (Vf.b O O (t)) (.u 10 O (Vf.b O O (T)) ?_))));have q1:Addr.add ⟨f,0,none⟩ q=⟨f,q,none⟩:=QY
   have q2:Addr.add ⟨f,0,none⟩ y=⟨f,y,none⟩:=QY
   obtain⟨c4,p,q3,H⟩:=F.set (d:=q) (x:=(xy:Int)) T;rw[NY] at H;obtain⟨c5,q4,q5,u⟩:=H.set (d:=y) (x:=(xq:Int)) (by rw[jF,Fb];rw[jF] at t;exact t);rw[NY] at u;have v1:=hp.swap (i:=q) (k:=y) q0 j;have I:∀(L4:LH) (x y:Obj),L4=(S.put f x).put f y->∀G,G≠f->L4 G=S G:=λL4 x y e G J=>by rw[e,aB _ _ J,aB _ _ J]
   have I:=I _ (.cells (bY c4 q [.int .i64 xy]) 3) (.cells (bY c5 y [.int .i64 xq]) 3) rfl;have fin:∃(q' m':Nat) (o':aU),q=q'/\q'<=i/\m'+q'=n0+i/\Perm i o'/\Le (L.bT b) ((S.put f (.cells (bY c4 q [.int .i64 xy]) 3)).put f (.cells (bY c5 y [.int .i64 xq]) 3))/\gQ ((S.put f (.cells (bY c4 q [.int .i64 xy]) 3)).put f (.cells (bY c5 y [.int .i64 xq]) 3)) b ad K l m'/\dB ((S.put f (.cells (bY c4 q [.int .i64 xy]) 3)).put f (.cells (bY c5 y [.int .i64 xq]) 3)) 1 3 (.slice (some ⟨f,0,none⟩) (cm o).length cp) (cm o').length ((cm o').flatMap bL) (some f)/\
     [(0,SV.v (pt b)),(5,SV.v (.slice (some ⟨f,0,none⟩) (cm o).length cp)),(7,SV.v (.int .i64 ((q:Int) - 1)))]=[(0,.v (pt b)),(5,.v (.slice (some ⟨f,0,none⟩) (cm o).length cp)),(7,.v (.int .i64 ((q':Int) - 1)))]/\([]:List (Option Bx))=[]:=by
    refine⟨q,m+1,_,rfl,M,M,v1,λG x Q=>?_,⟨?_,?_⟩,u,rfl,rfl⟩
    ·have J:G≠f:=λe=>by subst e;rw[bW z,u3] at Q;cases Q
     rw[I _ J];exact(ix u1 (iw D)) _ _ Q
    ·obtain⟨sd,g⟩:=v0.blk;exact⟨sd,by rw[I _ (dG z)];exact g⟩
    ·refine h.ints.le λG x Q=>?_;have v2:G≠b:=λe=>by subst e;unfold LH.bT at Q;rw[ax rfl] at Q;cases Q
     have J:G≠f:=λe=>by subst e;rw[bW z,u3] at Q;cases Q
     rw[bW v2,I _ J];exact(ix u1 (iw D)) _ _ Q
   refine DD.IG 7 11 rfl rfl rfl rfl rfl rfl rfl rfl (Ef.val rfl (Vf.l rfl (by exact cy))) (Ef.val rfl (Vf.l rfl (by exact cq))) dV dV ?_ ?_
   ·rintro _ _ _ ⟨rfl,rfl,u4⟩;obtain rfl:=u4.symm;refine .a 11 rfl (Ef.val rfl (Vf.l rfl (cq))) dV ?_;rintro _ _ _ ⟨rfl,rfl,rfl⟩;refine .u 12 rfl (Vf.b rfl rfl (T)) (.a 13 rfl (Ef.eR (aJ (λa=>some (SV.v (.pointer (some a)))) q1) ⟨_,rfl,rfl⟩ rfl p rfl q3 (bQ rfl)) (dV) ?_);rintro _ _ _ ⟨rfl,rfl,rfl⟩;refine .u 14 rfl (Vf.b rfl rfl (t)) (.a 15 rfl (Ef.eR (aJ (λa=>some (SV.v (.pointer (some a)))) q2) ⟨_,rfl,rfl⟩ rfl q4 rfl q5 (bQ rfl)) (dV) ?_);rintro _ _ _ ⟨rfl,rfl,rfl⟩;refine .fin O ?_;refine .g O ?_;exact .a (again _ _ _ _ M fin) (by exact⟨rfl,rfl,aJ some (Ra O M M),aE⟩)
   ·rintro _ _ _ ⟨rfl,rfl,u4⟩;obtain rfl:=u4.symm;refine .a 7 rfl (Ef.val rfl (Vf.l rfl (cy))) dV ?_;rintro _ _ _ ⟨rfl,rfl,rfl⟩;refine .u 12 rfl (Vf.b rfl rfl (T)) (.a 13 rfl (Ef.eR (aJ (λa=>some (SV.v (.pointer (some a)))) q1) ⟨_,rfl,rfl⟩ rfl p rfl q3 (bQ rfl)) (dV) ?_);rintro _ _ _ ⟨rfl,rfl,rfl⟩;refine .u 14 rfl (Vf.b rfl rfl (t)) (.a 15 rfl (Ef.eR (aJ (λa=>some (SV.v (.pointer (some a)))) q2) ⟨_,rfl,rfl⟩ rfl q4 rfl q5 (bQ rfl)) (dV) ?_);rintro _ _ _ ⟨rfl,rfl,rfl⟩;refine .fin O ?_;refine .g O ?_;exact .a (again _ _ _ _ M fin) (by exact⟨rfl,rfl,aJ some (Ra O M M),aE⟩)
 ·have q8:q<=1:=by simp at e2;omega
  obtain⟨a,c,rfl,v4⟩:=s.slice;refine .r r O ?_;refine⟨o,a,c,m,rfl,hp,M,u1,u2,v4,?_⟩;cases ob with
  | none=>obtain⟨_,h0,_⟩:=s;rw[Dt.1 h0];exact bz.empty
  | some f=>
   have z:f≠b:=h.off (u7 f rfl);exact(s.keep (L':=L2.bT b) λG J=>by cases J;exact bW z).at aY
theorem A6{k:dp}:EZ (jV Tryz.prog k w):=⟨aeq⟩
theorem A7:E3 X:=⟨Zj⟩
theorem ZW{p:Wp}(z:eE L s p)(f:k<s.ay.length):∃v a c,p.la=some v/\L.cell? (v.add k)=some (.slice a s.ay[k].length c)/\bK L a s.ay[k]/\s.ay[k].length<=c:=by
 have o:s.ay[k]?=some s.ay[k]:=bX f;obtain⟨v,u⟩:=z.lo.addr f;have q:=z.lo;rw[u] at q;obtain⟨a,c,b,y,x⟩:=q.row o;exact⟨v,a,c,u,b,y,x⟩
theorem aa2{p:Wp}{x:Want}(h:eE L s p)(u:bz L d 4 gj (s.aC++[x]))(b:(s.aC++[x]).length<=n):eE L (mF s x) ⟨p.la,p.sa,d,p.lc,p.sc,n⟩:=⟨h.lo,h.st,u,b⟩
theorem aa3{x:Want}(h:eD s)(k:s.aC.length≠5)(u:gy s.ay x=0):eD (mF s x):=
 ⟨h.l1,h.l3,h.lf,h.st,h.sr,h.k0,h.k3,YN,λy g=>by
  rcases fg.1 g with g | g
  ·exact h.wt y g
  ·rw[dJ.1 g];exact uX u⟩
theorem If(L:LH):eE L MD ⟨none,none,none,0,0,0⟩:=⟨⟨[],rfl,bz.empty,λx u=>by cases u⟩,bz.empty,bz.empty,dA _⟩
theorem aep{X:aM Tryz.prog}(s:Sw)(p:Wp)(x:Want)(L:LH)(h:eE L s p)(hn:Sm s):Sp X 225 [gZ s p,.agg (gj x).toArray] L (SwQ (nR s x) L):=by
 refine Sp.enter (n:=76) Tryz.func225 rfl rfl rfl rfl λC hX _ hL0 r=>?_;refine W.go 99 rfl ?_;refine W.Pe rfl rfl rfl (Ef.call rfl (Em s p none none 0 0 [] [] L h hn bz.empty bz.empty (by simp) (by simp))) ?_;rintro _ _ _ ⟨v0,rfl,rfl,hle,hq⟩;refine W.go 99 rfl ?_;rename_i L1;rw[xF] at hq;rcases hq with⟨he,rfl⟩ | ⟨he,rfl⟩
 ·have hCE:nR s x=(MD,e8 s):=by unfold nR;rw[if_pos he]
  rw[hCE] at r;refine W.go 99 rfl ?_;refine W.split rfl rfl rfl (λe1=>W.go 99 rfl ?_) (λe1=>W.go 99 rfl ?_)
  ·refine W.ret r rfl rfl ?_;exact⟨⟨none,none,none,0,0,0⟩,rfl,If _,hle⟩
  ·simp at e1;exact absurd e1 he
 have hok:=nA he;have hl3:=hok.l3;have hst3:=hok.st;have hw5:=hok.w5;have hAW:nR s x=if s.aC.length=5 then(MD,6) else if gy s.ay x≠0 then(MD,gy s.ay x) else if cT s&&!cT (mF s x) then(MD,9) else(mF s x,0):=by unfold nR;rw[if_neg (by simp[he])]
 rw[hAW] at r;refine W.go 99 rfl ?_;refine W.split rfl rfl rfl (λe1=>?_) (λe1=>?_)
 ·simp at e1
 refine W.kI (E':=[(2,.p 0 0),(3,.p 1 0),(4,.p 2 0),(18,.lit false)]) (B':=[some ⟨cL (.v (gZ s p)),52⟩,some ⟨cL (.v (.agg (gj x).toArray)),68⟩,some ⟨List.map SV.v Hx.z.cells.toList,52⟩]) (by exact⟨rfl,rfl,rfl,rfl,trivial⟩) (by exact⟨rfl,rfl,rfl,trivial⟩) ?_;refine W.go 99 rfl ?_;refine W.split rfl rfl rfl (λe2=>W.go 99 rfl ?_) (λe2=>W.go 99 rfl ?_)
 ·have h5:s.aC.length=5:=by have:((s.aC.length:Nat):Int)=5:=(by simpa using e2);omega
  rw[if_pos h5] at r;refine W.ret r rfl rfl ?_;exact⟨⟨none,none,none,0,0,0⟩,rfl,If _,hle⟩
 have h5:s.aC.length≠5:=by have:¬((s.aC.length:Nat):Int)=5:=(by simpa using e2);omega
 rw[if_neg h5] at r;refine W.Pe rfl rfl rfl (Ef.call rfl (BF s p x L1 (h.le hle) hn)) ?_;rintro _ _ _ ⟨_,rfl,rfl,rfl,rfl⟩;refine W.go 99 rfl ?_;refine W.split rfl rfl rfl (λe3=>W.go 99 rfl ?_) (λe3=>W.go 99 rfl ?_)
 ·have h6:gy s.ay x≠0:=by simpa using e3
  rw[if_pos h6] at r;refine W.ret r rfl rfl ?_;exact⟨⟨none,none,none,0,0,0⟩,rfl,If _,hle⟩
 have h6:gy s.ay x=0:=by simpa using e3
 rw[if_neg (by simp[h6])] at r;have hokx:=aa3 hok h5 h6;have hs1:=h.le hle;have hcap:=h.cap;refine W.drawn (by kernel_rfl) L1 (Le.refl _) ?_;refine DD.run' [0,1,2,3,4,5,6,7,9,10] rfl ?_;refine DD.vf 8 rfl rfl rfl rfl rfl (Vf.slice3 rfl rfl rfl Tryz.underlying50 af1 (Nat.le_refl _) hcap) ?_;refine DD.act 11 rfl rfl rfl rfl rfl (Ef.abL rfl rfl rfl rfl rfl rfl rfl rfl rfl iA hs1.wt (ls:=[x]) (.own rfl rfl rfl rfl) (by simp) (by simp;omega)) ((by rintro _ _ _ ⟨_,_,_,rfl,rfl,hn,rfl,_⟩;exact⟨Le.put hn _,rfl,.inl rfl⟩)) ?_;rintro _ _ _ ⟨b5,c5,cap5,rfl,rfl,hb5,rfl,hown5⟩;refine DD.run' [12] rfl ?_;refine DD.act 13 rfl rfl rfl rfl rfl (Ef.lG rfl) (by rintro _ _ _ ⟨rfl,rfl,rfl⟩;exact⟨Le.put hb5 _,rfl,.inr rfl⟩) ?_;rintro _ _ _ ⟨rfl,rfl,rfl⟩;refine .fin rfl ?_;refine W.go 99 rfl ?_;have hL12:Le L1 (L1.put b5 (Obj.cells c5 68)):=Le.put hb5 _;generalize L1.put b5 (Obj.cells c5 68)=L2 at hL12 hown5 ⊢;have hwx:=hown5.at iA;obtain⟨_,_,hce,hcp5⟩:=hown5.slice;cases hce;have hs2:=hs1.le hL12;have hsx:eE L2 (mF s x) ⟨p.la,p.sa,some ⟨b5,0,none⟩,p.lc,p.sc,cap5⟩:=aa2 hs2 hwx hcp5;refine W.Pe rfl rfl rfl (Ef.call rfl (KL s p L2 hs2 hok)) ?_;rintro _ _ _ ⟨_,rfl,rfl,rfl,hl23⟩;refine W.go 99 rfl ?_;rename_i L3;apply W.cut (λE B L'=>Le L2 L'/\(cT s&&!cT (mF s x))=false/\gR E [(2,.p 0 0),(4,.p 2 0),(9,.p 3 0),(57,.v (.slice p.la s.ay.length p.lc)),(58,.v (.int .i64 (s.ay.length:Nat))),(59,.v (.int .i64 0))]/\mV B [some ⟨cL (.v (gZ s p)),52⟩,some ⟨cL (.v (.agg (gj x).toArray)),68⟩,some ⟨List.map SV.v Hx.z.cells.toList,52⟩,some ⟨[.v (.slice none 0 0),.v (.slice p.sa s.aO.length p.sc),.v (.int .i64 s.jO),.v (.slice (some ⟨b5,0,none⟩) (s.aC++[x]).length cap5)],52⟩])
 rotate_left
 ·intro rest;cases hs:cT s with
  | false=>
   refine W.di 49 (p:=false) rfl rfl ?_;refine W.go 99 rfl ?_;exact rest _ _ _ ⟨hl23,by rw[hs];rfl,by exact⟨rfl,rfl,rfl,rfl,rfl,rfl,trivial⟩,by exact⟨rfl,rfl,rfl,rfl,trivial⟩⟩
  | true=>
   refine W.di 49 (p:=true) rfl rfl ?_;refine W.go 99 rfl ?_;refine W.Pe rfl rfl rfl (Ef.call rfl (KL (mF s x) ⟨p.la,p.sa,some ⟨b5,0,none⟩,p.lc,p.sc,cap5⟩ L3 (hsx.le hl23) hokx)) ?_;rintro _ _ _ ⟨_,rfl,rfl,rfl,hl34⟩;rename_i L4;cases hsw:cT (mF s x) with
   | false=>
    rw[if_pos (by rw[hs,hsw];rfl)] at r;refine W.go 99 rfl ?_;refine W.split rfl rfl rfl (λc=>?_) (λc=>absurd c (by decide));refine W.go 99 rfl ?_;refine W.ret r rfl rfl ?_;exact⟨⟨none,none,none,0,0,0⟩,rfl,If _,hle.trans (hL12.trans (hl23.trans hl34))⟩
   | true=>
    refine W.go 99 rfl ?_;refine W.split rfl rfl rfl (λc=>absurd c (by decide)) (λc=>?_);refine W.go 99 rfl ?_;exact rest _ _ _ ⟨hl23.trans hl34,by rw[hs,hsw];rfl,by exact⟨rfl,rfl,rfl,rfl,rfl,rfl,trivial⟩,by exact⟨rfl,rfl,rfl,rfl,trivial⟩⟩
 rintro E B L4 ⟨hl24,hcond,hE,hB⟩;rw[if_neg (by rw[hcond];decide)] at r;refine W.kI hE hB ?_;have hs4:=hs2.le hl24;refine W.loop (λm E B L'=>∃(k:Nat) (v:Value),m=s.ay.length - k/\k<=s.ay.length/\vN L4 22 1 bL L' v (s.ay.take k)/\
   E=[(2,.p 0 0),(4,.p 2 0),(9,.p 3 0),(57,.v (.slice p.la s.ay.length p.lc)),(58,.v (.int .i64 (s.ay.length:Nat))),(59,.v (.int .i64 k))]/\B=[some ⟨cL (.v (gZ s p)),52⟩,some ⟨cL (.v (.agg (gj x).toArray)),68⟩,some ⟨List.map SV.v Hx.z.cells.toList,52⟩,some ⟨[.v v,.v (.slice p.sa s.aO.length p.sc),.v (.int .i64 s.jO),.v (.slice (some ⟨b5,0,none⟩) (s.aC++[x]).length cap5)],52⟩])
  ⟨0,_,rfl,by omega,vN.nil (Le.refl _),rfl,rfl⟩ (by exact⟨rfl,rfl,rfl,rfl,rfl,rfl,trivial⟩) (by exact⟨rfl,rfl,rfl,rfl,trivial⟩) ?_
 rintro _ _ _ L5 ⟨k,v,rfl,hk,hgr,rfl,rfl⟩ again;refine W.go 99 rfl ?_;refine W.split rfl rfl rfl (λe4=>W.go 99 rfl ?_) (λe4=>W.go 99 rfl ?_)
 ·have hkl:k<s.ay.length:=by simpa using e4
  obtain⟨oa,a,c',hla,hcell,hsl',hcp⟩:=ZW hs4 hkl;have hlfk:=hok.lf _ (List.getElem_mem hkl);have htk:s.ay.take (k+1)=s.ay.take k++[s.ay[k]]:=List.take_succ_eq_append_getElem hkl;generalize s.ay[k]=lf at *;have hl4:=hlfk.l4;have hl45:=hgr.hle;obtain⟨J,rs,hLJ,hrs,hgo,hrk⟩:=hgr;have hrl:rs.length<=3:=by
   have h1:=congrArg List.length hrs;rw[List.length_map,List.length_take] at h1;omega
  obtain⟨va,vc,rfl,_⟩:=hgo.slice;obtain⟨qa,qb,qc,qd,qe,qf⟩:=p;obtain rfl:qa=some oa:=hla;have ZY:=(xh (X:=C.X) a c' lf J (hsl'.le hLJ) (by omega)).frame hgo.1;refine W.vf rfl rfl rfl rfl (Vf.NH rfl rfl rfl rfl rfl rfl rfl (hkl)) ?_;refine W.go 99 rfl ?_;refine W.vf rfl rfl rfl rfl (Vf.load rfl rfl rfl (hl45.cell hcell)) ?_;refine W.go 99 rfl ?_;refine W.drawn (by kernel_rfl) J hgo.1 ?_;refine DD.run' [0,1,2] rfl ?_;refine DD.act 3 rfl rfl rfl rfl rfl (Ef.call rfl (ZY)) ((by rintro _ _ _ ⟨_,rfl,rfl,J',hg,hpo⟩;exact⟨hg.1.trans hpo.le,rfl,.inl rfl⟩)) ?_;rintro _ _ _ ⟨v6,rfl,rfl,J',hg,hpo⟩;rename_i L6;have hgJ:=hgo.call hpo;obtain⟨ua,uc,rfl,huc⟩:=hg.slice;refine DD.run' [4] rfl ?_;refine DD.act 5 rfl rfl rfl rfl rfl (Ef.grow rfl rfl rfl rfl rfl rfl rfl rfl rfl gh Nn hgJ (ls:=[((ua,lf.length,uc),lf)]) (.own rfl rfl rfl rfl) (by simp;omega)) ((by rintro _ _ _ ⟨_,rfl,rfl,hg',_⟩;exact⟨hg.1.trans hg'.1,rfl,.inl rfl⟩)) ?_;rintro _ _ _ ⟨v7,rfl,rfl,hg7,_⟩;obtain⟨va7,vc7,rfl,_⟩:=hg7.slice;refine DD.run' [6] rfl ?_;refine DD.act 7 rfl rfl rfl rfl rfl (Ef.lG rfl) (by rintro _ _ _ ⟨rfl,rfl,rfl⟩;exact⟨hg.1.trans hg7.1,rfl,.inr rfl⟩) ?_;rintro _ _ _ ⟨rfl,rfl,rfl⟩;refine .fin rfl ?_;refine W.go 99 rfl ?_;refine W.again (again _ _ _ _ (by omega) ⟨k+1,_,rfl,by omega,⟨J',rs++[((ua,lf.length,uc),lf)],hLJ.trans hg.1,?_,hg7,?_⟩,rfl,rfl⟩) (by exact⟨rfl,rfl,rfl,rfl,rfl,congrArg some (cr (by omega)),trivial⟩) (by exact⟨rfl,rfl,rfl,rfl,trivial⟩)
  ·rw[List.map_append,hrs,htk];rfl
  ·intro z hz;rcases List.mem_append.1 hz with hz | hz
   ·exact(hrk z hz).le hg.1
   ·rw[List.mem_singleton.1 hz];exact⟨(hg.at aY).2,rfl,huc⟩
 ·have hke:k=s.ay.length:=by simp at e4;omega
  subst hke;rw[List.take_length] at hgr;have hl45:=hgr.hle;obtain⟨va,vc,rfl⟩:=hgr.slice;refine W.Pe rfl rfl rfl (Ef.call rfl (xh p.sa p.sc s.aO L5 (hs4.st.le hl45) (by omega))) ?_;rintro _ _ _ ⟨v8,rfl,rfl,hg8⟩;rename_i L8 _;obtain⟨ua,uc,rfl,_⟩:=hg8.slice;refine W.go 99 rfl ?_;refine W.ret r rfl rfl ?_;refine⟨⟨va,ua,some ⟨b5,0,none⟩,vc,uc,cap5⟩,rfl,⟨(hgr.at.2).le hg8.1,(hg8.at aY).2,hwx.le (hl24.trans (hl45.trans hg8.1)),hcp5⟩,hle.trans (hL12.trans (hl24.trans (hl45.trans hg8.1)))⟩
theorem Yp:OP X:=⟨aep⟩
theorem xK{Post:dp}{W0:World}:EY (jV Tryz.prog Post W0):=⟨λs p L h y=>(aba s p L h y).mono (λ_ _ ⟨a,c,q,z,r⟩=>⟨a,c,q,z,r⟩) λ_ _ h=>h⟩
theorem A3{r:LH}(h:Go.Mz.Post L R J r)(q:L n=none)(z:R n≠none):J n=none:=qF λe=>(h.fresh n e).elim (λg=>g q) z
def Bo(ws:dt)(o:aU):List Want:=o.map λj=>ws.getD j ⟨0,0,0,0⟩
theorem aa1{n:dt}(h:Perm n.length q):n.Perm (Bo n q):=by
 have u:(Bo n q).Perm ((List.range n.length).map λj=>n.getD j ⟨0,0,0,0⟩):=h.p.map _;have z:(List.range n.length).map (λj=>n.getD j ⟨0,0,0,0⟩)=n:=by
  apply yU;intro j;rw[im]
  by_cases t:j<n.length
  ·rw[Fj t,mg,dL,bX t];rfl
  ·rw[mh (by rw[vt];omega),mh M];rfl
 rw[z] at u;exact u.symm
theorem aej{n:dt}(h:Perm n.length q):(Bo n q).length=n.length:=by unfold Bo;rw[eT,h.len]
theorem aeD(s:Sw):(ly ((dP s).1.map λ(n:Nat)=>(n:Int))).length<=65:=by
 obtain⟨v,z⟩:=yE s;have h:=JC (q:=(dP s).1.map cu) λw u=>by
  obtain⟨n,y,rfl⟩:=fK.1 u;have:=z n y;exact lI (zL ⟨n,M⟩).2.2.1 V
 rw[<-xP,eT] at h;exact lI h M
theorem Yn{k:dp}:IA (jV Tryz.prog k w):=⟨A6,xK,A7,Yp⟩
theorem RQ{Post:dp}{W0:World}(la:bA)(lc:Nat)(l:aH)(L:LH)(p9:kA L)(c9:bK L la l)(hl:l.length<=140737488355328)
  (hQ:∀v L' w,(v=.bool true/\Dm L L')->Sub L' w->mI W0 w->Post v w):
  pJ Tryz.prog Post W0 (G (Frame.enter Tryz.prog 4 [.slice la l.length lc].toArray .normal) []) L:=by
 refine Hn (n:=216) (s:=2) Tryz.func4 O O aN O O hQ λC hX _ k6 r=>?_;refine .o O (Ix la lc l L c9) ?_;rintro _ _ ⟨b,rfl,w0,o0,v5⟩;have hh:gM L _ b la lc l 0:=⟨o0,w0,v5.blk,c9⟩;refine .o O (MQ b la lc l 0 2 0 _ hh.dq V hl V V V) ?_;rintro _ _ ⟨s,ps,m,D,os,rfl,z8,hm,hO⟩;rename_i L1;have z9:gM D L1 b la lc l m:=⟨hO.dl,hO.db,hO.dq.blk,hO.hi⟩;have d1:=z9.all;have j0:Le L (L1.bT b):=(hh.bT.trans hO.d0).trans z9.bT;obtain⟨sl,u,K,sw⟩:=s;obtain rfl:sw=[]:=Dt.1 (Nat.le_zero.1 z8.w);have t0:=z8.e;have u7:=nA t0;have w2:=u7.sm;have j1:=u7.l1;have f7:=u7.l3;have w3:=u7.st;have f8:=u7.lf;simp only at j1 f7 w3 f8;have t3:eE (L1.bT b) ⟨sl,u,K,[]⟩ ps:=by
  have w4:=hO.dq.blk;have w5:=hO.sw.keep (L':=L1.bT b) λq hq=>bW λe=>by
   subst hq e;obtain⟨_,c,_,g,_⟩:=hO.sw;obtain⟨_,g2⟩:=w4;rw[g] at g2;cases g2
  exact⟨hO.lo.le z9.bT,w5.at aY,hO.wt.le z9.bT,hO.cp⟩
 clear z9 hO z8 hh o0 v5;refine .g O ?_;have hD:=(Is (X:=C.X) ⟨sl,u,K,[]⟩ ps (L1.bT b) t3 w2).frame (gC L1 b);refine .c O hD ?_;rintro v2 _ ⟨K2,⟨pw,I,w6⟩,hP⟩;rename_i L2;obtain⟨rfl,d2,t4,d3,f9⟩:=w6;obtain⟨a0,ow,j2,d4⟩:=f9;have j3:=hP.all (gC L1 b) (d2.trans a0);have j4:I b=none:=by
  have h1:=A3 hP d1.jb d1.zp;cases e:I b with
  | none=>rfl
  | some x=>rw[a0 _ _ e] at h1;cases h1
 have t5:gM I L2 b la lc l m:=⟨a0.trans hP.le,j4,by obtain⟨sd,g⟩:=d1.blk;exact⟨sd,j3 _ _ g⟩,d1.ints.le d2⟩;have o3:=j2.le hP.le;have j5:=t3.le d2;obtain⟨xa,F,xw,ya,ys,yw⟩:=pw;have w7:=j0.trans d2;clear hD j2 hP a0 j3 d1 t3 j0 d2 j4;refine .g O (.cz 5 (.inl ⟨_,rfl⟩) O O ?_);intro d T _;have w8:I d=none:=bN t5.le T;have o4:=t5.put T (.cells (cX ⟨sl,u,K,[]⟩ ⟨xa,F,xw,ya,ys,yw⟩).toArray 52);have d5:=o3.le (Le.put T (.cells (cX ⟨sl,u,K,[]⟩ ⟨xa,F,xw,ya,ys,yw⟩).toArray 52));have j6:=aj L2 d (.cells (cX ⟨sl,u,K,[]⟩ ⟨xa,F,xw,ya,ys,yw⟩).toArray 52);clear t5 o3 T;refine .loop (λw E B L'=>∃(i:Nat) (J:dt) (xw:bA) (yw m':Nat) (ow:bD),w=4 - i/\i<=4/\J.length=i/\(∀x∈J,gy sl x=0/\x.pay<=9)/\m'<=m+20 *i/\gM I L' b la lc l m'/\dB L' 4 68 (.slice xw J.length yw) J.length (J.flatMap gj) ow/\(∀o,ow=some o->I o=none)/\L' d=some (.cells (cX ⟨sl,u,K,J⟩ ⟨xa,F,xw,ya,ys,yw⟩).toArray 52 (0,0),true)/\
   E=[(3,.v (pt b)),(4,.p 0 0),(5,.v (pt d)),(6,.v (.int .i64 (bu (J.map (·.pay))))),(7,.v (.int .i64 i))]/\
   B=[some ⟨(cX ⟨sl,u,K,[]⟩ ps).map .v,52⟩])
  ⟨0,[],xw,yw,m,ow,rfl,V,rfl,U,M,o4,d5,d4,j6,rfl,rfl⟩ (by exact⟨rfl,rfl,rfl,rfl,rfl,aE⟩) sV ?_
 clear o4 d5 d4 j6;rintro _ _ _ L3 ⟨i,J,xw,yw,m1,ow,rfl,hi,d6,u9,u1,z2,v6,d4,d7,rfl,rfl⟩ again;apply W.cut (λE B L'=>∃(m2:Nat) (q:Bool),(q=true->i<4)/\m2<=m1+1/\gM I L' b la lc l m2/\dB L' 4 68 (.slice xw J.length yw) J.length (J.flatMap gj) ow/\L' d=some (.cells (cX ⟨sl,u,K,J⟩ ⟨xa,F,xw,ya,ys,yw⟩).toArray 52 (0,0),true)/\
   gR E [(3,.v (pt b)),(4,.p 0 0),(5,.v (pt d)),(6,.v (.int .i64 (bu (J.map (·.pay))))),(7,.v (.int .i64 i)),(40,.lit q)]/\
   mV B [some ⟨(cX ⟨sl,u,K,[]⟩ ps).map .v,52⟩])
 rotate_left
 ·intro rest;refine .de [37] 99 O ?_
  by_cases h4:4<=i
  ·refine .di 36 (p:=false) O (aJ some (mB (show¬(i:Int)<4 by omega))) ?_;refine .go 5 O ?_;exact rest _ _ _ ⟨m1,false,λh=>(by cases h),M,z2,v6,d7,uU,sV⟩
  ·refine .di 36 (p:=true) O (aJ some (jY (show(i:Int)<4 by omega))) ?_;refine .o O (IC b la lc l m1 3 L3 z2.dq M hl V) ?_;rintro _ _ ⟨⟨q,rfl⟩,hk,hs⟩;have j7:∀q,ow=some q->q≠b:=λq hq e=>by
    subst hq e;obtain⟨_,c,_,g,_⟩:=v6;obtain⟨_,g2⟩:=z2.blk;rw[g] at g2;cases g2
   have T:d≠b:=λe=>by
    obtain⟨_,g2⟩:=z2.blk;rw[e,g2] at d7;exact ar (aJ (λo:Option (Obj×Bool)=>match o with | some (Obj.cells _ t _,_)=>t | _=>0) d7) (by decide:¬96=52)
   refine .g O (.di 40 (p:=!q) O O ?_);exact rest _ _ _ ⟨m1+1,!q,λ_=>by omega,dA _,z2.next hk hs,v6.keep λo ho=>hk o (j7 o ho),(hk d T).trans d7,uU,sV⟩
 clear z2 v6 d7;rintro E B L4 ⟨m2,q,j8,R,Q,u2,z3,hE,hB⟩;refine .kI hE hB ?_;refine .s O (λe2=>?_) (λe2=>?_)
 ·have w9:=j8 e2;have j9:=j5.lo.le Q.bT;refine .o O (Ce ⟨sl,u,K,[]⟩ ps b la lc l m2 L4 Q.dq M hl j9 j1 f7 f8) ?_;rintro _ _ ⟨⟨x,rfl,hx,b0⟩,t6,m3,q0,v5⟩;rename_i L5;have hx:gy sl x=0:=hx;have q7:=Q.on t6 v5;have o5:dB L5 4 68 (.slice xw J.length yw) J.length (J.flatMap gj) ow:=(u2.keep (L':=L4.bT b) λq hq=>bW λe=>by
   subst hq e;obtain⟨_,c,_,g,_⟩:=u2;obtain⟨_,g2⟩:=Q.blk;rw[g] at g2;cases g2).le t6
  have T:d≠b:=λe=>by
   obtain⟨_,g2⟩:=Q.blk;rw[e,g2] at z3;exact ar (aJ (λo:Option (Obj×Bool)=>match o with | some (Obj.cells _ t _,_)=>t | _=>0) z3) (by decide:¬96=52)
  have q3:=t6 _ _ ((bW T).trans z3);have k7:=(uX hx).p0;have v7:=kH 9 (J.map (·.pay)) λy hy=>by
   obtain⟨z,hz,rfl⟩:=fK.1 hy;exact⟨(uX (u9 z hz).1).p0,(u9 z hz).2⟩
  rw[eT,d6] at v7;refine .g rfl (.f (.run' [0,2,3,5,6,7,8] rfl (.a 1 rfl (Ef.val rfl (Vf.l rfl (aF q3 rfl))) dV ?_)));rintro _ _ _ ⟨rfl,rfl,rfl⟩;refine .a 4 rfl (Ef.nc (len:=J.length) (m:=1) (vs:=gj x) rfl rfl rfl rfl rfl rfl rfl rfl rfl (AO x) o5 (.own rfl rfl rfl rfl) M) (LI) ?_;rintro _ _ _ ⟨v1,y0,rfl,rfl,q4,q5⟩;obtain⟨b1,a3,b2⟩:=AJ ⟨o5,d4⟩ q7 V q4 q5;have t7:=(b2 d _ 52 (by rw[q3]) V).trans q3;obtain⟨b3,b4,rfl,_⟩:=q4.slice;refine .run' [9] rfl (.a 10 rfl (Ef.eR rfl ⟨_,rfl,rfl⟩ rfl t7 rfl (show 3+1<=4 by decide) (bQ rfl)) (dV) ?_);rintro _ _ _ ⟨rfl,rfl,rfl⟩;refine .run' [11] O (.fin O (.g O ?_));have d8:(J++[x]).length=J.length+1:=Gg
  have q8:(J++[x]).flatMap gj=J.flatMap gj++gj x:=by rw[ze];simp
  have b5:IntKind.i64.wrap (bu (J.map (·.pay))+x.pay)=bu ((J++[x]).map (·.pay)):=by
   rw[wrap64_in _ M M,iq,eV];simp[bu]
  have a4:∀o,y0=some o->o≠d:=λo ho e=>by
   subst ho e;obtain⟨_,c,_,g,_⟩:=q4;rw[g] at t7;exact ar (aJ (λo:Option (Obj×Bool)=>match o with | some (Obj.cells _ t _,_)=>t | _=>0) t7) (by decide:¬68=52)
  refine .a (again _ _ _ _ (show 4 - (i+1)<4 - i by omega) ⟨i+1,J++[x],b3,b4,m3,y0,rfl,w9,by rw[d8,d6],?_,M,?_,by rw[q8,d8];exact q4.keep λo ho=>aB _ _ (a4 o ho),b1.j,?_,rfl,rfl⟩) (by exact⟨rfl,rfl,rfl,aJ (λz=>some (SV.v (.int .i64 z))) b5,aJ some (cr M),aE⟩)
  ·intro y hy;rcases fg.1 hy with hy | hy
   ·exact u9 y hy
   ·rw[dJ.1 hy];exact⟨hx,b0⟩
  ·exact⟨aG a3.le w8 _,a3.jb,by obtain⟨sd,g⟩:=a3.blk;exact⟨sd,by rw[aB _ _ (dG T)];exact g⟩,a3.ints⟩
  ·rw[aj,<-d8];rfl
 ·clear again e2 j8;have u5:jq ⟨sl,u,K,[]⟩ J:=⟨t0,M,λx hx=>(u9 x hx).1⟩;have v7:=kH 9 (J.map (·.pay)) λy hy=>by
   obtain⟨z,hz,rfl⟩:=fK.1 hy;exact⟨(uX (u9 z hz).1).p0,(u9 z hz).2⟩
  rw[eT,d6] at v7;obtain⟨H,t8⟩:∃H:Nat,bu (J.map (·.pay))=H:=⟨(bu (J.map (·.pay))).toNat,M⟩;have t9:H<100:=M
  have m0:eE L4 ⟨sl,u,K,J⟩ ⟨xa,F,xw,ya,ys,yw⟩:=⟨t4.le Q.le,d3.le Q.le,u2.at iA,by obtain⟨_,_,e,hc⟩:=u2.slice;cases e;exact hc⟩;have o6:Sm ⟨sl,u,K,J⟩:=u5.yD.sm;have b6:m2<=300:=M
  have o7:eE (L4.bT b) ⟨sl,u,K,J⟩ ⟨xa,F,xw,ya,ys,yw⟩:=⟨t4.le Q.bT,d3.le Q.bT,(u2.keep (L':=L4.bT b) λq hq=>bW λe=>by
   subst hq e;obtain⟨_,c,_,g,_⟩:=u2;obtain⟨_,g2⟩:=Q.blk;rw[g] at g2;cases g2).at iA,m0.cap⟩
  rw[t8];have q1:=zL ⟨H,M⟩;simp only at q1;have y1:∀x∈J,x.pay<=9:=λx hx=>(u9 x hx).2;clear u2 d4 u9 hi d6 v7;refine .y O (yH H _ t9) (.G O (Vf.cat (l:=[58,32]) (r:=cu H) O O (by show 2+(cu H).length<=_;omega)) (.G O (Vf.q O (dU z3 O)) (.g O ?_)));refine .c O (U2 ⟨sl,u,K,J⟩ ⟨xa,F,xw,ya,ys,yw⟩ L4 m0 o6) ?_;rintro _ _ ⟨fa,fc,rfl,y2,d9⟩;rename_i L5;clear y2;obtain⟨q8,m6⟩:=SK u5;generalize b7:(mU (dh ⟨sl,u,K,[]⟩ J)).2.2=ee at q8 m6;rw[show(mU ⟨sl,u,K,J⟩).2.2=ee from b7];have q7:gM I L5 b la lc l m2:=⟨Q.le.trans d9,Q.jb,by obtain⟨sd,g⟩:=Q.blk;exact⟨sd,d9 _ _ g⟩,Q.ints⟩;have q3:=d9 _ _ z3;have o8:=o7.le (pW ((gC _ _).trans d9));clear Q z3 m0 o7 d9;refine .g O ?_;apply W.cut (λE B L'=>L5=L'/\gR E [(3,.v (pt b)),(4,.p 0 0),(5,.v (pt d)),(6,.v (.int .i64 H)),(9,.v (str ([58,32]++cu H))),(12,.v (.int .i64 ee)),(70,.lit false)]/\mV B [some ⟨(cX ⟨sl,u,K,[]⟩ ps).map .v,52⟩])
  rotate_left
  ·intro rest;refine .de [68] 99 O ?_;rcases m6 with h0 | h0
   ·refine .di 67 (p:=false) O (by show some _=some false;rw[h0];rfl) ?_;refine .go 4 O ?_;exact rest _ _ _ ⟨rfl,rj,sV⟩
   ·refine .di 67 (p:=true) O (by show some _=some true;rw[h0];rfl) ?_;refine .g O (.di 70 (p:=false) O (by show some _=some false;rw[h0];rfl) ?_);exact rest _ _ _ ⟨rfl,rj,sV⟩
  rintro E B _ ⟨rfl,hE,hB⟩;refine .kI hE hB ?_;refine .g O ?_;have T:d≠b:=λe=>by
   obtain⟨_,g2⟩:=q7.blk;rw[e,g2] at q3;exact ar (aJ (λo:Option (Obj×Bool)=>match o with | some (Obj.cells _ t _,_)=>t | _=>0) q3) (by decide:¬96=52)
  have v8:=(bW (b:=b) T).trans q3;have d6:=u5.l;refine W.drawn aN (L5.bT b) (gC _ _) ?_;refine .run' [0,1,5,6] rfl (.u 2 rfl (Vf.l rfl ((aF v8 rfl))) (.u 7 rfl (Vf.l rfl ((aF v8 rfl))) (.run' [3,8] rfl (.c 4 rfl rfl (GB b la lc l m2 J.length L5 q7.dq M hl M) (by rintro _ _ ⟨_,_,_,_,rfl,_,_,hl,_⟩;exact hl) ?_))));rintro _ _ ⟨o1,a1,c1,m4,rfl,b8,k8,i0,i1,q5,y3⟩;rename_i L6;refine .c 9 rfl rfl (GB b la lc l m4 J.length L6 i1 M hl M) (by rintro _ _ ⟨_,_,_,_,rfl,_,_,hl,_⟩;exact ix i0 hl) ?_;rintro _ _ ⟨o2,a2,c2,m5,rfl,l2,k9,i2,m7,y4,q9⟩;rename_i L7;refine .run' [10,11] O (.fin O (.cz 13 (.inr ⟨_,_,_,rfl⟩) O O ?_));intro f y5 _;have y6:=ix i0 i2;have u3:=Le.put y5 (.cells #[Value.slice a1 (cm o1).length c1,.slice a2 (cm o2).length c2] 22);have i3:=y6.trans u3;have y7:gB (L7.put f (.cells #[Value.slice a1 (cm o1).length c1,.slice a2 (cm o2).length c2] 22)) (some ⟨f,0,none⟩) 1 bL [cm o1,cm o2]:=by
   refine⟨[((a1,(cm o1).length,c1),cm o1),((a2,(cm o2).length,c2),cm o2)],rfl,cY (l:=([((a1,(cm o1).length,c1),cm o1),((a2,(cm o2).length,c2),cm o2)]:List (Rw Int))) (e:=22) gh (aj _ _ _),λx hx=>?_⟩;rcases eP.1 hx with rfl | hx
   ·exact⟨y3.le (i2.trans u3),rfl,q5⟩
   ·rw[dJ.1 hx];exact⟨q9.le ((gC _ _).trans u3),rfl,y4⟩
  have m8:=(j5.le q7.bT).le i3;have m9:=o8.le i3;have g0:=i3 _ _ v8;have g1:=(w7.trans q7.bT).trans i3;have i4:kA _:=p9.le g1
  change W _ _ _ _ _ _ (L7.put f (.cells #[Value.slice a1 (cm o1).length c1,.slice a2 (cm o2).length c2] 22))
  generalize L7.put f (.cells #[Value.slice a1 (cm o1).length c1,.slice a2 (cm o2).length c2] 22)=L8 at y7 m8 m9 g0 g1 i4 ⊢;clear u3 i3 y6 i0 i2 i1 m7 y3 q9 y5 q5 y4 o8 q3 v8 q7 t4 d3;refine .a (E':=[(4,.p 0 0),(5,.v (pt d)),(6,.v (.int .i64 H)),(9,.v (str ([58,32]++cu H))),(12,.v (.int .i64 ee)),(13,.v (.slice (some ⟨f,0,none⟩) 2 2))]) (B':=[some ⟨(cX ⟨sl,u,K,[]⟩ ps).map .v,52⟩]) ?_;refine .g O ?_;refine .l (λw E B L'=>∃i:Nat,w=2 - i/\i<=2/\Dm L8 L'/\E=[(4,.p 0 0),(5,.v (pt d)),(6,.v (.int .i64 H)),(9,.v (str ([58,32]++cu H))),(12,.v (.int .i64 ee)),(13,.v (.slice (some ⟨f,0,none⟩) 2 2)),(14,.v (.int .i64 i))]/\B=[some ⟨(cX ⟨sl,u,K,[]⟩ ps).map .v,52⟩]) ⟨0,rfl,V,Dm.of_le (Le.refl _),rfl,rfl⟩ ?_
  rintro _ _ _ L9 ⟨i,rfl,hi,z4,rfl,rfl⟩ again;refine .I O (λe1=>W.go 99 O ?_) (λe1=>W.go 99 O ?_)
  ·have q9:i<2:=by have:=gN e1;omega
   obtain⟨o,a4,i5⟩:∃o,([cm o1,cm o2]:List (List Int))[i]?=some (cm o)/\Perm J.length o:=by
    rcases(by omega:i=0\/i=1) with rfl | rfl
    ·exact⟨o1,rfl,b8⟩
    ·exact⟨o2,rfl,l2⟩
   have l5:=z4.rows y7;obtain⟨ra,rc,g3,g4,l6⟩:=l5.row a4;have x0:(cm o).length=J.length:=by unfold cm;rw[eT,i5.len]
   have l7:=z4.sw m9;have y8:L9.cell? ((⟨d,0,none⟩:Addr).add 3)=some (.slice xw J.length yw):=z4.cell (aF g0 rfl);have l8:=aej i5;refine .l (λw E B L'=>∃(k:Nat) (aL:bA) (kL:Nat) (ol:bD),w=J.length - k/\k<=J.length/\Le L9 L'/\dB L' 1 9 (.slice aL k kL) k ((((Bo J o).take k).map λx=>kh (tH x)).flatMap dv) ol/\(∀q,ol=some q->L9 q=none)/\E=[(4,.p 0 0),(5,.v (pt d)),(6,.v (.int .i64 H)),(9,.v (str ([58,32]++cu H))),(12,.v (.int .i64 ee)),(13,.v (.slice (some ⟨f,0,none⟩) 2 2)),(14,.v (.int .i64 i)),(15,.v (.slice aL k kL)),(16,.v (.int .i64 k))]/\B=[some ⟨(cX ⟨sl,u,K,[]⟩ ps).map .v,52⟩]) ⟨0,none,0,none,rfl,fj _,Le.refl _,dB.nil,U,rfl,rfl⟩ ?_
   rintro _ _ _ a5 ⟨k,aL,kL,ol,rfl,hk,S,u4,y9,rfl,rfl⟩ v9;refine .G O (Vf.b O O (q9)) (.G O (Vf.l O (S.cell g3)) (.I O (λe2=>W.go 99 O ?_) (λe2=>W.go 99 O ?_)))
   ·have u6:k<J.length:=by have:=gN e2;omega
    have r4:k<o.length:=by rw[i5.len];exact u6
    have hj:=bX r4;have i6:=i5.lt _ (fY r4);have z5:(Bo J o)[k]?=some (J.getD o[k] ⟨0,0,0,0⟩):=by unfold Bo;rw[im,hj];rfl
    have r5:(cm o)[k]?=some ((o[k]:Nat):Int):=by unfold cm;rw[im,hj];rfl
    have a6:=bX i6;rw[dL,a6] at z5;have g5:=u5.w _ (fY i6);generalize o[k]=j at i6 a6 z5 r5 g5;generalize J[j]=x at a6 z5 g5;have z5:(Bo J o)[k]?=some x:=z5;have l9:=FF f7 f8 g5;have r6:=l7.le S;have f9:bz a5 xw 4 gj J:=r6.wt;obtain⟨x1,rfl⟩:=f9.addr i6;obtain⟨x2,rfl⟩:=g4.addr (show k<(cm o).length by omega);have r7:=(g4.le S).int r5;refine .t O (.run' [0,2,3,6,11] O (.u 1 O (Vf.l O ((S.cell y8))) (.u 4 O (Vf.b O O (q9)) (.u 5 O (Vf.l O ((S.cell g3))) (.u 7 O (Vf.b O O ((show k<(cm o).length by omega))) ?_)))));refine .u 8 rfl (Vf.l rfl (r7)) (.u 9 rfl (Vf.j rfl rfl (i6)) (.u 10 rfl (Vf.q rfl ((f9.whole a6 rfl))) (.a 12 rfl (Ef.lG rfl) (by rintro _ _ _ ⟨rfl,rfl,rfl⟩;exact⟨Le.refl _,rfl,.inl rfl⟩) ?_)));rintro _ _ r8 ⟨rfl,rfl,s0⟩;subst s0;refine .fin O ?_;have g6:∀z∈[x.sort,x.kind,x.cO,x.pay],z<100:=λz hz=>by
     obtain⟨q,hq⟩:=vr.1 hz;rcases l9.a q z hq with h | ⟨_,_,h⟩ <;> omega
    refine .de [118] 99 O (.cz 117 (.inr ⟨_,_,_,rfl⟩) O O ?_);intro b9 s2 _;have u3:=Le.put s2 (.cells ([x.sort,x.kind,x.cO,x.pay].flatMap bL).toArray 3);have s3:=cY (l:=[x.sort,x.kind,x.cO,x.pay]) (e:=3) aY (aj r8 b9 (.cells ([x.sort,x.kind,x.cO,x.pay].flatMap bL).toArray 3));have i7:=u4.le u3;have r9:=S.trans u3;refine .y O (MM 2 [x.sort,x.kind,x.cO,x.pay] (some ⟨b9,0,none⟩) 4 _ V s3 U g6) (.v O (Ef.nc (len:=k) (m:=1) (vs:=[str (pA 2 [x.sort,x.kind,x.cO,x.pay])]) O O O O O O O O O (kE _) i7 (.own O O O O) M) ?_);rintro _ _ _ ⟨v1,s4,rfl,rfl,q4,q5⟩;refine .g O ?_;obtain⟨_,_,n0,n3⟩:=R2 i7 (dB.nil (L:=r8.put b9 (.cells ([x.sort,x.kind,x.cO,x.pay].flatMap bL).toArray 3)) (k:=1) (e:=9)) (λ_ _ h=>by cases h) y9 r9 q4 q5;obtain⟨s5,s6,rfl,_⟩:=q4.slice;have g7:(Bo J o).take (k+1)=(Bo J o).take k++[x]:=by
     obtain⟨h1,h2⟩:=eO.1 z5;rw[<-h2];exact ja h1
    have q8:(((Bo J o).take (k+1)).map λx=>kh (tH x)).flatMap dv=(((Bo J o).take k).map λx=>kh (tH x)).flatMap dv++[str (pA 2 [x.sort,x.kind,x.cO,x.pay])]:=by rw[g7,iq,ze];rfl
    exact .a (v9 _ _ _ _ (show J.length - (k+1)<J.length - k by omega) ⟨k+1,s5,s6,s4,rfl,u6,n3,by rw[q8];exact q4,n0,rfl,rfl⟩)
   ·have u6:k=J.length:=by have:=jX e2;omega
    subst u6;clear v9 e2;rw[qG M] at u4;rename_i a5;have z6:=aa1 i5;have z7:jq ⟨sl,u,K,[]⟩ (Bo J o):=u5.sub M λx hx=>z6.mem_iff.2 hx;obtain⟨F,v0⟩:∃F:List Ln,F=(Bo J o).map tH:=⟨_,rfl⟩;obtain⟨LS,a7⟩:∃LS:List Bs,LS=F.map kh:=⟨_,rfl⟩;have s7:F.length=J.length:=by rw[v0,eT,l8]
    have n4:LS.length=J.length:=by rw[a7,eT,s7]
    have n5:bz a5 aL 1 dv LS:=by
     have e:(Bo J o).map (λx=>kh (tH x))=LS:=by rw[a7,v0,yW];rfl
     rw[e,<-n4] at u4;exact u4.at dR
    have k4:=u5.l;have i8:=z4.trans (Dm.of_le S);have n6:kA a5:=i8.cell i4;have n7:=i8.sw m8;have n8:yM (jV Tryz.prog Post W0) (dZ eK ir ⟨sl,u,K,[]⟩ LS) F:=by
     rw[a7];refine Gp DI Ib t0 M (λz hz=>?_) λq z hz h6=>?_
     ·rw[v0] at hz;obtain⟨x,hx,rfl⟩:=fK.1 hz;exact⟨FF f7 f8 (z7.w x hx),acP Yn⟩
     ·have hz:=fZ hz;rw[v0] at hz;obtain⟨x,hx,rfl⟩:=fK.1 hz;cases h6
    clear u4 y9 g3 g4 l6 a4 S;refine .a (E':=[(4,.p 0 0),(5,.v (pt d)),(6,.v (.int .i64 H)),(9,.v (str ([58,32]++cu H))),(12,.v (.int .i64 ee)),(13,.v (.slice (some ⟨f,0,none⟩) 2 2)),(14,.v (.int .i64 i)),(15,.v (.slice aL J.length kL))]) (B':=[some ⟨(cX ⟨sl,u,K,[]⟩ ps).map .v,52⟩]) ?_;rw[<-n4];refine .g O (.f (.run' [2,3] O (.w 0 O O (qP _) ?_)));rintro _ _ ⟨pb,rfl,u1,g8,_⟩;refine .w 1 O O (uA _) ?_;rintro _ _ ⟨pr,rfl,R,g9⟩;refine .w 4 O O (wK eK ir ⟨sl,u,K,[]⟩ LS pb pr ps aL kL _ (g8.le R) g9 (n7.le (u1.trans R)) (n5.le (u1.trans R)) M) ?_;rintro _ _ ⟨p,rfl,q0,a8⟩;have hW:=XA (X:=jV Tryz.prog Post W0) (dZ eK ir ⟨sl,u,K,[]⟩ LS) p F _ (n6.le (u1.trans (R.trans q0))) a8 n8;rw[<-hX] at hW;refine .w 5 O O hW ?_;rintro _ _ ⟨wa,wc,x3,rfl,i9,z1⟩;refine .run' [6,7,8,9,10] O (.fin O ?_);rename_i f1;have v4:bz f1 wa 1 dv (mG ⟨eK,ir,⟨sl,u,K,[]⟩⟩ F F.length):=z1.Zo dR (ry _ _ _);have f2:Dm L8 f1:=((i8.trans (Dm.of_le (u1.trans (R.trans q0)))).trans i9).trans (.of_le z1.1);have c0:bz f1 aL 1 dv LS:=((Dm.of_le (u1.trans (R.trans q0))).trans (i9.trans (.of_le z1.1))).sl n5;clear a8 z1 i9 q0;refine .a (E':=[(4,.p 0 0),(5,.v (pt d)),(6,.v (.int .i64 H)),(9,.v (str ([58,32]++cu H))),(12,.v (.int .i64 ee)),(13,.v (.slice (some ⟨f,0,none⟩) 2 2)),(14,.v (.int .i64 i)),(15,.v (.slice aL LS.length kL)),(18,.v (.slice wa F.length wc)),(19,.v (.int .i64 0))]) (B':=[some ⟨(cX ⟨sl,u,K,[]⟩ ps).map .v,52⟩]) ?_;refine .de [134] 99 O (.di 133 (p:=false) O O (.K O ?_ (by simp[a7])));refine .g O ?_;refine .l (λw E B L'=>∃k:Nat,w=F.length - k/\k<=F.length/\f1=L'/\E=[(4,.p 0 0),(5,.v (pt d)),(6,.v (.int .i64 H)),(9,.v (str ([58,32]++cu H))),(12,.v (.int .i64 ee)),(13,.v (.slice (some ⟨f,0,none⟩) 2 2)),(14,.v (.int .i64 i)),(15,.v (.slice aL LS.length kL)),(18,.v (.slice wa F.length wc)),(20,.lit (((mG ⟨eK,ir,⟨sl,u,K,[]⟩⟩ F F.length).take k).all (·==okB))),(21,.v (.int .i64 k))]/\B=[some ⟨(cX ⟨sl,u,K,[]⟩ ps).map .v,52⟩]) ⟨0,rfl,fj _,rfl,rfl,rfl⟩ ?_
    rintro _ _ _ _ ⟨k,rfl,hk,rfl,rfl,rfl⟩ u8;have n9:=ry ⟨eK,ir,⟨sl,u,K,[]⟩⟩ F F.length;generalize hE:mG ⟨eK,ir,⟨sl,u,K,[]⟩⟩ F F.length=an at v4 n9 u8 ⊢;refine .I O (λe2=>?_) (λe2=>?_)
    ·have u6:k<F.length:=by have:=gN e2;omega
     have c3:k<an.length:=M
     have p1:=bX c3;have g7:an.take (k+1)=an.take k++[an[k]]:=ja c3;have q6:(an.take (k+1)).all (·==okB)=((an.take k).all (·==okB)&&an[k]==okB):=by rw[g7,List.all_append];simp
     generalize an[k]=ak at p1 q6;obtain⟨s8,rfl⟩:=v4.addr c3;have c4:f1.cell? (s8.add k)=some (str ak):=by have:=v4.get (i:=k) (j:=0) p1 rfl;simpa using this
     have ag:=u8 (F.length - (k+1));cases hc:(an.take k).all (·==okB) with
     | false=>
      rw[hc] at q6;refine .g O ?_;exact .a (ag _ _ _ M ⟨k+1,rfl,u6,rfl,rfl,rfl⟩) (by exact⟨rfl,rfl,rfl,rfl,rfl,rfl,rfl,rfl,rfl,by rw[q6];rfl,aJ some (cr M),aE⟩)
     | true=>
      rw[hc] at q6;refine .G O (Vf.b O O (u6)) (.G O (Vf.l O (c4)) (.g O (.di 20 (p:=ak==okB) O (aJ some (tC ak okB)) ?_)));exact .a (ag _ _ _ M ⟨k+1,rfl,u6,rfl,rfl,rfl⟩) (by exact⟨rfl,rfl,rfl,rfl,rfl,rfl,rfl,rfl,rfl,by rw[q6];rfl,aJ some (cr M),aE⟩)
    ·have u6:k=F.length:=by have:=jX e2;omega
     subst u6;have a9:an.all (·==okB)=true↔cT (dh ⟨sl,u,K,[]⟩ J)=true:=by
      have c5:=ah6 (b:=eK) (ro:=ir) z7;have e:(Bo J o).map tH=F:=v0.symm;rw[e,show mG ⟨eK,ir,dh ⟨sl,u,K,[]⟩ []⟩ F F.length=an from hE] at c5;rw[mK];exact⟨λh=>xN z6.symm z7.yD u5.yD (c5.1 λa ha=>by simpa using h a ha),λh a ha=>by simpa using c5.2 (xN z6 u5.yD z7.yD h) a ha⟩
     rw[qG M];have p2:an.all (·==okB)=decide (ee=0):=by
      by_cases he:ee=0
      ·rw[jY he];exact a9.2 (q8.1 he)
      ·rw[mB he,<-Cf];exact λh=>he (q8.2 (a9.1 h))
     have c6:an.all (·==okB)=true->cT (dh ⟨sl,u,K,[]⟩ J)=true:=a9.1;generalize an.all (·==okB)=q at p2 c6 ⊢;clear a9 u8 hE v4;refine .g rfl (.di 157 (p:=false) rfl (by rw[p2];exact aJ some (by rcases m6 with h | h <;> rw[h] <;> rfl)) (.g rfl ?_));obtain⟨wr,o9⟩:=f2 d _ _ g0;have hB:=(xK (Post:=Post) (W0:=W0)).abQ ⟨sl,u,K,J⟩ _ _ (f2.sw m9) o6;rw[<-hX] at hB;refine .u O (Vf.q O (dU o9 O)) (.o O hB ?_);rintro _ _ ⟨ba,bc,rfl,s9,p3⟩;rename_i p4;have f3:=f2.trans p3;have c7:=p3.sl c0;have p5:kA p4:=f3.cell i4;have f4:q=true->(dP ⟨sl,u,K,J⟩).2=((H:Int),(0:Int)):=λh=>by rw[<-t8];exact Mo u5 (c6 h)
     clear hB o9 s9;generalize(dP ⟨sl,u,K,J⟩).2=bb at f4 ⊢;obtain⟨n1,n2⟩:=bb;refine .g O ?_;apply W.cut (λE B L'=>p4=L'/\gR E [(4,.p 0 0),(5,.v (pt d)),(6,.v (.int .i64 H)),(9,.v (str ([58,32]++cu H))),(12,.v (.int .i64 ee)),(13,.v (.slice (some ⟨f,0,none⟩) 2 2)),(14,.v (.int .i64 i)),(15,.v (.slice aL LS.length kL)),(20,.lit q),(173,.lit false)]/\mV B [some ⟨(cX ⟨sl,u,K,[]⟩ ps).map .v,52⟩])
     rotate_left
     ·intro rest;cases q with
      | false=>
       refine .go 4 O ?_;exact rest _ _ _ ⟨rfl,YP,sV⟩
      | true=>
       have hb:=f4 rfl;refine .de [169] 99 O (.di 168 (p:=false) O (by show some _=some false;rw[show n2=0 from aJ Prod.snd hb];rfl) (.g O (.di 173 (p:=false) O (by show some _=some false;rw[show n1=H from aJ Prod.fst hb];simp) (.go 3 O ?_))));exact rest _ _ _ ⟨rfl,YP,sV⟩
     rintro E B _ ⟨rfl,hE,hB⟩;refine .kI hE hB ?_;have p6:xj (eQ ⟨eK,ir,⟨sl,u,K,[]⟩⟩ F).1.s:=by
      refine H8 (mZ u7 _) (xt (f0:=⟨eK,ir,⟨sl,u,K,[]⟩⟩) U (λx hx _=>?_) _);rw[v0] at hx;obtain⟨y,hy,rfl⟩:=fK.1 hx;exact y1 y (z6.mem_iff.2 hy)
     refine .g O (.f (.run' [2,3] O (.w 0 O O (qP _) ?_)));rintro _ _ ⟨pb,rfl,u1,g8,_⟩;refine .w 1 O O (uA _) ?_;rintro _ _ ⟨pr,rfl,R,g9⟩;refine .w 4 O O (wK eK ir ⟨sl,u,K,[]⟩ LS pb pr ps aL kL _ (g8.le R) g9 ((f3.sw m8).le (u1.trans R)) (c7.le (u1.trans R)) M) ?_;rintro _ _ ⟨p,rfl,q0,a8⟩;have hC:=Dh (X:=jV Tryz.prog Post W0) (dZ eK ir ⟨sl,u,K,[]⟩ LS) p F _ (p5.le (u1.trans (R.trans q0))) a8 n8 A6 xK A7 p6;rw[<-hX] at hC;refine .w 5 O O hC ?_;rintro _ _ ⟨ca,cc,x4,rfl,p7,f5⟩;refine .run' [6,7,8,9,10] O (.fin O ?_);rename_i c8;have f6:Dm L8 c8:=(f3.trans (Dm.of_le (u1.trans (R.trans q0)))).trans (p7.trans (.of_le f5.1));obtain⟨cl,y,p8,hy⟩:∃cl y,iI ⟨eK,ir,⟨sl,u,K,[]⟩⟩ F=cl++[y]/\(q=true->∃w:Bs,w.length<=65/\y=w++([58,32]++cu H)):=by
      cases q with
      | true=>
       obtain⟨l,e⟩:=aeN (b:=eK) (ro:=ir) z7 (xN z6 u5.yD z7.yD (c6 rfl));rw[<-Aq (z6.map (·.pay)),t8,show qk (H:Int)=cu H from rfl] at e;exact⟨l,_,by rw[v0];exact e,λ_=>⟨_,aeD _,by rw[tq]⟩⟩
      | false=>exact⟨_,_,iq.trans rfl,λh=>by cases h⟩
     have k5:kA c8:=f6.cell i4;rw[show iI ⟨(dZ eK ir ⟨sl,u,K,[]⟩ LS).b,(dZ eK ir ⟨sl,u,K,[]⟩ LS).ro,(dZ eK ir ⟨sl,u,K,[]⟩ LS).s⟩ F=cl++[y] from p8,eX,mW] at f5 ⊢;have v4:=f5.Zo dR (by rw[eX,mW]);have x5:cl.length+1=5:=by
      have h1:=aJ List.length p8;rw[eX,mW] at h1;exact h1.symm.trans ((eT _).trans O)
     refine .a (E':=[(4,.p 0 0),(5,.v (pt d)),(6,.v (.int .i64 H)),(9,.v (str ([58,32]++cu H))),(12,.v (.int .i64 ee)),(13,.v (.slice (some ⟨f,0,none⟩) 2 2)),(14,.v (.int .i64 i)),(20,.lit q),(25,.v (.slice ca (cl.length+1) cc)),(26,.v (.int .i64 0))]) (B':=[some ⟨(cX ⟨sl,u,K,[]⟩ ps).map .v,52⟩]) ?_;refine .de [186] 99 O (.di 185 (p:=false) O O (.g O (.di 189 (p:=false) O (aJ some (beq_eq_false_iff_ne.2 M)) (.g O ?_))));have q5:IntKind.i64.wrap (((cl.length+1:Nat):Int) - 1)=(cl.length:Nat):=by rw[wrap64_in _ M M];omega
     rw[q5];obtain⟨k0,rfl⟩:=v4.addr (show cl.length<(cl++[y]).length by rw[eX];exact Nat.lt_succ_self _);have c4:c8.cell? (k0.add cl.length)=some (str y):=by have:=v4.get (i:=cl.length) (j:=0) (List.getElem?_concat_length ..) rfl;simpa using this
     refine .u O (Vf.b O O (Nat.lt_succ_self _)) (.G O (Vf.l O (c4)) (.g O ?_));cases q with
     | false=>
      refine .g O ?_;exact .a (again _ _ _ _ (show 2 - (i+1)<2 - i by omega) ⟨i+1,rfl,q9,f6,rfl,rfl⟩)
     | true=>
      obtain⟨w,hw,rfl⟩:=hy rfl;have q2:=q1.2.2.1;have qT:([58,32]++cu H).length<=4:=by rw[eX];show 2+_<=4;omega
      have z8:IntKind.i64.wrap (((w++([58,32]++cu H)).length:Int) - (([58,32]++cu H).length:Nat))=(w.length:Nat):=by rw[eX,wrap64_in _ M M];omega
      have k1:((w++([58,32]++cu H)).drop w.length).take ((w++([58,32]++cu H)).length - w.length)=[58,32]++cu H:=by rw[List.drop_left,eX,Nat.add_sub_cancel_left,lK]
      generalize[58,32]++cu H=du at *;refine .de [204] 99 O (.di 203 (p:=false) O (aJ some (mB (show¬((w++du).length:Int)<(du.length:Nat) by rw[eX];omega))) (.G O (Vf.CZ (i:=w.length) (j:=(w++du).length) O O O O O z8 O QG (dA _)) (.g O ?_)));rw[k1];refine .di 214 (p:=false) O (by show some (!uD du du)=some false;rw[tC];simp) ?_;refine .g O ?_;exact .a (again _ _ _ _ (show 2 - (i+1)<2 - i by omega) ⟨i+1,rfl,q9,f6,rfl,rfl⟩)
  ·have k2:kA L9:=z4.cell i4;have hA:=aa4 (X:=jV Tryz.prog Post W0) L9 Yn k2;rw[<-hX] at hA;refine .c O hA ?_;rintro _ _ ⟨rfl,k3⟩;refine .g O ?_;exact W.agJ r O ⟨rfl,(Dm.of_le g1).trans (z4.trans k3)⟩
end
end Go.Mz
