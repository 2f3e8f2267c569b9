/- Lemmas for the claim. -/
import Derived.Test.YtjhpkghkgaekcaaGreatDoorMzLi
import Derived.Conc.TokenWalk
import Derived.Conc.WgGenN2
set_option linter.defProp false
set_option maxRecDepth 100000
namespace Go.Mz
open Go.Conc
variable {P:aV}{α:Type}{n k m:Nat}{L R J:LH}{t e:bh}{w u:World}{h:α->List Value}{c:Int}{B:aX}{x:aW}{Y:Trace}{l:aH}{r:List α}{s:Sw}{q:aU}{Q:bC}{E:cK}{j:aR}{D:bt}{d:bA}{F:Env}{g:aT}{o:bD}{C:bH}{N:Nm}{K:bI}{z:SV}{I:cj}{H:ck}{X:aM Proofs.Tryz.prog}
section
open Go.ConcN Go.Proofs
open Go.ConcR (KK wgBlock WgAt smA rd wr mk)
structure AD where
 s:Sw
 p:Wp
 W:Nat
 C:Nat
 bs:Nat
 bf:Nat
 L0:LH
 R0:LH
 kd:CallKind
 c:Frame
 cs:List Frame
 Post:Value->World->Prop
 W0:World
noncomputable def ahN (D:Nat):eh:={P:=Tryz.prog,ty:=284,W:=0,C:=0,D:=D,n:=0,base:=0,out:=λ_ _ _=>False,mute:=λ_=>False,ML:=λ_ _ _=>False,Anch:=λ_ _=>False,Fin:=λ_ _=>False}
noncomputable abbrev found (s:Sw)(k:Nat):rP:=Vv k (dE s (bB k))
noncomputable def dY (z:AD)(ML:C9):eh:={P:=Tryz.prog,ty:=284,W:=z.W,C:=z.C,D:=z.C,n:=2 ^ z.s.aC.length,base:=0,out:=λk v Gv=>v=cC (found z.s k)/\Gv=LH.nil,mute:=λ_=>False,ML:=ML,Anch:=Rl false (WgLive 284 z.W) z.W (LW false (WgLive 284 z.W) (vn (ahN z.C))),Fin:=pJ Tryz.prog z.Post z.W0}
def abC{z:AD}{ML:C9}(k:Nat)(Nx:cg):Xr (WgLive 284 z.W) z.W (RH (dY z ML) k Nx) (abq (dY z ML) k Nx) (Va (dY z ML) k Nx) (MEn (dY z ML) k Nx) (Zg (dY z ML) k Nx) where
 h1:=λg g' L h1 h2 h3=>⟨h1,g',h2,h3⟩
 h2:=λg L h1 h2=>⟨h1,h2⟩
 h3:=λg g' L h1 h2 h3=>⟨h1,g',h2,h3⟩
 h4:=λg g' L h1 h2 h3=>⟨h1,g',h2,h3⟩
def OF{z:AD}{ML:C9}:yL false (WgLive 284 z.W) z.W (MJ (dY z ML)) (U5 (dY z ML)) (abl (dY z ML)) (U6 (dY z ML)) (Ry (dY z ML)) (KL4 (dY z ML)) (Xy (dY z ML)) (abk (dY z ML)) (LW false (WgLive 284 z.W) (vn (dY z ML))) (Rl false (WgLive 284 z.W) z.W (LW false (WgLive 284 z.W) (vn (dY z ML)))) where
 h1:=λg g' L h1 h2 h3=>⟨h1,g',h2,h3⟩
 h2:=λg L h1 h2 h3=>⟨h1,h2,h3⟩
 h3:=λvs g L h1 h2 h3=>⟨h1,h2,h3⟩
 h4:=λg g' L h1 h2 h3=>⟨h1,g',h2,h3⟩
 h5:=λg L h1 h2 h3 h4=>⟨h1,h2,h3,h4⟩
 h6:=λg L h1 h2=>⟨h1,h2⟩
 h7:=λg g' L h1 h2 h3=>⟨h1,g',h2,h3⟩
 h8:=λg g' L h1 h2 h3=>⟨h1,g',h2,h3⟩
def Zn{z:AD}{ML:C9}(b:Nat):∀g L,(dY z ML).Anch g L->Way (dY z ML).P false (dY z ML).Φ (U5 {dY z ML with base:=b}) g L:=
 RY (λ_ h=>h) (OF (z:=z) (ML:=ML))
noncomputable def pV:Frame:={(default:Frame) with fn:=Tryz.prog.funcs.size,defers:=[],mode:=.panicking [goexitEntry]}
def Hl(f:bO)(T:aK)(k:bI){q:Func}(a:Tryz.prog.funcs[f]?=some q)(b:q.results=#[]):QuitsD Tryz.prog 2 0 (G (Fr f T k [] .returning .deferred none) [pV]):=by
 refine QuitsD.ctl (g':=G pV []) O (λw=>?_) ?_
 .simp[G,stepG,unwind,doReturn,results,Fr,pV,a,b,seen,GStep.after,goexitEntry]
 refine QuitsD.ctl (g':={G pV [] with status:=.finished}) O (λw=>?_) ⟨rfl,rfl⟩;simp[G,stepG,unwind,pV,goexitEntry,Frame.catches]
 rfl
def abN{z:AD}{i:C9}{T:aK}{v:Value}{c:aK}{t:km}(o:R n=some (.cells c e t,true))(m:c[0]?=some v):
  vg (dY z i) (G (Fr 152 T K [dcall 153 #[pt z.W]] .returning .deferred none) [pV]) R:=by
 refine⟨rfl,24,n,v,c,e,t,o,m,λw u g=>?_⟩;let q:=And.intro u g;refine Goes.step O λk f=>?_;replace q:=Go.ConcN.Gen.kn_rely q f;let j:=@Go.ConcN.Gen.doneN agI lnk Tryz.prog Xm Bt Bt z.W n 1 0 1 v (Fr 152 T K [] .returning .deferred none) [pV] 2 rfl (Hl 152 T K Tryz.func152 rfl) k q;let y:=stepG_unwind_enter (P:=Tryz.prog) (main:=false) (b:=baseD 152) (a:=⟨T,[dcall 153 #[pt z.W]]⟩) (ds:=[]) (todo:=K) (cs:=[pV]) (w:=k) rfl Tryz.func153 aN rfl;let d:stepG Tryz.prog false (G (Fr 152 T K [dcall 153 #[pt z.W]] .returning .deferred none) [pV]) k=_:=y;show(stepG Tryz.prog false _ k).goes _;rw[d];simp only[goes_go];refine⟨?_,j⟩
 u_nil
def DJ{g:bO}{q:Func}{h l:aK}{u:Code}(a:Tryz.prog.funcs[g]?=some q)(y:(q.name== "runtime.NumGoroutine")=false)(d:q.body=some u)(w:World):
  stepG Tryz.prog false (born Tryz.prog ⟨.fn (.func g) l,h⟩) w=.go (G (Frame.enter Tryz.prog g (h++l) .deferred) [pV]) w:=by
 let x:¬q.name= "runtime.NumGoroutine":=by simpa using y
 simp[born,G,stepG,unwind,callDeferred,invoke,callFunc,a,x,d,GStep.after,seen_none,pV,goexitEntry]
def Sf{z:AD}{ML:C9}(q:R.cell? ⟨z.bf,0,none⟩=some (.chan (some z.C))):Way Tryz.prog false (WgLive 284 z.W) (MJ (dY z ML)) (born Tryz.prog ⟨.fn (.func 154) #[pt z.W,pt z.bf],#[]⟩) R:=by
 refine(LW false (WgLive 284 z.W) (MJ (dY z ML))).quiet O (DJ Tryz.func154 aN O) (W.start (n:=4) (args:=[pt z.W,pt z.bf]) Tryz.func154 O O O ?_);refine .g O (W.oF O O O O (UH (λ_ h=>h) (OF (z:=z) (ML:=ML)) R) ?_);rintro Y v _ ⟨rfl,rfl,rfl⟩;refine .G O (Vf.l O (q)) (.g O (W.stop O λT R β i d f=>?_));have u:(⟨T,[]⟩:Act).eval (.tmp 3)=.chan (some z.C):=(congrFun (mJ T []) _).trans (bR (d 3 _ rfl)).symm;refine⟨rfl,_,4,rfl,rfl,λw s r h=>stepG_close (b:=bF 154 .deferred) (a:=⟨T,[]⟩) (kk:=[]) O O V O u h aN,?_⟩;exact QuitsD.ctl (g':=G (Fr 154 T [] [] .run .deferred none) [pV]) O (λw=>by simp[G,Fr,bF,Frame.at,Act.put,stepG,stepG.exec])
  (QuitsD.ctl (g':=G (Fr 154 T [] [] .returning .deferred none) [pV]) O (λw=>by simp[G,Fr,stepG,stepG.exec]) (Hl 154 T [] Tryz.func154 O))
def DF(f:k<2 ^ s.aC.length):tn s (bB k):=λi u=>by
 unfold bB at u;have q:=(nH.1 u).2;refine qF λy=>?_;have:k<2 ^ i:=lg f (Cq V M);rw[Nat.testBit_lt_two_pow this] at q;cases q
def TJ(h:eD s):2 ^ s.aC.length<=32:=Cq (n:=2) V h.w5
structure aim(z:AD)(k bi:Nat)(R:LH):Prop where
 s:R.cell? ⟨z.bf,0,none⟩=some (.chan (some z.C))
 bs:cD R ⟨z.bs,0,none⟩ 4 (cX z.s z.p)
 sw:eE R z.s z.p
 i:R bi=some (.cells #[.int .i64 k] 3 (0,0),true)
 ok:eD z.s
def Rb{z:AD}{q:C9}(h:aim z k m R)(f:k<2 ^ z.s.aC.length):Way Tryz.prog false (WgLive 284 z.W) (yK (dY z q) k) (born Tryz.prog ⟨.fn (.func 152) #[pt z.W,pt z.bf,pt z.bs,pt m],#[]⟩) R:=by
 refine(LW false (WgLive 284 z.W) (yK (dY z q) k)).quiet O (DJ Tryz.func152 aN O) (W.start (n:=9) (args:=[pt z.W,pt z.bf,pt z.bs,pt m]) Tryz.func152 O O O ?_);have D:=TJ h.ok;have l:=Nh (X:=LW false (WgLive 284 z.W) (yK (dY z q) k)) z.s z.p k R h.sw h.ok M (DF f);have x:IntKind.u8.wrap (k:Int)=(k:Int):=by
  exact Int.emod_eq_of_lt M (by show(k:Int)<256;omega)
 refine .g O ?_;refine W.HR O O O O ?_;refine .t O (.u 0 O (Vf.l O (h.s)) (.u 1 O (Vf.q O (h.bs)) (.u 2 O (Vf.l O (aF h.i O)) (.run' [3] O ?_))));rw[x];refine .c 4 rfl rfl l Q1 ?_;rintro _ _ ⟨rfl,I⟩;refine DD.rest 5 O O O O ?_;refine W.ag8 O O O O O O λT r g c e J F t a v y=>.inl ?_;have d:(⟨T,[dcall 153 #[pt z.W]]⟩:Act).eval (.tmp 4)=.chan (some z.C):=c _ _ _ rfl rfl;have j:(⟨T,[dcall 153 #[pt z.W]]⟩:Act).eval (.tmp 8)=cC (found z.s k):=c _ _ _ rfl rfl;refine⟨t,cC (found z.s k),.tuple #[],g,r,LH.nil,λw u=>?_,λ_ _ h=>h,(λ_ _ h=>by cases h),λb=>.inr O,⟨rfl,rfl⟩,?_⟩
 .rw[F];refine(stepG_comm (w':=w) (cases:=#[scase z.C (cC (found z.s k)) (.tuple #[])]) (blocking:=true) (shape:=.send) J e (show CallKind.deferred≠CallKind.early by decide) (by simp[execOp,d,j,scase])).trans ?_;simp[listed,execOp,seen]
  rfl
 .refine y (LW false (WgLive 284 z.W) (vg (dY z q))) undef ?_;refine .g O ?_;intro T r β Q S H;have K:r m=some (.cells #[.int .i64 k] 3 (0,0),true):=H.le _ _ (I _ _ h.i);exact(LW false (WgLive 284 z.W) (vg (dY z q))).quiet (g':=G (Fr 152 T [] [dcall 153 #[pt z.W]] .returning .deferred none) [pV]) O (λw=>by simp[G,Fr,stepG,stepG.exec]) (Way.stop (abN K O))
end
section
open Go.Proofs
def Ef.Tp{C:Cx P}{w:fD}{s:bh}{l:cR}{o:cZ}{z:Value}(u:bZ E x=some (.v (.int .i64 n)))(I:n<=10000)(a:n≠0)(p:k≠0)(J:P.underlying t=some (.slice e))(K:(P.info? e).map (·.size)=k)(q:(P.info? e).map (·.bytes)=m)(D:(P.info? e).bind (·.zero)=z)(d:m<=1024):
  Ef C ⟨w,.makeSlice t x x,s,H,l,o⟩ E B L (λF G Q=>∃b,F=.v (.slice (some ⟨b,0,none⟩) n n)/\G=B/\L b=none/\Q=L.put b (.cells ((Array.range (n *k)).map λx=>z.cells[x % z.cells.size]!) e)):=by
 intro T R β h r;have S:ev T x=.int .i64 n:=(bR (h.val u)).symm;obtain⟨y,f,g⟩:∃y,P.info? e=some y/\y.bytes=m:=by
  cases u:P.info? e with
  | none=>rw[u] at q;cases q
  | some i=>rw[u] at q;cases q;exact⟨i,rfl,rfl⟩
 have W:IntKind.i64.wrap (n:Int)=n:=wrap64_in _ M M;refine⟨rfl,?_⟩;simp only[execOp,S];rw[Z];unfold Instr.makeSlice;rw[Z,aD J];simp only;rw[Z];show aP P _ _ (asInt (.int .i64 n)>>= _) R;rw[Z];show aP P _ _ (typeInfo e>>= _) R;rw[Z,gz f];simp only[W];have j:m *n<=1024 * 10000:=E9 d I;have c:(y.bytes:Int) * (n:Int)<=281474976710656:=by
  rw[g];have:((m *n:Nat):Int)<=10240000:=M
  rw[Int.natCast_mul] at this;omega
 rw[A (by simp[c])];rw[Z];refine qB ?_;rw[Z,cQ K];simp only[kT];rw[A (Nat.mul_ne_zero a p),Z,gA D,Z,aI,Z,jD];intro b d;exact⟨_,B,_,⟨b,rfl,rfl,(r.free d).1,rfl⟩,rfl,r.zY d _,λ_ _=>rfl⟩
end
section
open Go.ConcN Go.Proofs
open Go.ConcR (KK wgBlock WgAt smA rd wr mk)
def Jp(m:Nat):Code->List Code->Option (Code×List Code)
 | .block l b,k=>if Nat.beq l m then some (b,k) else none
 | .seq a b,k=>match Jp m a (b::k) with
  | some r=>some r
  | none=>Jp m b k
 | _,_=>none
def VH(m:Nat):Code->List Code->Option (Array Oper×List Code)
 | .region l ops _,k=>if Nat.beq l m then some (ops,k) else none
 | .seq a b,k=>match VH m a (b::k) with
  | some r=>some r
  | none=>VH m b k
 | _,_=>none
def oB(L L':LH):Prop:=∀b o wr,L b=some (o,wr)->∃tj,L' b=some (o,tj)
theorem oB.of_le(h:Le L R):oB L R:=λb o wr d=>⟨wr,h _ _ d⟩
theorem oB.trans(h:oB L R)(z:oB R J):oB L J:=λb o wr d=>let⟨w1,q⟩:=h b o wr d;z b o w1 q
theorem oB.cell(h:oB L R){a:Addr}{v:Value}(b:L.cell? a=some v):R.cell? a=some v:=by
 unfold LH.cell? at b ⊢;cases d:L a.block with
 | none=>rw[d] at b;cases b
 | some x=>
  let⟨o,wr⟩:=x;let⟨u,p⟩:=h _ _ _ d;rw[d] at b;rw[p];cases o <;> first | exact b | cases b
def oB.cells(h:oB L R){a:Addr}(b:cD L a n j):cD R a n j:=⟨b.1,λi v g=>h.cell (b.2 i v g)⟩
def oB.sl(c:oB L R)(f:bz L d k h r):bz R d k h r:=λi x u=>let⟨a,q,z⟩:=f i x u;⟨a,q,λj v g=>c.cell (z j v g)⟩
def zD{α:Type}{h:α->List Value}{k:Nat}(f:∀x,(h x).length=k):∀(l:List α) (d:Nat) (x:α) (i:Nat),d<l.length->((l.set d x).flatMap h)[i]?=if d *k<=i/\i<d *k+k then(h x)[i - d *k]? else(l.flatMap h)[i]?
 | [],_,_,_,c=>ar c (nW _)
 | y::l,0,x,i,_=>by
  simp only[Cj,rT,yO,jJ,fj,true_and,wH]
  by_cases c:i<k
  .rw[ax c,kS (by rw[f];exact c)]
  .rw[A c,lh xY,lh xY,f,f]
 | y::l,d+1,x,i,c=>by
  simp only[List.set_cons_succ,rT];have e:(d+1) *k=d *k+k:=Nat.succ_mul d k
  by_cases z:i<k
  .rw[kS (by rwa[f]),kS (by rwa[f]),A M]
  .rw[lh xY,lh xY,f,zD f l d x (i - k) lA]
   by_cases r:d *k<=i - k/\i - k<d *k+k
   .rw[ax r,ax M,e,show i - k - d *k=i - (d *k+k) by omega]
   .rw[A r,A M]
def join_nil(L:LH):L.join LH.nil=L:=by
 funext b
 unfold LH.join LH.nil;cases L b <;> rfl
def oB.rows(c:oB L R){v:List (List α)}(a:gB L d k h v):gB R d k h v:=
 let⟨t,q,z,r⟩:=a;⟨t,q,c.sl z,λx u=>⟨c.sl (r x u).sl,(r x u).len,(r x u).cap⟩⟩
def oB.sw{L':LH}(h:oB L L'){p:Wp}(a:eE L s p):eE L' s p:=⟨h.rows a.lo,h.sl a.st,h.sl a.wt,a.cap⟩
noncomputable def ago:Code×List Code:=((Tryz.f113.body.bind (Jp 0 · [])).getD (.skip,[]))
noncomputable def agq:Code:=match ago.1 with | .loop c=>c | _=>.skip
noncomputable def ait:List Item:=.inBlock 0::ago.2.map .code
noncomputable def agp:Code×List Code:=((Tryz.f113.body.bind (Jp 2 · [])).getD (.skip,[]))
noncomputable def MT:Code:=match agp.1 with | .loop c=>c | _=>.skip
noncomputable def XE:List Item:=.inBlock 2::agp.2.map .code
noncomputable def ais:Code:=((Jp 3 MT []).getD (.skip,[])).1
noncomputable def sD:Array Oper×List Code:=(VH 12 ais []).getD (#[],[])
noncomputable def alS:List Item:=.inRegion sD.1 [1,2,3,4,5,6,7]::(sD.2.map .code++(.inBlock 3::.inLoop MT::XE))
structure EW(z:AD)(L:LH):Prop where
 bs:cD L ⟨z.bs,0,none⟩ 4 (cX z.s z.p)
 f:L.cell? ⟨z.bf,0,none⟩=some (.chan (some z.C))
 sw:eE L z.s z.p
def EW.dim{z:AD}(h:EW z L)(a:oB L R):EW z R:=⟨a.cells h.bs,a.cell h.f,a.sw h.sw⟩
def Fr0(z:AD)(b:Nat):Prop:=z.L0 b=none/\z.R0 b≠none
open Classical in
noncomputable def nf (z:AD)(R:LH):LH:=λb=>if Fr0 z b then none else R b
def ahF(z:AD)(R:LH):Le (nf z R) R:=λb x u=>by
 unfold nf at u
 split at u
 .cases u
 .exact u
def adf{z:AD}(h:Le R L):Le (nf z R) (nf z L):=λb x u=>by
 unfold nf at u ⊢
 split at u
 .cases u
 .rename_i a;rw[A a];exact h b x u
structure yk(z:AD)(R:LH):Prop where
 at_:EW z (nf z R)
 keep:∀b x,z.L0 b=none->z.R0 b=some x->R b=some x
 jZ:∀b o wr,z.L0 b=some (o,wr)->∃tj,R b=some (o,tj)
def yk.le{z:AD}(h:yk z R)(u:Le R L):yk z L:=
 ⟨h.at_.dim (oB.of_le (adf u)),λb x q v=>u _ _ (h.keep b x q v),λb o wr d=>let⟨w1,q⟩:=h.jZ b o wr d;⟨w1,u _ _ q⟩⟩
abbrev zC:rP:=⟨0,0,0,0,0,0,false⟩
open Classical in
noncomputable def cl (s:Sw)(n:Nat)(Rk:bt):List rP:=(List.range n).map λi=>if Rk i then found s i else zC
noncomputable def qg (s:Sw)(n:Nat)(Rk:bt):Array Value:=((cl s n Rk).flatMap lq).toArray
def XL:(cl s n D).length=n:=by simp[cl]
def SN:(qg s n D).size=n * 7:=by
 unfold qg;rw[wG,gY wP,XL]
def aeL:(cl s n D).set k (found s k)=cl s n (λi=>D i\/i=k):=by
 refine yU λj=>?_;unfold cl;rw[List.getElem?_set]
 by_cases t:j<n
 .rw[im,im,Fj t];simp only[mg]
  by_cases e:k=j
  .subst e;rw[ax rfl,ax C1,ax (.inr rfl)]
  .rw[A e]
   by_cases b:D j
   .rw[ax b,ax (.inl b)]
   .rw[A b,A (λh=>h.elim b λh=>e h.symm)]
 .rw[mh bU,mh bU]
  split
  .rw[A bU]
  .rfl
def BS(o:∀x,(h x).length=m)(f:k<r.length)(x:α):bY (r.flatMap h).toArray (k *m) (h x)=((r.set k x).flatMap h).toArray:=by
 refine E6 λj=>?_;let u:=gY o r;rw[rZ,gq,gq,zD o r k x j f];let v:k *m+m<=r.length *m:=YK
 by_cases q:j<k *m
 .rw[ax q,A M]
 .rw[A q]
  by_cases z:j<k *m+m
  .rw[ax ⟨M,z⟩,sC ⟨by rw[o];omega,by rw[wG,u];omega⟩];exact(bX _).symm
  .rw[A M,dif_neg (by rw[o];omega)]
def VI(f:k<n):bY (qg s n D) (k * 7) (lq (found s k))=qg s n (λi=>D i\/i=k):=by
 unfold qg;rw[BS wP (by rw[XL];exact f),aeL]
def SO{z:Value}(p:z.cells=(lq zC).toArray):((Array.range (n * 7)).map λx=>z.cells[x % z.cells.size]!)=qg s n λ_=>False:=by
 refine E6 λj=>?_;rw[p];let v:(lq zC).toArray.size=7:=rfl;rw[v];unfold qg;let a:cl s n (λ_=>False)=(List.range n).map λ_=>zC:=by unfold cl;simp
 rw[a];let l:(((List.range n).map λ_=>zC).flatMap lq).toArray[j]?=(((List.range n).map λ_=>zC).flatMap lq)[j]?:=gq;rw[l]
 by_cases t:j<n * 7
 .let hd:j=(j / 7) * 7+j % 7:=by omega
  let d:((List.range n).map λ_=>zC)[j / 7]?=some zC:=by rw[im,Fj M];rfl
  let e:j % 7<7:=Nat.mod_lt _ V;let i:(lq zC)[j % 7]?=some ((lq zC).toArray[j % 7]!):=by
   obtain⟨q,c⟩:∃q,j % 7=q:=⟨_,rfl⟩;rw[c] at e ⊢
   match q,e with
   | 0,_=>rfl
   | 1,_=>rfl
   | 2,_=>rfl
   | 3,_=>rfl
   | 4,_=>rfl
   | 5,_=>rfl
   | 6,_=>rfl
  let r:=tX wP d i;rw[<-hd] at r;rw[r,yn];let u:(Array.range (n * 7))[j]?=some j:=by simp[t]
  rw[u];rfl
 .let k:(((List.range n).map λ_=>zC).flatMap lq)[j]?=none:=mh (by rw[gY wP,eT,vt];omega);rw[k,yn];let u:(Array.range (n * 7))[j]?=none:=Array.getElem?_eq_none bU;rw[u];rfl
def eS(z:AD)(bn:Nat):Env:=[(4,pt z.bf),(7,.v (.slice (some ⟨bn,0,none⟩) (2 ^ z.s.aC.length) (2 ^ z.s.aC.length))),(27,.v (.chan z.C))]
structure Dn(z:AD)(Rk:Nat->Prop)(bn:Nat)(R:LH):Prop where
 inv:yk z (R.less [bn])
 blk:R bn=some (.cells (qg z.s (2 ^ z.s.aC.length) Rk) 145 (0,0),true)
def Dn.le{z:AD}(h:Dn z D n R)(o:Le R L):Dn z D n L:=
 ⟨h.inv.le λb x u=>by
  have d:b∉[n]:=λe=>by rw[lT e] at u;cases u
  rw[gJ d] at u ⊢;exact o b x u,o _ _ h.blk⟩
def Dn.all{z:AD}(h:Dn z D n R):yk z R:=h.inv.le (Eg _ _)
def Dn.at_{z:AD}(h:Dn z D n R):EW z R:=h.all.at_.dim (oB.of_le (ahF _ _))
def ML(z:AD)(Rk:bt)(g:aT)(R:LH):Prop:=
 ∃(T:aK) (bn:Nat),T.size=39/\bS fe (get (eS z bn)) T/\g=G (Fr 113 T alS [] .run z.kd none) (z.c::z.cs)/\Dn z Rk bn R
def KC{z:AD}{Rk:bt}{bn:Nat}{C:Cx Tryz.prog}(j:C.X=iY Tryz.prog true (WgLive 284 z.W) (ML z Rk))(a:C.f=113)(q:C.kd=z.kd)(y:C.ro=none)(u:C.cs=z.c::z.cs)(h:Dn z Rk bn L):
  W C 39 [] (.code MT::.inLoop MT::XE) [(4,.v (pt z.bf)),(7,.v (.slice (some ⟨bn,0,none⟩) (2 ^ z.s.aC.length) (2 ^ z.s.aC.length)))] [] L:=by
 refine .G O (Vf.l O (h.at_.f)) (.g O (W.stop j λT R β d i r=>?_));refine⟨T,bn,d,i.adY ⟨rfl,rfl,rfl,aE⟩ O,?_,h.le r.le⟩;rw[a,q,y,u]
 rfl
structure ZOk(z:AD):Prop where
 ok:eD z.s
 kd:z.kd=.normal\/z.kd=.wrapped
 ret:∀bn R',R' bn=some (.cells (qg z.s (2 ^ z.s.aC.length) λ_=>True) 145 (0,0),true)->yk z (R'.less [bn])->pJ Tryz.prog z.Post z.W0 (G (z.c.finish (.slice (some ⟨bn,0,none⟩) (2 ^ z.s.aC.length) (2 ^ z.s.aC.length))) z.cs) R'
def acD(s:Sw)(k:Nat):(found s k).w=k:=by
 unfold found Vv;cases dE s (bB k) <;> rfl
def Og{z:AD}{T:aK}(f:z.kd=.normal\/z.kd=.wrapped)(h:bS fe (get (eS z n)) T)(w:World):
  stepG Tryz.prog true (G (Fr 113 T alS [] .run z.kd none) (z.c::z.cs)) w=.comm (G (Fr 113 T alS [] .run z.kd none) (z.c::z.cs)) #[rcase z.C (cC zC)] true (.recv true) w #[]:=by
 have l:(⟨T,[]⟩:Act).eval (.tmp 27)=.chan (some z.C):=(congrFun (mJ T _) _).trans (bR (h 27 _ rfl)).symm;let o:z.kd≠.early:=by rcases f with e | e <;> rw[e] <;> decide
 let j:sD.1[1]?=some (sD.1[1]?.getD default):=rfl;let q:(execOp (⟨T,[]⟩:Act).eval (sD.1[1]?.getD default)).run Tryz.prog w=.ok (.comm #[rcase z.C (cC zC)] true (.recv true)) w/\(execOp (⟨T,[]⟩:Act).eval (sD.1[1]?.getD default)).events Tryz.prog w #[]=#[]:=by
  show(execOp (⟨T,[]⟩:Act).eval ⟨some 28,.recv 278 (.tmp 27) true,_,_,_,none⟩).run Tryz.prog w=_/\(execOp (⟨T,[]⟩:Act).eval ⟨some 28,.recv 278 (.tmp 27) true,_,_,_,none⟩).events Tryz.prog w #[]=_;let u:=Tryz.zeroValue101;let v:=Tryz.underlying278
  constructor
  .simp[execOp,l,u,rcase]
   rfl
  .simp[execOp,l,u]
 refine(stepG_comm (P:=Tryz.prog) (main:=true) (b:=bF 113 z.kd) (a:=⟨T,[]⟩) (w':=w) j (by rfl) o q.1).trans ?_;unfold listed;rw[q.2]
 rfl
def acN{z:AD}{o:Obj}(h:yk z (R.less [n])):yk z ((R.put n o).less [n]):=by
 have e:(R.put n o).less [n]=R.less [n]:=by
  funext b'
  by_cases d:b'∈[n]
  .rw[lT d,lT d]
  .rw[gJ d,gJ d,aB _ _ (by simpa using d)]
 exact e▸h
def aaU{z:AD}(p:ZOk z)(b:Nat):jH {dY z (ML z) with base:=b}:=by
 rintro j _ R ⟨T,q,K,y,rfl,h⟩;refine⟨rfl,_,_,.recv true,0,0,cC zC,cC zC,⟨rfl,λw _=>Og p.kd y w,λw _=>Og p.kd y w,rfl,rfl,?_,?_,?_,?_⟩⟩
 .intro m c I
  match m,I with
  | 0,_=>exact .inl rfl
  | m+1,I=>simp at I
 .exact⟨λ_=>rfl,λ_=>rfl⟩
 .rintro k v C f l ⟨rfl,rfl⟩ _;rw[join_nil];have n:(qg z.s (2 ^ z.s.aC.length) j).size=2 ^ z.s.aC.length * 7:=SN;let t:k<2 ^ z.s.aC.length:=f;let w:W (⟨iY Tryz.prog true (WgLive 284 z.W) (ML z λi=>j i\/i=k),113,z.kd,none,z.c::z.cs,R,R⟩:Cx Tryz.prog) 39 [] (.inRegion sD.1 [2,3,4,5,6,7]::(sD.2.map .code++(.inBlock 3::.inLoop MT::XE))) ((28,.v (.tuple #[cC (found z.s k),.bool true]))::eS z q) [] R:=by
   unfold eS;refine .K O (.G O (Vf.idx O O O O O (aJ Nat.cast (acD z.s k)) t) ?_);refine .fL O O (Ef.eR (aJ (λa=>some (SV.v (.pointer (some a)))) (show Addr.add ⟨q,0,none⟩ (k * 7)=⟨q,k * 7,none⟩ by rw[bM,jJ])) ⟨_,rfl,rfl⟩ O h.blk O (by rw[n];show k * 7+7<=_;omega) (bQ O)) ?_;rintro _ _ _ ⟨rfl,rfl,rfl⟩;refine .g O ?_;refine W.fA (W.again (KC (Rk:=λi=>j i\/i=k) (bn:=q) O O O O O ⟨acN h.inv,?_⟩) ⟨rfl,rfl,aE⟩ qy);exact(aJ (λc=>some (Obj.cells c 145 (0,0),true)) (VI t))▸aj _ _ _
  exact W.iB (o:=sD.1[1]?.getD default) rfl rfl V K y (bJ.all R) (show den fe (.v (.tuple #[cC (found z.s k),.bool true]))=some _ from rfl) w
 .intro g;let J:qg z.s (2 ^ z.s.aC.length) j=qg z.s (2 ^ z.s.aC.length) λ_=>True:=by
   unfold qg cl;rw[yX λi G=>?_];let S:=(g i (fo.1 G)).resolve_right id;rw[ax S,ax trivial]
  let w:W (⟨jV Tryz.prog z.Post z.W0,113,z.kd,none,z.c::z.cs,R,R⟩:Cx Tryz.prog) 39 [] (.inRegion sD.1 [2,3,4,5,6,7]::(sD.2.map .code++(.inBlock 3::.inLoop MT::XE))) ((28,.v (.tuple #[cC zC,.bool false]))::eS z q) [] R:=by
   unfold eS;refine .N O (.g O ?_);exact W.ret (Q:=λv D=>v=.slice (some ⟨q,0,none⟩) (2 ^ z.s.aC.length) (2 ^ z.s.aC.length)/\D=R) (H:=λ_ _=>False) ⟨Tryz.func113,rfl,p.kd,z.c,z.cs,rfl,λv r D X F=>by
    obtain⟨rfl,rfl⟩:=X;exact p.ret q r (F.le _ _ (by rw[<-J];exact h.blk)) (h.inv.le λb x u=>by
     let d:b∉[q]:=λe=>by rw[lT e] at u;cases u
     rw[gJ d] at u ⊢;exact F.le _ _ u),λ_ _ _ (h:False) _=>h.elim⟩ O O ⟨rfl,rfl⟩
  exact W.iB (o:=sD.1[1]?.getD default) rfl rfl V K y (bJ.all R) (show den fe (.v (.tuple #[cC zC,.bool false]))=some _ from rfl) w
open Classical in
noncomputable def HC (z:AD)(ex:bt)(R:LH):LH:=λb=>if ex b then none else if Fr0 z b then R b else(R b).map λx=>(x.1,false)
open Classical in
noncomputable def Iv (z:AD)(ex:bt)(R:LH):LH:=λb=>if ex b then R b else if Fr0 z b then none else(R b).map λx=>(x.1,false)
section
variable {z:AD}{ex:bt}{R g:LH}
def PU{x:Option (Obj×Bool)}{o:Obj}{j:Bool}(h:(x.map λx=>(x.1,false))=some (o,j)):j=false/\∃b,x=some (o,b):=by
 cases x with
 | none=>cases h
 | some y=>let⟨m,c⟩:=y;cases h;exact⟨rfl,_,rfl⟩
def RF{o:Obj}{j:Bool}(h:HC z ex R n=some (o,j)):∃b,R n=some (o,b)/\(j=true->b=true):=by
 unfold HC at h
 split at h
 .cases h
 .split at h
  .exact⟨j,h,id⟩
  .obtain⟨rfl,c,p⟩:=PU h;exact⟨c,p,λe=>by cases e⟩
def RA{o:Obj}{j:Bool}(h:Iv z ex R n=some (o,j)):∃b,R n=some (o,b)/\(j=true->b=true):=by
 unfold Iv at h
 split at h
 .exact⟨j,h,id⟩
 .split at h
  .cases h
  .obtain⟨rfl,c,p⟩:=PU h;exact⟨c,p,λe=>by cases e⟩
def agj{o:Obj}(h:HC z ex R n=some (o,true)):Iv z ex R n=none:=by
 unfold HC at h;unfold Iv
 split at h
 .cases h
 .rename_i q
  split at h
  .rename_i u;rw[A q,ax u]
  .have:=(PU h).1;cases this
def agk{o:Obj}(h:Iv z ex R n=some (o,true)):HC z ex R n=none:=by
 unfold Iv at h;unfold HC
 split at h
 .rename_i q;rw[ax q]
 .split at h
  .cases h
  .have:=(PU h).1;cases this
theorem Rz(u:Le g R):oB (nf z g) (Iv z ex R):=λb o wr d=>by
 unfold nf at d
 split at d
 ·cases d
 .rename_i a;have:=u _ _ d;unfold Iv
  split
  .exact⟨wr,this⟩
  .first | rw[A a,this] | rw[this]
   exact⟨false,rfl⟩
theorem RE(h:yk z g)(v:Le g R)(u:∀b,ex b->g b=none):yk z (HC z ex R):=by
 let y:∀b,g b≠none->¬ex b:=λb d f=>d (u b f);refine⟨h.at_.dim λb o wr d=>?_,λb x q i=>?_,λb o wr d=>?_⟩
 .unfold nf at d ⊢
  split at d
  .cases d
  .rename_i a;rw[A a];unfold HC;rw[A (y b (by rw[d];simp)),A a,v _ _ d];exact⟨false,rfl⟩
 .let r:=h.keep b x q i;unfold HC;rw[A (y b (by rw[r];simp)),ax ⟨q,by rw[i];simp⟩];exact v _ _ r
 .obtain⟨w1,q⟩:=h.jZ b o wr d;unfold HC;rw[A (y b (by rw[q];simp)),A (by
   rintro⟨e,_⟩;rw[e] at d;cases d),v _ _ q]
  exact⟨false,rfl⟩
end
noncomputable abbrev uN (z:AD):eh:=dY z (ML z)
noncomputable def Yr (z:AD):Nat->aM Tryz.prog
 | 0=>iY Tryz.prog true (WgLive 284 z.W) (GA (uN z))
 | r+1=>iY Tryz.prog true (WgLive 284 z.W) (RH (uN z) (2 ^ z.s.aC.length - (r+1)) (vP (uN z) r))
def abz(z:AD)(r:Nat):(Yr z r).Go=vP (uN z) r:=by cases r <;> rfl
def eL(z:AD)(k:Nat):Env:=[(1,pt z.bs),(3,.v (.int .i64 ((2 ^ z.s.aC.length:Nat):Int))),(4,pt z.bf),(5,pt z.W),(16,.v (.int .i64 ((2 ^ z.s.aC.length:Nat):Int))),(17,k)]
def Zl{z:AD}(p:ZOk z):∀(r k:Nat),k+r=2 ^ z.s.aC.length->∀R,yk z R->W (⟨Yr z r,113,z.kd,none,z.c::z.cs,R,R⟩:Cx Tryz.prog) 39 [] (.code agq::.inLoop agq::ait) (eL z k) [] R:=by
 let y:z.kd≠.early:=by rcases p.kd with e | e <;> rw[e] <;> decide
 let S:=TJ p.ok;let H:0<2 ^ z.s.aC.length:=Nat.pow_pos V;intro r
 induction r with
 | zero=>
  intro k T R l;unfold eL;refine .I O (λe=>ar (Int.ofNat_lt.1 (gN e)) M) (λe=>(.g O ?_));refine .a (E':=[(3,.v (.int .i64 ((2 ^ z.s.aC.length:Nat):Int))),(4,.v (pt z.bf)),(23,.f (.func 154) [] [.v (pt z.W),.v (pt z.bf)])]) (B':=[]) ?_;refine W.Ql (mn:=true) (Φ:=WgLive 284 z.W) (S1:=GA (uN z)) O O y O O O O O λj i J g d m u=>?_;refine⟨g,J,_,HC z (λ_=>False) j,Iv z (λ_=>False) j,λw _=>d w,λb o wr h=>RF h,λb o wr h=>RA h,λb o h=>agj h,λb o h=>agk h,?_,?_⟩
  .exact Sf ((Rz (z:=z) (ex:=λ_=>False) m).cell l.at_.f)
  .refine u (iY Tryz.prog true (WgLive 284 z.W) (ML z λ_=>False)) _ ?_;let K:=RE l m (ex:=λ_=>False) (λb h=>h.elim);refine .v O (Ef.Tp (n:=2 ^ z.s.aC.length) (k:=7) O M M V Tryz.underlying218 Ud M7 aem V) ?_;rintro _ _ _ ⟨X,rfl,rfl,x,rfl⟩;refine .g O ?_;refine W.mD (W.again (KC (Rk:=λ_=>False) (bn:=X) O O O O O ⟨K.le (JG (Le.put x _) (λb C=>by rw[dJ.1 C];exact x)),?_⟩) ⟨rfl,rfl,aE⟩ qy);let D:=SO (s:=z.s) (n:=2 ^ z.s.aC.length) (z:=.agg (lq zC).toArray) rfl;exact(aJ (λc=>some (Obj.cells c 145 (0,0),true)) D)▸aj _ _ _
 | succ r B=>
  intro k T R l;let F:2 ^ z.s.aC.length - (r+1)=k:=M
  let E:Yr z (r+1)=iY Tryz.prog true (WgLive 284 z.W) (RH (uN z) k (vP (uN z) r)):=by rw[<-F];rfl
  rw[E];unfold eL;refine .I O (λe=>?_) (λe=>ar (Int.ofNat_lt.2 (show k<2 ^ z.s.aC.length by omega)) (jX e));refine .g O (.cz 6 (.inl ⟨_,rfl⟩) O O ?_);intro bi I _;have a:=Le.put I (.cells #[.int .i64 k] 3);have Q:=aj R bi (.cells #[.int .i64 k] 3)
  change W _ _ _ _ _ _ (R.put bi (.cells #[.int .i64 k] 3))
  generalize R.put bi (.cells #[.int .i64 k] 3)=L1 at Q a ⊢;refine W.oF O O O O (XC (λ_ h=>h) (abC (z:=z) (ML:=ML z) k (vP (uN z) r)) L1) ?_;rintro Y v _ ⟨rfl,rfl,rfl⟩;refine .g O ?_;refine .a (E':=eL z k++[(21,.f (.func 152) [] [.v (pt z.W),.v (pt z.bf),.v (pt z.bs),.v (pt bi)])]) (B':=[]) ?_;unfold eL;refine W.Ql (mn:=true) (Φ:=WgLive 284 z.W) (S1:=Zg (uN z) k (vP (uN z) r)) O O y O O O O O λj i J g d m u=>?_;have t:=a.trans m;have q:=Rz (z:=z) (ex:=λb=>b=bi) t;have G:Iv z (λb=>b=bi) j bi=j bi:=ax rfl;refine⟨g,J,_,HC z (λb=>b=bi) j,Iv z (λb=>b=bi) j,λw _=>d w,λb o wr h=>RF h,λb o wr h=>RA h,λb o h=>agj h,λb o h=>agk h,?_,?_⟩
  .exact Rb ⟨q.cell l.at_.f,q.cells l.at_.bs,q.sw l.at_.sw,G.trans (m _ _ Q),p.ok⟩ M
  .have K:=RE l t (ex:=λb=>b=bi) (λb h=>by rw[h];exact I);rw[<-abz];refine u (Yr z r) _ ?_;refine .g O ?_;refine W.fA (W.again (B (k+1) M _ K) ?_ qy);exact⟨rfl,rfl,rfl,rfl,rfl,aJ some (cr M),aE⟩
def MN(p:eh)(b:Nat):∀r,vP {p with base:=b} r=vP p r
 | 0=>rfl
 | r+1=>by
  show Way _ _ _ (RH {p with base:=b} (p.n - (r+1)) (vP {p with base:=b} r))=_;rw[MN p b r];rfl
noncomputable abbrev outs (s:Sw):List rP:=(List.range (2 ^ s.aC.length)).map (found s)
def ah9(s:Sw)(L:LH)(v:Value)(L':LH):Prop:=
 ∃bn:Nat,v=.slice (some ⟨bn,0,none⟩) (2 ^ s.aC.length) (2 ^ s.aC.length)/\bz L' (some ⟨bn,0,none⟩) 7 lq (outs s)/\oB L L'
def ab1(s:Sw)(n:Nat):cl s n (λ_=>True)=(List.range n).map (found s):=by
 unfold cl;refine yX λi _=>?_;rw[ax trivial]
def afZ(h:n<=5):IntKind.i64.wrap (1 * 2 ^ min n IntKind.i64.bits)=((2 ^ n:Nat):Int):=by
 have:n=0\/n=1\/n=2\/n=3\/n=4\/n=5:=M
 rcases this with e | e | e | e | e | e <;> rw[e] <;> decide
def aeA{Post:dp}{W0:World}(s:Sw)(p:Wp)(L:LH)(hs:eE L s p)(u1:eD s):Sp (jV Tryz.prog Post W0) 113 [gZ s p] L (ah9 s L):=by
 have q7:=u1.w5;have q8:=afZ q7;refine Sp.enter (n:=39) Tryz.func113 O O O O λC j _ F r=>?_;refine .de [2] 99 O (.cz 1 (.inl ⟨_,rfl⟩) O O ?_);intro X q9 _;refine .G O (Vf.l O (aF (aj _ _ _) O)) (.g O ?_);rw[q8];have f0:=Le.put q9 (.cells (cX s p).toArray 132);have k0:=aj L X (.cells (cX s p).toArray 132)
 change W _ _ _ _ _ _ (L.put X (.cells (cX s p).toArray 132))
 generalize z7:L.put X (.cells (cX s p).toArray 132)=L1 at f0 k0 ⊢;refine .e O (Ef.makeChan O Tryz.underlying278 M7) ?_;rintro _ _ _ ⟨k,rfl,rfl,u4,rfl⟩;refine .de [16] 99 O (.cz 4 (.inl ⟨_,rfl⟩) O O ?_);intro G v0 _;refine .cz 5 (.inl ⟨_,rfl⟩) O O ?_;intro a w _;have f1:=Le.put u4 (.chan 0 #[] false 0 0 false);have f2:=Le.put v0 (.cells #[.chan (some k)] 278);have f3:=Le.put w (.cells #[.int .u64 0,.int .u32 0] 284);have D:=f3 _ _ (f2 _ _ (aj L1 k (.chan 0 #[] false 0 0 false)));have k2:=f3 _ _ (aj (L1.put k (.chan 0 #[] false 0 0 false)) G (.cells #[.chan (some k)] 278));have B:=aj ((L1.put k (.chan 0 #[] false 0 0 false)).put G (.cells #[.chan (some k)] 278)) a (.cells #[.int .u64 0,.int .u32 0] 284);have I:=f1.trans (f2.trans f3);have l:=I _ _ k0;have u5:=bN f0 u4;have u6:=bN f0 (bN f1 (bN f2 w));clear f1 f2 f3
 change W _ _ _ _ _ _ (((L1.put k (.chan 0 #[] false 0 0 false)).put G (.cells #[.chan (some k)] 278)).put a (.cells #[.int .u64 0,.int .u32 0] 284))
 generalize((L1.put k (.chan 0 #[] false 0 0 false)).put G (.cells #[.chan (some k)] 278)).put a (.cells #[.int .u64 0,.int .u32 0] 284)=L5 at l D k2 B I ⊢;have u7:=f0.trans I;refine .g O ?_;refine .a (E':=[(1,.v (pt X)),(3,.v (.int .i64 ((2 ^ s.aC.length:Nat):Int))),(4,.v (pt G)),(5,.v (pt a)),(16,.v (.int .i64 ((2 ^ s.aC.length:Nat):Int))),(17,.v (.int .i64 0))]) (B':=[]) ?_;intro T R β hT hE H;have nw:∀{b:Nat},L5 b≠none->L b=none->C.R0 b=none:=λh h'=>(H.fresh _ h).resolve_left (λQ=>Q (by rw[F];exact h'));have u8:a≠k:=λe=>by subst e;rw[B] at D;cases D
 have v1:G≠k:=λe=>by subst e;rw[k2] at D;cases D
 have v2:X≠k:=λe=>by subst e;rw[l] at D;cases D
 have v4:X≠a:=λe=>by subst e;rw[l] at B;exact ar B U
 have v5:G≠a:=λe=>by subst e;rw[k2] at B;exact ar B U
 have t:C.f=113:=by assumption
 obtain⟨hf,v6,v7,cf,cs,v8,E,-⟩:=r;rw[j] at E
 let z:AD:={s:=s,p:=p,W:=a,C:=k,bs:=X,bf:=G,L0:=C.L0,R0:=C.R0,kd:=C.kd,c:=cf,cs:=cs,Post:=Post,W0:=W0}
 have m:∀b,L5 b≠none->¬Fr0 z b:=λb d=>by
  rintro⟨q,Q⟩;exact(H.fresh b d).elim (λh=>h q) Q
 have J:Le (L5.less [a,k]) (nf z (R.kJ a k k)):=λb y g=>by
  have u9:b∉[a,k]:=λh=>by rw[lT h] at g;cases g
  have v9:b≠a:=λe=>by subst e;exact u9 U
  have z1:b≠k:=λe=>by subst e;exact u9 U
  have q0:=Eg _ _ _ _ g;unfold nf;rw[A (m b (by rw[q0];simp))];unfold LH.kJ;rw[A (by simp[v9,z1])];exact H.le _ _ q0
 have z2:Le L (L5.less [a,k]):=JG u7 λb d=>by
  simp only[eP,kB,or_false] at d;rcases d with rfl | rfl
  .exact u6
  .exact u5
 have q1:EW z (nf z (R.kJ a k k)):=by
  refine⟨?_,?_,hs.le (z2.trans J)⟩
  .exact dU (vs:=cX s p) (J _ _ ((gJ (show X∉[a,k] by simp[v4,v2])).trans l)) O
  .exact J.cell (aF ((gJ (show G∉[a,k] by simp[v5,v1])).trans k2) O)
 have q2:yk z (R.kJ a k k):=by
  refine⟨q1,λb y q Q=>?_,λb o wr d=>?_⟩
  .have h3:=H.keep b y q Q;have K:∀b',L5 b'≠none->b≠b':=λb' h' h4=>by
    subst h4;rcases H.fresh b h' with h | h
    .exact h q
    .exact ar (Q.symm.trans h) U
   unfold LH.kJ;rw[A (by simp[K a (by rw[B];simp),K k (by rw[D];simp)])];exact h3
  .have u2:L b=some (o,wr):=by rw[<-F];exact d
   have K:∀b',L b'=none->b≠b':=λb' h' h4=>by subst h4;rw[h'] at u2;cases u2
   refine⟨wr,?_⟩;unfold LH.kJ;rw[A (by simp[K a u6,K k u5])];exact H.le _ _ (u7 _ _ u2)
 have hz:ZOk z:=by
  refine⟨u1,v7,λi R' z3 S=>?_⟩;have q3:C.L0 i=none:=by
   cases e:C.L0 i with
   | none=>rfl
   | some y=>
    obtain⟨o,wr⟩:=y;obtain⟨w1,q⟩:=S.jZ i o wr e;rw[lT (dJ.2 rfl)] at q;cases q
  have q4:C.R0 i=none:=by
   cases e:C.R0 i with
   | none=>rfl
   | some y=>
    have q:=S.keep i y q3 e;rw[lT (dJ.2 rfl)] at q;cases q
  have q5:∀b,(C.L0 b≠none\/C.R0 b≠none)->b∉[i]:=λb h e=>by
   rw[dJ.1 e] at h;exact h.elim (λh=>h q3) λh=>h q4
  let Lz:LH:=λb=>open Classical in if C.L0 b≠none\/C.R0 b=none then R' b else none
  have z4:Le Lz R':=λb y g=>by
   have:(open Classical in if C.L0 b≠none\/C.R0 b=none then R' b else none)=some y:=g
   split at this
   .exact this
   .cases this
  have q6:∀b o wr,L b=some (o,wr)->∃z5,Lz b=some (o,z5):=λb o wr d=>by
   have u3:C.L0 b=some (o,wr):=by rw[F];exact d
   obtain⟨w1,q⟩:=S.jZ b o wr u3;refine⟨w1,?_⟩;show(open Classical in if C.L0 b≠none\/C.R0 b=none then R' b else none)=_;rw[ax (.inl (by rw[u3];simp))];rw[gJ (q5 b (.inl (by rw[u3];simp)))] at q;exact q
  have z6:Lz i=some (.cells ((outs s).flatMap lq).toArray 145 (0,0),true):=by
   show(open Classical in if C.L0 i≠none\/C.R0 i=none then R' i else none)=_;rw[ax (.inr q4),z3];unfold qg;rw[ab1]
  refine E _ R' Lz ⟨i,rfl,cY (e:=145) wP z6,q6⟩ ⟨z4,λb x q Q=>?_,λb d=>?_,λb d=>?_⟩
  .have h3:=S.keep b x q Q
   rwa [gJ (q5 b (.inr (by rw[Q];simp)))] at h3
  .by_cases q:C.L0 b≠none\/C.R0 b=none
   .exact q
   .exact ar (show(open Classical in if C.L0 b≠none\/C.R0 b=none then R' b else none)=none from A q) d
  .rw[F] at d;cases u:L b with
   | none=>exact ar u d
   | some y=>
    obtain⟨w1,q⟩:=q6 b y.1 y.2 u;rw[q];simp
 have z8:=TJ u1;rw[j,v6,v8,t];refine pJ.aja (dY z (ML z)) (show 2 ^ s.aC.length<2147483647 by omega) ⟨u8,u8⟩ (H.le _ _ B) (H.le _ _ D) (H.le _ _ D) (λb=>aaU hz b) (λb=>Zn b) (λ_ _ h=>h) λb=>?_;show vP {uN z with base:=b} (2 ^ s.aC.length) _ _;rw[MN,<-abz];exact W.mD (Zl hz (2 ^ s.aC.length) 0 (by show 0+2 ^ s.aC.length=2 ^ s.aC.length;omega) _ q2) T _ fe hT (hE.adY uU O) (bJ.all _)
end
section
open Go.Proofs
def BM(s:Sw)(x y:rP):Bool:=
 if fb s (bB x.w)≠fb s (bB y.w)\/x.n≠y.n then decide (fb s (bB y.w)<fb s (bB x.w))||(decide (fb s (bB x.w)=fb s (bB y.w))&&decide (x.n<y.n)) else zU (bB x.w) (bB y.w)
def Zq(s:Sw)(p:Wp)(K:Nat)(x y:rP)(L:LH)(b:cD L ⟨K,0,none⟩ 4 (cX s p))(a:eE L s p)(e:eD s)(D:x.w<32)(g:y.w<32)(F:tn s (bB x.w))(i:tn s (bB y.w)):
  Sp X 111 [cC x,cC y,pt K] L (λv G=>v=.bool (BM s x y)/\Le L G):=by
 refine Sp.e Tryz.func111 O λC Q d r=>(.g O ?_);refine W.drawn aN L (Le.refl _) (.u 0 rfl (Vf.q rfl ((by exact b))) (.run' [1,2] rfl (.u 4 rfl (Vf.q rfl ((by exact b))) (.run' [5,6] rfl (.c 3 rfl rfl (P4 s p x.w _ a e D F) Q1 ?_)))));rintro _ _ ⟨rfl,j⟩;refine .c 7 rfl rfl (P4 s p y.w _ (a.le j) e g i) (by rintro _ _ ⟨rfl,o⟩;exact j.trans o) ?_;rintro _ _ ⟨rfl,f⟩;refine .run' [8,9] O (.fin O (.g O (.g O ?_)));have H:(fb s (bB x.w) !=fb s (bB y.w))=true->fb s (bB x.w)≠fb s (bB y.w):=λh=>by simpa using h
 refine .s O (λz=>?_) (λz=>?_)
 .refine .g O ?_;have z:=H z;refine .s O (λq=>?_) (λq=>?_)
  .refine .D r O ⟨?_,j.trans f⟩;simp at q;unfold BM;rw[ax (.inl z)];simp[q,lv]
  .refine .I O (λu=>?_) (λu=>?_)
   .simp at u;exact ar u z
   .refine .D r O ?_;refine⟨?_,j.trans f⟩;simp at q;unfold BM;rw[ax (.inl z)];have:¬fb s (bB y.w)<fb s (bB x.w):=by omega
    simp[this,z,lv]
 refine .g O ?_;simp at z;refine .s O (λq=>?_) (λq=>?_)
 .refine .g O ?_;have q:x.n≠y.n:=by simpa using q
  refine .F O ?_ bU;refine .g O ?_;refine .T O ?_ (by simp[z]);refine .D r O ?_;refine⟨?_,j.trans f⟩;unfold BM;rw[ax (.inr q)];simp[z,lv]
 refine .g O ?_;simp at q;have r1:BM s x y=zU (bB x.w) (bB y.w):=by unfold BM;rw[A (by simp[z,q])]
 have k:=oE x.w;have R:=oE y.w;have S:=jF (bB x.w);have T:=jF (bB y.w);refine .z (.run' [0,1,3,4] rfl (.c 2 rfl rfl (uH x.w D _) Gd ?_));rintro c _ ⟨a1,c1,rfl,t,I,_⟩;refine .c 5 rfl rfl (uH y.w g _) (by rintro _ _ ⟨_,_,rfl,o,_⟩;exact t.trans o) ?_;rintro B _ ⟨m,c2,rfl,l,J,_⟩;refine .c 6 rfl rfl (Rs a1 m c1 c2 (cm (bB x.w)) (cm (bB y.w)) _ (I.le l) J M M) (by rintro _ _ ⟨rfl,rfl⟩;exact t.trans l) ?_;rintro _ _ ⟨rfl,rfl⟩;refine .run' [7,8] O (.fin O (.D r O ?_));refine⟨?_,((j.trans f).trans t).trans l⟩;rw[r1,<-I7];simp[lv]
def yF(s:Sw)(o:yb)(y:rP)(sm:Bool):Prop:=match o with
 | none=>sm=false/\y=zC
 | some c=>sm=true/\∃m,m<2 ^ s.aC.length/\dE s (bB m)=some c/\y=oj m c
def SR{c:Cr}(h:dE s (bB k)=some c):found s k=oj k c:=by unfold found Vv;rw[h]
def SQ(h:dE s (bB k)=none):(found s k).i=false:=by unfold found Vv;rw[h]
def D6(s:Sw)(k:Nat):List (Option Cr):=(List.range k).map λm=>dE s (bB m)
def vX(s:Sw)(k:Nat):D6 s (k+1)=D6 s k++[dE s (bB k)]:=by unfold D6;rw[nI,iq];rfl
def vU(s:Sw)(so:C8)(k:Nat):Option Cr:=gT (yC s) (((D6 s k).filterMap id).filter λc=>so c.w)
def R5{l:C8}(h:dE s (bB k)=none):vU s l (k+1)=vU s l k:=by
 unfold vU;rw[vX,h,Fh];simp
def Zr{l:C8}{c:Cr}(h:dE s (bB k)=some c)(a:l c.w=false):vU s l (k+1)=vU s l k:=by
 unfold vU;rw[vX,h,Fh,yY];simp[a]
def Vn{l:C8}{c:Cr}(h:dE s (bB k)=some c)(a:l c.w=true):vU s l (k+1)=mR (yC s) (vU s l k) c:=by
 unfold vU;rw[vX,h,Fh,yY,show List.filter (λc=>l c.w) (List.filterMap id [some c])=[c] by simp[a],rH]
def ac1{a b:Cr}(u:dE s (bB m)=some a)(d:dE s (bB n)=some b):BM s (oj m a) (oj n b)=yC s a b:=by
 let q:=(js u).1;let z:=(js d).1;unfold BM yC;rw[q,z]
 rfl
def yF.take{o:yb}{y:rP}{w:Bool}(h:yF s o y w){c:Cr}(u:m<2 ^ s.aC.length)(b:dE s (bB m)=some c):yF s (mR (yC s) o c) (if !w||BM s (oj m c) y then oj m c else y) true:=by
 cases o with
 | none=>
  obtain⟨rfl,rfl⟩:=h;exact⟨rfl,m,u,b,rfl⟩
 | some z=>
  obtain⟨rfl,n,q,p,rfl⟩:=h;rw[ac1 b p];show yF s (if yC s c z then some c else some z) _ _;cases yC s c z
  .exact⟨rfl,n,q,p,rfl⟩
  .exact⟨rfl,m,u,b,rfl⟩
def yF.wn(v:eD s){o:yb}{y:rP}{q:Bool}(h:yF s o y q):y.w<32/\tn s (bB y.w):=by
 cases o with
 | none=>
  obtain⟨rfl,rfl⟩:=h;exact⟨V,λi u=>by rw[show bB zC.w=[] from by decide] at u;cases u⟩
 | some z=>
  obtain⟨rfl,n,d,p,rfl⟩:=h;have:=TJ v;exact⟨show n<32 by omega,DF d⟩
abbrev fsF(b:Nat):Value:=.func (.func 111) #[] #[pt b]
abbrev agD(b:Nat)(y:rP)(sm:Bool):Value:=.agg (fsF b::(lq y++[Value.bool sm])).toArray
theorem abR{Post:dp}{W0:World}(s:Sw)(p:Wp)(l:C8)(fv:Value)(L:LH)(hs:eE L s p)(D:eD s)(u1:∃a b c,fv=.func a b c)
  (u2:∀(F:LH) (m:Nat),oB L F->m<2 ^ s.aC.length->vQ (jV Tryz.prog Post W0) fv [.int .u8 m] F (λv u3=>v=.bool (l (bB m))/\Le F u3)):
  Sp (jV Tryz.prog Post W0) 71 [gZ s p,fv] L (λv F=>∃u y I,v=agD u y I/\yF s (qO s l) y I/\oB L F):=by
 obtain⟨yf,h,yc,rfl⟩:=u1;have h5:=TJ D;refine Sp.e (n:=29) Tryz.func71 O λC hX q2 r=>?_;refine .de [8] 99 O (.cz 2 (.inl ⟨_,rfl⟩) O O ?_);intro J u4 _;refine .g O ?_;have i:=Le.put u4 (.cells (cX s p).toArray 132);have k2:=aj L J (.cells (cX s p).toArray 132)
 change W _ _ _ _ _ _ (L.put J (.cells (cX s p).toArray 132))
 generalize L.put J (.cells (cX s p).toArray 132)=L1 at k2 i ⊢;refine .u O (Vf.q O ((by exact dU (vs:=cX s p) k2 O))) (.g O ?_);have g:=aeA (Post:=Post) (W0:=W0) s p L1 (hs.le i) D;rw[<-hX] at g;refine .c O g ?_;rintro v0 _ ⟨bn,rfl,ho,Q⟩;rename_i L2;have hd:=(oB.of_le i).trans Q;refine .g O ?_;have c2:cD L2 ⟨J,0,none⟩ 4 (cX s p):=Q.cells (dU (vs:=cX s p) k2 rfl);refine .cz 5 (.inl ⟨_,rfl⟩) O O ?_;intro T R _;have g5:=aj L2 T (.cells (.func (.func 111) #[] #[pt J]::(lq zC++[.bool false])).toArray 147);have u5:=Le.put R (.cells (.func (.func 111) #[] #[pt J]::(lq zC++[.bool false])).toArray 147);have o:(outs s).length=2 ^ s.aC.length:=by unfold outs;simp
 refine .l (λm E B F=>∃(k:Nat) (y:rP) (I:Bool),m=2 ^ s.aC.length - k/\k<=2 ^ s.aC.length/\yF s (vU s l k) y I/\Le L2 F/\F T=some (.cells (.func (.func 111) #[] #[pt J]::(lq y++[Value.bool I])).toArray 147 (0,0),true)/\E=[(1,.v (.func yf h yc)),(4,.p 1 0),(5,.v (pt T)),(11,.v (.slice (some ⟨bn,0,none⟩) (2 ^ s.aC.length) (2 ^ s.aC.length))),(12,.v (.int .i64 ((2 ^ s.aC.length:Nat):Int))),(13,.v (.int .i64 k))]/\B=[none,some ⟨List.map SV.v ad5.z.cells.toList,147⟩]) ⟨0,zC,false,rfl,M,⟨rfl,rfl⟩,u5,g5,rfl,rfl⟩ ?_
 rintro _ _ _ L4 ⟨k,y,I,rfl,hk,j,x,d,rfl,rfl⟩ again;refine .I O (λe1=>W.go 99 O ?_) (λe1=>W.go 99 O ?_)
 ·have K:k<2 ^ s.aC.length:=Int.ofNat_lt.1 (gN e1);have G:(outs s)[k]?=some (found s k):=by unfold outs;rw[im,Fj K];rfl
  have q:=hd.trans (oB.of_le x);have t:=q.sw hs;have c4:=x.cD c2;refine .u O (Vf.j O O (K)) (.g O ?_);cases H:dE s (bB k) with
  | none=>
   have u6:=SQ H;generalize found s k=fc at *;refine .u O (Vf.q O ((ho.le x).whole G O)) (.K O ?_ (by rw[u6];simp));refine .g O ?_;exact .a (again _ _ _ _ M ⟨k+1,y,I,rfl,M,by rw[R5 H];exact j,x,d,rfl,rfl⟩)
  | some c=>
   have f:=(js H).1;rw[SR H] at G;refine .u O (Vf.q O ((ho.le x).whole G O)) (.N O ?_ (by simp[oj]));refine .g O ?_;have hv:=u2 L4 k q K;rw[<-hX] at hv;refine .e O (Ef.uz O O O hv) ?_;rintro _ _ _ ⟨_,rfl,rfl,rfl,w⟩;rename_i L5;have d:=w _ _ d;refine .I O (λe2=>?_) (λe2=>?_)
   .refine .g O ?_;have u7:=Uy (X:=C.X) T (.func (.func 111) #[] #[pt J]) ⟨_,_,_,rfl⟩ (oj k c) y I (BM s (oj k c) y) L5 d (λq3=>by
     have S:=j.wn D;refine Sp.LJ (args:=[cC (oj k c),cC y]) (f1:=[]) (f2:=[pt J]) (Zq s p J (oj k c) y L5 (w.cD c4) (t.le w) D (show k<32 by omega) S.1 (DF K) S.2))
    refine .c O u7 ?_;rintro _ _ hQ;obtain⟨rfl,u9,q0⟩:=hQ;rename_i L6;refine .g O ?_;exact .a (again _ _ _ _ M ⟨k+1,_,true,rfl,M,by rw[Vn H (by rw[f];exact e2)];exact j.take K H,λb z hz=>u9 b z (λe=>by subst e;rw[R] at hz;cases hz) (w _ _ (x _ _ hz)),q0,rfl,rfl⟩)
   .refine .g O ?_;exact .a (again _ _ _ _ M ⟨k+1,y,I,rfl,M,by rw[Zr H (by rw[f];exact e2)];exact j,x.trans w,d,rfl,rfl⟩)
 .have q1:k=2 ^ s.aC.length:=by
   have:¬(k:Int)<((2 ^ s.aC.length:Nat):Int):=jX e1;have:=mt Int.ofNat_lt.2 this;omega
  subst q1;refine .u O (Vf.q O ((by exact dU (vs:=.func (.func 111) #[] #[pt J]::(lq y++[Value.bool I])) d O))) (.D r O ?_);exact⟨_,y,I,rfl,j,hd.trans (oB.of_le x)⟩
def Vf.ae8{s:Array Field}{d:Field}{cs ds:aR}(u:bZ E x=some z)(g:den fe z=some (.agg cs.toArray))(i:P.underlying t=some (.struct s))(a:s[k]?=d)(f:iZ P d.type=true)(m:(P.info? d.type).map (·.size)=n)(j:(cs.drop d.offset).take n=ds):
  Vf P (.field t x k) E B L (.v (.agg ds.toArray)):=λT R β h _ _=>by
 let q:ev T x=.agg cs.toArray:=bR ((h.val u).symm.trans (fw g β));refine⟨_,rfl,λp w y l o Q H c=>?_⟩;simp only[execOp,q];rw[Z];unfold Instr.field;show aP P _ H (underlying t>>= _) R;rw[Z,aD i];simp only[a];show aP P _ H (Go.part d.type cs.toArray d.offset) R;rw[Mc f m];let e:cs.toArray.extract d.offset (d.offset+n)=ds.toArray:=by
  rw[<-j];simp[List.extract_eq_take_drop]
 rw[e];exact c
def yF.aC{o:yb}{y:rP}{u:Bool}(h:yF s o y u):bB y.w=nZ o:=by
 cases o with
 | none=>obtain⟨rfl,rfl⟩:=h;decide
 | some z=>
  obtain⟨rfl,n,q,p,rfl⟩:=h;exact((js p).1).symm
def acA(X:aM Tryz.prog)(v:Value)(L:LH):vQ X (.func (.func 72) #[] #[]) [v] L (λv u=>v=.bool true/\Le L u):=
 vQ.mono (Sp.LJ (args:=[v]) (ZR v L)) λv u h=>⟨h.1,by rw[h.2];exact Le.refl _⟩
def Zp{Post:dp}{W0:World}(s:Sw)(p:Wp)(L:LH)(a:eE L s p)(q:eD s):
  Sp (jV Tryz.prog Post W0) 71 [gZ s p,.func (.func 72) #[] #[]] L (λv z=>∃u y w,v=agD u y w/\yF s (qO s λ_=>true) y w/\oB L z):=
 abR s p (λ_=>true) _ L a q ⟨_,_,_,rfl⟩ λz m _ _=>acA _ _ _
def agV(x:List Nat×Int×Int)(L:LH)(v:Value)(L':LH):Prop:=∃ad cap,v=.tuple #[.slice ad x.1 cap,.int .i64 x.2.1,.int .i64 x.2.2]/\bK L' ad (cm x.1)/\oB L L'
def aba{Post:dp}{W0:World}(s:Sw)(p:Wp)(L:LH)(h:eE L s p)(e:Sm s):Sp (jV Tryz.prog Post W0) 31 [gZ s p] L (agV (dP s) L):=by
 refine Sp.e Tryz.func31 O λC I J r=>(.o O (Em s p none none 0 0 [] [] L h e bz.empty bz.empty U U) ?_);intro z _ ⟨m,c⟩;refine .g O ?_;rename_i K;rw[xF] at c;rcases c with⟨he,rfl⟩ | ⟨he,rfl⟩
 .have i:dP s=([],0,e8 s):=by unfold dP;rw[ax he]
  rw[i] at r;refine .I O (λt=>W.go 99 O ?_) (λt=>W.go 99 O ?_)
  .refine .r r O ?_;exact⟨none,0,rfl,bz.empty,oB.of_le m⟩
  .simp at t;exact ar t he
 have f:=nA he;have i:dP s=(nZ (qO s λ_=>true),fb s (nZ (qO s λ_=>true)),0):=by unfold dP;rw[A (by simp[he])]
 rw[i] at r;refine .I O (λt=>?_) (λt=>?_)
 .simp at t
 refine .a (E':=[(5,.p 1 0),(14,.lit false)]) (B':=[some ⟨cL (.v (gZ s p)),52⟩,some ⟨cL (.v (gZ s p)),132⟩]) ?_;refine .g O ?_;have d:=Zp (Post:=Post) (W0:=W0) s p K (h.le m) f;rw[<-I] at d;refine .c O d ?_;rintro F _ ⟨u,y,D,rfl,j,hd⟩;rename_i g;have a:=j.wn f;rw[<-j.aC] at r;refine .g rfl (.u rfl (Vf.ae8 (cs:=fsF u::(lq y++[Value.bool D])) (ds:=lq y) rfl rfl Tryz.underlying147 rfl aey Ud rfl) (.g rfl (.z (.run' [0,1,3,4,5] rfl (.c 2 rfl rfl (uH y.w a.1 _) Gd ?_)))));rintro G _ ⟨l,k,rfl,q,x,_⟩;refine .c 6 rfl rfl (P4 s p y.w _ ((hd.sw (h.le m)).le q) f a.1 a.2) (by rintro _ _ ⟨rfl,o⟩;exact q.trans o) ?_;rintro v3 _ ⟨rfl,b⟩;refine .run' [7,8,9] O (.fin O (.D r O ?_));exact⟨l,k,by rw[jF];rfl,x.le b,((oB.of_le m).trans hd).trans (oB.of_le (q.trans b))⟩
def Of[DecidableEq α]{b:List α}(h:r.take n=b.take n)(i:n=r.length\/n=b)(q:n<=r)(z:n<=b):((r:Int)==(b:Int))=decide (r=b):=by
 rw[Fe,beq_iff_eq,decide_eq_true_eq]
 constructor
 .intro e;rw[qG M,qG M] at h;exact h
 .rintro rfl;rfl
def W5{b:List α}(h:r.take n=b.take n)(q:n<r.length)(z:n<b.length)(u:r[n]=b[n]):r.take (n+1)=b.take (n+1):=by
 rw[ja q,ja z,h,u]
def oC(o t:bA)(l k:Nat)(a b:aH)(L:LH)(x:bK L o a)(h:bK L t b)(K:a.length<=1000000)(D:b.length<=1000000):
  Sp X 62 [.slice o a l,.slice t b k] L (λv g=>v=.bool (decide (a=b))/\L=g):=by
 refine Sp.e (n:=32) Tryz.func62 O λC j J r=>?_;refine .g O ?_;refine .l (λm E B g=>∃(i:Nat),m=a - i/\i<=a/\i<=b.length/\a.take i=b.take i/\L=g/\E=[(0,.v (.slice o a.length l)),(1,.v (.slice t b.length k)),(5,.v (.int .i64 i))]/\B=[]) ⟨0,rfl,M,M,rfl,rfl,rfl,rfl⟩ ?_
 rintro _ _ _ _ ⟨i,rfl,I,z,s,rfl,rfl,rfl⟩ again;refine .I O (λp=>W.go 99 O ?_) (λp=>W.go 99 O ?_)
 .have f:i<a.length:=by simpa using p
  refine .s O (λq=>W.go 99 O ?_) (λq=>W.go 99 O ?_)
  .have d:i<b.length:=by simpa using q
   obtain⟨w,rfl⟩:=x.addr f;obtain⟨y,rfl⟩:=h.addr d;refine .z (.run' [0,1,4,5] O (.u 2 O (Vf.b O O (f)) (.u 3 O (Vf.l O (x.int (bX f))) (.u 6 O (Vf.b O O (d)) (.u 7 O (Vf.l O (h.int (bX d))) (.run' [8] O ?_))))));refine .fin O ?_;refine .I O (λu=>W.go 99 O ?_) (λu=>W.go 99 O ?_)
   .refine .r r O ?_;have c:a≠b:=λe=>by subst e;simp at u
    rw[mB c];exact⟨rfl,rfl⟩
   .exact .a (again _ _ _ _ M ⟨i+1,rfl,M,M,W5 s f d Ll,rfl,rfl,rfl⟩) ⟨rfl,rfl,aJ some (cr M),aE⟩
  .refine .r r O ?_;have d:i=b.length:=by simp at q;omega
   rw[<-Of s (.inr d) I z];exact⟨rfl,rfl⟩
 .refine .r r O ?_;have f:i=a.length:=by simp at p;omega
  rw[<-Of s (.inl f) I z];exact⟨rfl,rfl⟩
structure gQ(L:LH)(b:Nat)(ad:Option Addr)(cap:Nat)(l:List Int)(n:Nat):Prop where
 blk:∃TS:Int,L b=some (.cells [Value.slice ad l.length cap,.int .i64 n,.int .u64 TS].toArray 96 (0,0),true)
 ints:bK (L.bT b) ad l
def gQ.next(h:gQ L k d m l n)(f:∀b,b≠k->R b=L b)(a:∃o:Int,R k=some (.cells [Value.slice d l.length m,.int .i64 ((n+1:Nat):Int),.int .u64 o].toArray 96 (0,0),true)):gQ R k d m l (n+1):=by
 refine⟨a,?_⟩;have e:R.bT k=L.bT k:=by
  funext b
  unfold LH.bT
  split
  .rfl
  .rename_i u;exact f b u
 rw[e];exact h.ints
def gQ.le(h:gQ L k d m l n)(o:Le L R):gQ R k d m l n:=
 ⟨let⟨j,g⟩:=h.blk;⟨j,o _ _ g⟩,h.ints.le λb x u=>by
  rw[bW (λe=>by subst e;unfold LH.bT at u;rw[ax rfl] at u;cases u)];exact o _ _ (gC _ _ _ _ u)⟩
def YV(y:Int):0<=IntKind.u64.wrap y:=by
 unfold IntKind.wrap;exact Int.emod_nonneg _ V
def u64_in(y:Int)(q:0<=y)(z:y<18446744073709551616):IntKind.u64.wrap y=y:=by
 unfold IntKind.wrap;exact Int.emod_eq_of_lt q z
def ai7(h:n<=1000000):IntKind.i64.wrap ((n:Int)+1)=((n+1:Nat):Int):=by rw[wrap64_in _ M M];rfl
def adU(b:Nat)(s:bA)(z:Nat)(l:aH)(n:Nat)(L:LH)(h:gQ L b s z l n)(e:n<=1000000)(K:l.length<=140737488355328):
  Sp X 51 [pt b] L (λv w=>(∃x:Int,v=.int .u64 x/\0<=x)/\(∀q,q≠b->w q=L q)/\∃o:Int,w b=some (.cells [Value.slice s l z,.int .i64 ((n+1:Nat):Int),.int .u64 o].toArray 96 (0,0),true)):=by
 obtain⟨⟨o,d⟩,i⟩:=h;have i:=i.le (gC _ _);refine Sp.e (n:=75) Tryz.func51 O λC j I r=>?_;refine .G O (Vf.l O (aF d O)) (.t O (.run' [0,1,2,4,5,6] O (.u 3 O (Vf.l O (aF d O)) (.u 7 O (Vf.l O (aF d O)) ?_))));refine .run' [8,9] O (.fin O ?_);refine W.agt (λE B w=>L=w/\∃y:Int,gR E [(0,.v (pt b)),(3,.v (.int .u64 y))]) ?_ ?_
 .rintro E B _ ⟨rfl,y,J⟩;refine .kI (B':=[]) J (by cases B <;> exact aE) ?_;refine .G O (Vf.l O (aF d O)) (.g O ?_);rw[ai7 e];refine .fL O O (Ef.Hv O ⟨_,rfl,rfl⟩ O d O O O O O) ?_;rintro _ _ _ ⟨rfl,rfl,rfl⟩;refine .G O (Vf.l O (aF (aj _ _ _) O)) (.g O ?_);refine .fL O O (Ef.Hv O ⟨_,rfl,rfl⟩ O (aj _ _ _) O O O O O) ?_;rintro _ _ _ ⟨rfl,rfl,rfl⟩;refine .g O ?_;generalize a:LH.put (LH.put L b _) b _=k;have t:∀q,q≠b->k q=L q:=λq u=>by rw[<-a,aB _ _ u,aB _ _ u]
  obtain⟨g,m⟩:∃g:Int,k b=some (.cells [Value.slice s l z,.int .i64 ((n+1:Nat):Int),.int .u64 g].toArray 96 (0,0),true):=⟨_,by rw[<-a];exact aj _ _ _⟩;clear a;refine .f (.run' [0,1,2,3,5,6,7] O ?_);refine DD.IG 4 8 rfl rfl rfl rfl rfl rfl rfl rfl (Ef.val rfl (Vf.l rfl (by exact aF m rfl))) (Ef.val rfl (Vf.l rfl (by exact aF m rfl))) dV dV ?_ ?_
  .rintro _ _ _ ⟨rfl,rfl,c⟩;obtain rfl:=c.symm;refine .a 8 rfl (Ef.val rfl (Vf.l rfl (aF m rfl))) dV ?_;rintro _ _ _ ⟨rfl,rfl,rfl⟩;refine .run' [9,10,11,12] rfl (.a 13 rfl (Ef.Hv rfl ⟨_,rfl,rfl⟩ rfl m rfl rfl rfl rfl rfl) (dV) ?_);rintro _ _ _ ⟨rfl,rfl,rfl⟩;refine .fin O ?_;refine .G O (Vf.l O (aF (aj _ _ _) O)) (.D r O ?_);exact⟨⟨_,rfl,Int.fdiv_nonneg (YV _) V⟩,λq u=>by rw[aB _ _ u];exact t q u,_,aj _ _ _⟩
  .rintro _ _ _ ⟨rfl,rfl,c⟩;obtain rfl:=c.symm;refine .run' [9] rfl (.a 4 rfl (Ef.val rfl (Vf.l rfl (aF m rfl))) dV ?_);rintro _ _ _ ⟨rfl,rfl,rfl⟩;refine .run' [10,11,12] rfl (.a 13 rfl (Ef.Hv rfl ⟨_,rfl,rfl⟩ rfl m rfl rfl rfl rfl rfl) (dV) ?_);rintro _ _ _ ⟨rfl,rfl,rfl⟩;refine .fin O ?_;refine .G O (Vf.l O (aF (aj _ _ _) O)) (.D r O ?_);exact⟨⟨_,rfl,Int.fdiv_nonneg (YV _) V⟩,λq u=>by rw[aB _ _ u];exact t q u,_,aj _ _ _⟩
 .intro rest;refine .s O (λp=>?_) (λp=>?_)
  .have f:n<l:=by simpa using p
   obtain⟨D,rfl⟩:=i.addr f;refine .t O (.run' [0,1,2,3,5,6,7] O (.u 4 O (Vf.l O (aF d O)) (.u 8 O (Vf.l O (aF d O)) (.u 9 O (Vf.b O O (f)) (.u 10 O (Vf.l O (i.int (bX f))) ?_)))));refine .run' [11,12,13,14] O (.fin O ?_);exact rest _ _ _ ⟨rfl,_,rfl,rfl,aE⟩
  .refine .go 2 O ?_;exact rest _ _ _ ⟨rfl,_,rfl,rfl,aE⟩
def sB(b:Nat)(g:bA)(t:Nat)(l:aH)(n m:Nat)(L:LH)(h:gQ L b g t l n)(k:n<=1000000)(e:l.length<=140737488355328)(J:m<=1000000):
  Sp X 9 [pt b,m] L (λv w=>(∃y:Nat,v=y/\y<=m)/\(∀c,c≠b->w c=L c)/\∃o:Int,w b=some (.cells [Value.slice g l.length t,.int .i64 ((n+1:Nat):Int),.int .u64 o].toArray 96 (0,0),true)):=by
 refine Sp.e Tryz.func9 O λC j d r=>(.o O (adU b g t l n L h k e) ?_);rintro _ _ ⟨⟨x,rfl,u⟩,f,a⟩;refine .I O (λp=>W.go 99 O ?_) (λp=>W.go 99 O ?_)
 .refine .r r O ?_;exact⟨⟨0,rfl,M⟩,f,a⟩
 .have q:1<=m:=by simp at p;omega
  rw[u64_in (m:Int) M M,u64_in ((m:Int)+1) M M];have s:0<=x.tmod ((m:Int)+1):=Int.tmod_nonneg _ u;have i:x.tmod ((m:Int)+1)<(m:Int)+1:=Int.tmod_lt_of_pos _ M;have z:vy .rem .u64 x ((m:Int)+1)=some (.int .u64 (x.tmod ((m:Int)+1))):=by
   have I:¬((m:Int)+1=0):=M
   simp[vy,I]
  refine .u O (Vf.bin (v:=.int .u64 (x.tmod ((m:Int)+1))) O O z) (.D r O ?_);refine⟨⟨(x.tmod ((m:Int)+1)).toNat,?_,M⟩,f,a⟩;rw[show(((x.tmod ((m:Int)+1)).toNat:Nat):Int)=x.tmod ((m:Int)+1) by omega];show Value.int .i64 (IntKind.i64.wrap (x.tmod ((m:Int)+1)))=_;rw[wrap64_in _ M M]
def wD(b:Nat)(i:bA)(u:Nat)(l:aH)(n:Nat)(s:Int)(m:Nat)(L:LH)(h:gQ L b i u l n)(p:n<=1000000)(w:l.length<=140737488355328)(k:m<=1000000)(q:-1000000<=s)(z:s<=1000000):
  Sp X 64 [pt b,s,↑(s+m)] L (λv c=>(∃y:Int,v=y/\s<=y/\y<=s+m)/\(∀t,t≠b->c t=L t)/\∃o:Int,c b=some (.cells [Value.slice i l.length u,.int .i64 ((n+1:Nat):Int),.int .u64 o].toArray 96 (0,0),true)):=by
 refine Sp.e Tryz.func64 O λC j d r=>(.g O ?_);rw[wrap64_in _ M M,show s+(m:Int) - s=(m:Int) by omega];refine .c O (sB b i u l n m L h p w k) ?_;rintro _ _ ⟨⟨y,rfl,g⟩,f,a⟩;refine .g O ?_;rw[wrap64_in _ M M];refine .r r O (⟨⟨_,rfl,M,M⟩,f,a⟩)
def IC(b:Nat)(q:bA)(u:Nat)(l:aH)(n m:Nat)(L:LH)(h:gQ L b q u l n)(t:n<=1000000)(c:l.length<=140737488355328)(p:m<=1000000):
  Sp X 25 [pt b,.int .i64 ((m:Int)+1)] L (λv i=>(∃y:Bool,v=y)/\(∀z,z≠b->i z=L z)/\∃o:Int,i b=some (.cells [Value.slice q l.length u,.int .i64 ((n+1:Nat):Int),.int .u64 o].toArray 96 (0,0),true)):=by
 refine Sp.e Tryz.func25 O λC j d r=>(.g O ?_);rw[wrap64_in _ M M,show(m:Int)+1 - 1=(m:Int) by omega];refine .c O (sB b q u l n m L h t c p) ?_;rintro _ _ ⟨⟨y,rfl,g⟩,f,a⟩;refine .D r O (⟨⟨_,rfl⟩,f,a⟩)
def Ix(q:bA)(m:Nat)(l:aH)(L:LH)(h:bK L q l):Sp X 7 [.slice q l.length m] L (λv z=>∃b,v=pt b/\L b=none/\Le L z/\gQ z b q m l 0):=by
 refine Sp.e (n:=6) Tryz.func7 O λC j i r=>(.de [2] 99 O (.g O (.cz 2 (.inl ⟨_,rfl⟩) O O ?_)));intro b d _;refine .r r O (⟨b,rfl,d,Le.put d _,⟨_,aj _ _ _⟩,h.le λf x u=>by rw[bW (λe=>by subst e;rw[d] at u;cases u)];exact Le.put d _ _ _ u⟩)
def Dk(b:Nat)(t p:bA)(z I:Nat)(l w:aH)(n:Nat)(L:LH)(h:gQ L b t z l n)(u:bK L p w)(J:n<=1000000)(K:l.length<=140737488355328)(H:w.length<=1000000)(Q:1<=w.length)(q:∀a,p=some a->a.block≠b):
  Sp X 63 [pt b,.slice p w I] L (λv x=>(∃y:Int,v=.int .i64 y/\y∈w)/\(∀s,s≠b->x s=L s)/\∃o:Int,x b=some (.cells [Value.slice t l.length z,.int .i64 ((n+1:Nat):Int),.int .u64 o].toArray 96 (0,0),true)):=by
 obtain⟨m,D⟩:∃m,w.length=m+1:=⟨w.length - 1,M⟩;obtain⟨e,rfl⟩:=u.addr (i:=0) M;have q:=q e rfl;refine Sp.e (n:=13) Tryz.func63 O λC j d r=>?_;refine .g O ?_;rw[wrap64_in _ M M,show(w.length:Int) - 1=(m:Int) by omega];refine .c O (sB b t z l n m L h J K M) ?_;rintro _ _ ⟨⟨y,rfl,R⟩,f,F⟩;refine .g O ?_;have c:y<w.length:=M
 rename_i g;have G:g.cell? (e.add y)=some (.int .i64 w[y]):=by
  have:=u.int (bX c);have k:(e.add y).block=e.block:=by unfold Addr.add;split <;> rfl
  unfold LH.cell? at this ⊢;rw[f _ (by rw[k];exact q)];exact this
 refine .u O (Vf.b O O (c)) (.u O (Vf.l O (G)) (.D r O ?_));exact⟨⟨_,rfl,fY c⟩,f,F⟩
def yI(u:bA)(c:Nat)(l:aH)(L:LH)(h:bK L u l)(y:l.length<=1000000):Sp X 53 [.slice u l.length c] L (λv q=>bE L 1 3 bL q v l):=by
 refine Sp.e Tryz.func53 O λC j i r=>(.g O (.cz 3 (.inr ⟨_,_,_,rfl⟩) O O ?_));intro b d _;refine .e O (Ef.grow O O O O O O O O O aY gf (bE.new (Le.put d _) (aj _ _ _) d) (.sl (h.le (Le.put d _)) aY O) bU) ?_;rintro _ _ _ ⟨f,rfl,rfl,z,_⟩;refine .D r O z
def bE.adO{I:LH}{c:aK}{q:km}{v:Bool}{o:Nat}(g:bE I k e h L (.slice d m o) r)(f:∀x,(h x).length=k)(a:L n=some (.cells c t q,v))(i:t≠e):m=r.length/\bz (L.bT n) d k h r:=by
 let⟨p,w,j,y⟩:=g;refine bE.at ⟨λ_ _ g=>by(cases g),w,j.keep λb u=>?_,λ_ _=>rfl⟩ f;subst u;let⟨_,l,_,z,_⟩:=j;exact bW λe=>by subst e;rw[a] at z;cases z;exact i O
abbrev z0:Rw Int:=((none,0,0),[])
theorem SP:∀n:Nat,(List.replicate n z0).flatMap iP=List.replicate n (Value.slice none 0 0)
 | 0=>rfl
 | n+1=>by rw[List.replicate_succ,rT,SP n];rfl
def OJ(T:bA)(pc:Nat)(q:gx)(L:LH)(h:gB L T 1 bL q)(hn:q.length<=1000)(hl:∀x∈q,x.length<=1000):Sp X 65 [.slice T q pc] L (λv J=>abr L q v J):=by
 refine Sp.e (n:=23) Tryz.func65 O λC hX u8 r=>?_;refine .v O (Ef.makeSlice O M Tryz.underlying49 Yu R9 Y0 V O) ?_;rintro _ _ _ ⟨w,rfl,rfl,K,rfl⟩;refine .g O ?_;have u1:=Le.put K (.cells (Array.replicate q.length (.slice none 0 0)) 22);have f:=aj L w (.cells (Array.replicate q.length (.slice none 0 0)) 22);have e0:Array.replicate q.length (Value.slice none 0 0)=(([]++List.replicate (q.length - 0) z0).flatMap iP).toArray:=by
  rw[yp,wH,SP];simp
 refine .l (λm E B J=>∃(i:Nat) (t:oU),m=q.length - i/\i<=q.length/\t.map Prod.snd=q.take i/\Le L J/\J w=some (.cells ((t++List.replicate (q.length - i) z0).flatMap iP).toArray 22 (0,0),true)/\(∀x∈t,Dl (J.bT w) 1 bL x)/\E=[(0,.v (.slice T q.length pc)),(3,.v (.slice (some ⟨w,0,none⟩) q.length q.length)),(4,.v (.int .i64 i))]/\B=[]) ⟨0,[],rfl,M,rfl,u1,by rw[<-e0];exact f,(λx u=>by cases u),rfl,rfl⟩ ?_
 rintro _ _ _ L1 ⟨i,t,rfl,hi,d,s,hb,j,rfl,rfl⟩ again;have I:t.length=i:=by have:=aJ List.length d;simpa [hi] using this
 refine .I O (λe1=>W.go 99 O ?_) (λe1=>W.go 99 O ?_)
 .have l:i<q.length:=by simpa using e1
  obtain⟨x,u⟩:∃x,q[i]?=some x:=⟨_,bX l⟩;obtain⟨u9,rfl⟩:=h.addr l;obtain⟨xa,xc,u2,u3,q0⟩:=h.row u;refine .u O (Vf.b O O (l)) (.G O (Vf.l O (s.cell u2)) (.o O (yI xa xc x L1 (u3.le s) (by have:=hl x (fZ u);omega)) ?_));rintro v1 _ D;rename_i g;obtain⟨F,G,rfl,u4⟩:=D.slice;have H:=D.1 _ _ hb;have u5:=(D.adO aY H V).2;refine .G O (Vf.b O O (l)) (.g O ?_);have u6:((t++List.replicate (q.length - i) z0).flatMap iP).length=q.length:=by rw[gY gh,eX,zk,I];omega
  refine .fL O O (Ef.eR (b:=w) (off:=i * 1) (aJ (λa=>some (SV.v (.pointer (some a)))) (show Addr.add ⟨w,0,none⟩ i=⟨w,i * 1,none⟩ by rw[bM];simp)) ⟨_,rfl,rfl⟩ O H O (by rw[wG,u6];show i * 1+1<=_;omega) (bQ O)) ?_;rintro _ _ _ ⟨rfl,rfl,rfl⟩;refine .g O ?_;have Q:bY ((t++List.replicate (q.length - i) z0).flatMap iP).toArray (i * 1) [.slice F x.length G]=(((t++[((F,x.length,G),x)])++List.replicate (q.length - (i+1)) z0).flatMap iP).toArray:=by
   rw[show[Value.slice F x.length G]=iP ((F,x.length,G),x) from rfl,BS gh (by rw[eX,zk,I];omega)];have R:List.replicate (q.length - i) z0=z0::List.replicate (q.length - (i+1)) z0:=by rw[<-List.replicate_succ];congr 1;omega
   rw[R,IU _ _ M,I,uu,Cj,tq]
   rfl
  refine .a (again _ _ _ _ M ⟨i+1,t++[((F,x.length,G),x)],rfl,M,?_,?_,(aJ (λc=>some (Obj.cells c 22 (0,0),true)) Q)▸aj _ _ _,?_,rfl,rfl⟩) ⟨rfl,rfl,aJ some (cr M),aE⟩
  .rw[iq,d];obtain⟨_,rfl⟩:=eO.1 u;exact(ja l).symm
  .exact λb z p=>by
    have k:b≠w:=λe=>by subst e;rw[K] at p;cases p
    rw[aB _ _ k];exact D.1 _ _ (s _ _ p)
  .have S:∀o,Le (g.bT w) ((g.put w o).bT w):=λo b z p=>by
    have k:b≠w:=λe=>by subst e;unfold LH.bT at p;rw[ax rfl] at p;cases p
    rw[bW k] at p ⊢;rw[aB _ _ k];exact p
   intro y hy;rcases fg.1 hy with hy | hy
   .exact((j y hy).le (pW ((gC _ _).trans D.1))).le (S _)
   .rw[dJ.1 hy];exact⟨u5.le (S _),rfl,u4⟩
 .have u7:i=q.length:=by simp at e1;omega
  subst u7;refine .r r O ?_;rw[lK] at d;rw[uu,List.replicate_zero,pf] at hb;exact⟨_,_,rfl,s,t,d,cY gh hb,λx u=>(j x u).le (gC _ _)⟩
structure abc(s:Sw)(L:LH)(v:Value)(L':LH)(p:Wp)(I:LH):Prop where
 v:v=gZ s p
 le:Le L I
 lo:gB I p.la 1 bL s.ay
 st:bK I p.sa s.aO
 wt:bE I 4 68 gj L' (.slice p.wa s.aC.length p.wc) s.aC
def Is(s:Sw)(p:Wp)(L:LH)(h:eE L s p)(y:Sm s):Sp X 24 [gZ s p] L (λv m=>∃w I,abc s L v m w I):=by
 have x:=y.hl;have F:=y.hs;let G:=y.hw;refine Sp.e (n:=16) Tryz.func24 O λC H b r=>?_;refine .g rfl (.z (.run' [0,1,3,4,6,7,8,9,10] rfl (.c 2 rfl rfl (OJ p.la p.lc s.ay L h.lo x y.hr) Gd ?_)));rintro c _ ⟨k,J,rfl,j,q⟩;rename_i K;refine .c 5 rfl rfl (yI p.sa p.sc s.aO K (h.st.le j) M) (by rintro _ _ z;exact j.trans z.1) ?_;rintro Q _ f;rename_i R;obtain⟨g,sc,rfl,_⟩:=f.slice;let t:=(f.at aY).2;let u:=j.trans f.1;let e:=h.wt.le u;refine .a 11 rfl (Ef.cz 11 (.inr ⟨_,_,_,rfl⟩) rfl rfl (λi d _=>Ef.grow rfl rfl rfl rfl rfl rfl rfl rfl rfl iA AO (bE.new (Le.put d _) (aj _ _ _) d) (ls:=s.aC) (.sl (e.le (Le.put d _)) iA rfl) bU)) (by rintro _ _ _ ⟨i,d,_,_,rfl,rfl,z,_⟩;exact⟨u.trans z.1,rfl,.inl rfl⟩) ?_;rintro _ _ _ ⟨i,d,_,v3,rfl,rfl,l,_⟩;rw[yp] at l;obtain⟨D,a,rfl,_⟩:=l.slice;refine .run' [12] rfl (.a 13 rfl (Ef.lG rfl) (by rintro _ _ _ ⟨rfl,rfl,rfl⟩;exact⟨u.trans l.1,rfl,.inr rfl⟩) ?_);rintro _ _ _ ⟨rfl,rfl,rfl⟩;refine .fin O ?_;refine .D r O ?_;exact⟨⟨k,g,D,J,sc,a⟩,_,rfl,u,q.le f.1,t,l⟩
structure mA{α:Type}(L:LH)(b:Nat)(ad:Option Addr)(cap:Nat)(l:List Int)(n k:Nat)(e:TypeId)(enc:α->List Value)(L':LH)(v:Value)(t:List α)(I:LH):Prop where
 g:bE I k e enc L' v t
 h:gQ I b ad cap l n
 i:∀b',b'≠b->I b'=L b'
def mA.dq{u:Nat}{v:Value}(c:mA L m d u l n k e h R v r J):gQ R m d u l n:=c.h.le c.g.1
def mA.nil{u:Nat}(c:gQ L m d u l n):mA L m d u l n k e h L (.slice none 0 0) [] L:=⟨bE.nil (Le.refl _),c,λ_ _=>rfl⟩
def mA.step{I:LH}{q:Nat}{v:Value}(c:mA L m d q l n k e h R v r I)(f:∀b,b≠m->J b=R b)(a:∃o:Int,J m=some (.cells [Value.slice d l.length q,.int .i64 ((n+1:Nat):Int),.int .u64 o].toArray 96 (0,0),true)):∃t,mA L m d q l (n+1) k e h J v r t:=by
 let⟨j,g⟩:=a;let⟨p,y⟩:=c.h.blk;let u:J=R.put m (.cells [Value.slice d l q,.int .i64 ((n+1:Nat):Int),.int .u64 j].toArray 96):=by
  funext b
  by_cases z:b=m
  .subst z;rwa[aj]
  .rw[aB _ _ z];exact f b z
 refine⟨I.put m (.cells [Value.slice d l q,.int .i64 ((n+1:Nat):Int),.int .u64 j].toArray 96),?_,?_,λb z=>(aB _ _ z).trans (c.i b z)⟩
 .rw[u];exact c.g.ajg (by rw[y];simp) _
 .exact c.h.next (λb z=>aB _ _ z) ⟨j,aj _ _ _⟩
def mA.le{q:Nat}{v:Value}(c:mA L m d q l n k e h R v r J):Le (L.bT m) R:=λb x u=>by
 have z:b≠m:=λe=>by subst e;unfold LH.bT at u;rw[ax rfl] at u;cases u
 rw[bW z] at u;exact c.g.1 _ _ ((c.i b z).trans u)
def Vy(h:n<=140737488355328):IntKind.i64.wrap (((n+1:Nat):Int) - 1)=(n:Int):=by
 rw[wrap64_in _ M M];omega
def gQ.off{u:Nat}(h:gQ L k d u l n)(q:L m=none):m≠k:=λe=>by
 subst e;obtain⟨j,g⟩:=h.blk;rw[g] at q;cases q
def iw(h:∀b,b≠n->R b=L b):Le (L.bT n) R:=λb x u=>by
 have d:b≠n:=λe=>by subst e;unfold LH.bT at u;rw[ax rfl] at u;cases u
 rw[bW d] at u;rwa[h b d]
def ix(h:Le (L.bT n) R)(z:Le (R.bT n) J):Le (L.bT n) J:=(pW h).trans z
def mA.call{I:LH}{f:Nat}{w:Nat}{v:Value}(j:mA L m d f l n k e h R v r I)(o:Le (R.bT m) J)(F:gQ J m d f l w):∃G,mA L m d f l w k e h J v r G:=by
 let⟨p,K⟩:=j.h.blk;let⟨s,g⟩:=F.blk;let⟨H,Q,D,y⟩:=j.g;have a:∀b,b≠m->(I.put m (.cells [Value.slice d l.length f,.int .i64 w,.int .u64 s].toArray 96)) b=I b:=λb q=>aB _ _ q;refine⟨I.put m (.cells [Value.slice d l.length f,.int .i64 w,.int .u64 s].toArray 96),⟨λb x u=>?_,Q,D.keep λb t=>?_,λb t=>?_⟩,⟨⟨s,aj _ _ _⟩,?_⟩,λb q=>(a b q).trans (j.i b q)⟩
 .by_cases q:b=m
  .subst q;rw[aj] at u;rwa[<-u]
  .rw[a b q] at u;exact o _ _ (by rw[bW q];exact H _ _ u)
 .subst t;have q:b≠m:=λe=>by subst e;have:=y _ rfl;rw[K] at this;cases this
  let⟨_,c,_,z,_⟩:=D;rw[z];exact o _ _ (by rwa[bW q])
 .have q:b≠m:=λe=>by subst e;have:=y _ t;rw[K] at this;cases this
  rw[a b q];exact y b t
 .refine j.h.ints.le λb x u=>?_;have q:b≠m:=λe=>by subst e;unfold LH.bT at u;rw[ax rfl] at u;cases u
  rw[bW q] at u ⊢;rw[a b q];exact u
def HV(l:aH)(h:L n=some (.cells (l.flatMap bL).toArray t (0,0),true)):bK L (some ⟨n,0,none⟩) l:=cY (l:=l) (e:=t) aY h
def xf{c:gx}{x:Want}(h:Dq c x):gy c x=0:=by
 have:=h.s0;have:=h.s2;have:=h.k0;have:=h.k1;have:=h.a0;have:=h.a1;have:=h.p0;have:=h.p1;unfold gy;rw[A Q0,A Q0,ax (by rw[nF];exact⟨e9.2 ⟨M,M⟩,e9.2 ⟨M,M⟩⟩)]
def Ce(s:Sw)(p:Wp)(b:Nat)(D:bA)(I:Nat)(l:aH)(n:Nat)(L:LH)(h:gQ L b D I l n)(hn:n<=900000)(o:l.length<=140737488355328)(u6:gB (L.bT b) p.la 1 bL s.ay)(h1:1<=s.ay.length)(h2:s.ay.length<=3)(u7:∀x∈s.ay,RD x):
  Sp X 26 [pt b,gZ s p] L (λv L'=>(∃x:Want,v=.agg (gj x).toArray/\gy s.ay x=0/\x.pay<=9)/\Le (L.bT b) L'/\∃m,m<=n+8/\gQ L' b D I l m):=by
 refine Sp.e (n:=57) Tryz.func26 O λC hX v0 r=>?_;refine .g O (.f (.run' [0,2,3,4,5,6,8,9,14] O ?_));rw[wrap64_in _ M M];refine .w 1 O O ((sB b D I l n 2 L h M o M)) ?_;rintro _ _ ⟨⟨so,rfl,v1⟩,d,u8⟩;have g1:=h.next d u8;rename_i L1;have c2:=sB (X:=C.X) b D I l (n+1) (s.ay - 1) L1 g1 M o M;rw[show((s.ay - 1:Nat):Int)=(s.ay.length:Int) - 1 by omega] at c2;refine .w 7 O O c2 ?_;rintro _ _ ⟨⟨kd,rfl,v2⟩,c,u9⟩;have g2:=g1.next c u9;rename_i g;refine .w 10 O O ((sB b D I l (n+2) 9 g g2 M o M)) ?_;rintro _ _ ⟨⟨y3,rfl,v4⟩,B,q0⟩;have g3:=g2.next B q0;rename_i L3;refine .run' [11] rfl (.a 12 rfl (Ef.cz 18 (.inr ⟨_,_,_,rfl⟩) rfl rfl (λb8 t _=>Ef.call rfl (Dk b D (some ⟨b8,0,none⟩) I 4 l [0,1,3,(y3:Int)] (n+3) _ (g3.le (Le.put t _)) (HV [0,1,3,(y3:Int)] (aj _ _ _)) M o U U (λa ha=>by cases ha;exact g3.off t)))) ((by rintro _ _ _ ⟨b8,t,_,_,rfl,rfl,⟨y,rfl,_⟩,_⟩;exact⟨ij _,rfl,.inl rfl⟩)) ?_);rintro _ _ _ ⟨b8,t,v5,v8,rfl,rfl,⟨F,rfl,q1⟩,j,q2⟩;have w:=(g3.le (Le.put t _)).next j q2;have H:0<=F/\F<=9:=by simp at q1;omega
 refine .run' [13] rfl (.a 15 rfl (Ef.lG rfl) nj ?_);rintro _ _ _ ⟨rfl,rfl,rfl⟩;rename_i L4;refine .fin O ?_;have f:Le (L.bT b) L4:=ix (ix (ix (iw d) (iw c)) (iw B)) (λE x u=>iw j E x (by
  have hb:E≠b:=λe=>by subst e;unfold LH.bT at u;rw[ax rfl] at u;cases u
  rw[bW hb] at u ⊢;exact Le.put t _ _ _ u))
 refine .a (E':=[(0,.v (pt b)),(3,.p 0 0),(4,.p 1 0),(5,.p 2 0)]) (B':=[some ⟨cL (.v (gZ s p)),52⟩,some ⟨List.map SV.v ad6.z.cells.toList,68⟩,some ⟨[.v (.int .i64 so),.v (.int .i64 kd),.v (.int .i64 0),.v (.int .i64 F)],68⟩]) ?_;refine .g O ?_;have R:kd<s.ay.length:=M
 have u:=bX R;have i:=u7 _ (fZ u);have S:=u6.le f;obtain⟨la,Q⟩:=S.addr R;rw[Q] at S;obtain⟨xa,xc,q3,v9,_⟩:=S.row u;obtain⟨qa,qb,qc,qd,qe,qf⟩:=p;obtain rfl:qa=some la:=Q;refine .u O (Vf.b O O (R)) (.G O (Vf.l O (q3)) (.g O ?_));have q4:s.ay.getD kd []=s.ay[kd]:=by rw[dL,u];rfl
 have z1:=i.l1;have z2:=i.l4;generalize s.ay[kd]=lf at *;have u1:so=0\/so=1\/so=2:=M
 have p0:=H.1;have p9:=H.2;have p1:F<=30:=M
 rcases u1 with rfl | rfl | rfl
 .refine .F O (.K O (.K O (.D r O ?_)));exact⟨⟨⟨0,kd,0,F⟩,rfl,xf ⟨oP,oP,by show(0:Int)<=kd;omega,Ig,oP,oP,p0,p1⟩,p9⟩,f,_,M,w⟩
 .refine .F O (.K O (.N O (.g O ?_)));have c5:=wD (X:=C.X) b D I l (n+4) 1 14 L4 w M o M M M;rw[show(1:Int)+((14:Nat):Int)=15 from rfl] at c5;refine .c O c5 ?_;rintro _ _ ⟨⟨y5,rfl,u2,q5⟩,K,T⟩;refine .g O ?_;have g5:=w.next K T;rename_i L5;refine .cz 50 (.inr ⟨_,_,_,rfl⟩) O O ?_;intro b9 G _;have c6:=Dk (X:=C.X) b D (some ⟨b9,0,none⟩) I 3 l [1,4,y5] (n+5) _ (g5.le (Le.put G (.cells ([1,4,y5].flatMap bL).toArray 3))) (HV [1,4,y5] (aj _ _ _)) M o U U (λa ha=>by cases ha;exact g5.off G);refine .c O c6 ?_;rintro v6 _ ⟨⟨W,rfl,q6⟩,u3,q7⟩;refine .g O ?_;have g6:=(g5.le (Le.put G _)).next u3 q7;rename_i L6;have q8:Le (L.bT b) L6:=ix (ix f (iw K)) (λE x u=>iw u3 E x (by
   have hb:E≠b:=λe=>by subst e;unfold LH.bT at u;rw[ax rfl] at u;cases u
   rw[bW hb] at u ⊢;exact Le.put G _ _ _ u))
  have J:1<=W/\W<=60:=by simp at q6;omega
  refine .c O (IC b D I l (n+6) 1 L6 g6 M o M) ?_;rintro k _ ⟨⟨q,rfl⟩,u4,q9⟩;refine .g O ?_;have g7:=g6.next u4 q9;have u5:=ix q8 (iw u4);refine .s O (λe1=>?_) (λe1=>?_)
  .refine .D r O ?_;exact⟨⟨⟨1,-1,W,F⟩,rfl,xf ⟨oP,oP,oP,by show(-1:Int)<_;omega,J.1,J.2,p0,p1⟩,p9⟩,u5,_,M,g7⟩
  .refine .D r O ?_;exact⟨⟨⟨1,kd,W,F⟩,rfl,xf ⟨oP,oP,by show(-1:Int)<=kd;omega,Ig,J.1,J.2,p0,p1⟩,p9⟩,u5,_,M,g7⟩
 .refine .T O (.I O (λe1=>?_) (λe1=>?_))
  .refine .K O (.K O (.D r O ?_));exact⟨⟨⟨0,kd,0,F⟩,rfl,xf ⟨oP,oP,by show(0:Int)<=kd;omega,Ig,oP,oP,p0,p1⟩,p9⟩,f,_,M,w⟩
  .refine .N O (.g O ?_);have z3:2<=lf.length:=by simp at e1;omega
   rw[wrap64_in _ M M];have c5:=wD (X:=C.X) b D I l (n+4) 1 (lf.length - 2) L4 w M o M M M;rw[show(1:Int)+((lf.length - 2:Nat):Int)=(lf.length:Int) - 1 by omega] at c5;refine .c O c5 ?_;rintro _ _ ⟨⟨W,rfl,u2,q5⟩,K,T⟩;refine .g O ?_;have g5:=w.next K T;refine .r r O ?_;refine⟨⟨⟨2,kd,W,F⟩,rfl,xf ⟨oP,oP,by show(0:Int)<=kd;omega,Ig,u2,?_,p0,p1⟩,p9⟩,ix f (iw K),_,M,g5⟩;show W<=((s.ay.getD (kd:Int).toNat []).length:Int) - 1;rw[kT,q4];omega
def off(ob:bD)(L:LH):LH:=λb=>if ob=b then none else L b
def Yb(d:bD)(L:LH):Le (off d L) L:=λb x u=>by
 unfold off at u
 split at u
 .cases u
 .exact u
def uK(h:o≠some n):off o L n=L n:=A h
def Ee(h:Le R L)(y:∀q,o=some q->R q=none):Le R (off o L):=λb x u=>by
 by_cases e:o=some b
 .rw[y b e] at u;cases u
 .rw[uK e];exact h _ _ u
def dB.grow{v:Value}(c:dB L k e v r.length (r.flatMap h) o):bE (off o L) k e h L v r:=⟨Yb _ _,o,c,λb d=>ax d⟩
def dB.ME{v:Value}(h:dB L k e v n j (some m)):∃c,L m=some (.cells c e (0,0),true):=let⟨_,c,_,z,_⟩:=h;⟨c,z⟩
structure Mk(L0:LH)(b:Nat)(ad:Option Addr)(cap:Nat)(l:List Int)(n:Nat)(L:LH)(ls:List (List Int))(st:List Int)(vl vs:Value)(D:LH)(rs:List (Rw Int))(ol os:Option Nat):Prop where
 d0:Le (L0.bT b) D
 db:D b=none
 re:rs.map Prod.snd=ls
 rk:∀x∈rs,Dl D 1 bL x
 dl:Le D L
 ow:dB L 1 22 vl rs.length (rs.flatMap iP) ol
 sw:dB L 1 3 vs st.length (st.flatMap bL) os
 nl:∀q,ol=some q->D q=none
 ns:∀q,os=some q->D q=none
 hi:bK D ad l
 hb:∃TS:Int,L b=some (.cells [Value.slice ad l.length cap,.int .i64 n,.int .u64 TS].toArray 96 (0,0),true)
def Mk.dq{c:gx}{r:aH}{v j:Value}{t:oU}{z:bD}(h:Mk R k d m l n L c r v j J t o z):gQ L k d m l n:=⟨h.hb,h.hi.le λq x u=>by
 rw[bW (λe=>by subst e;rw[h.db] at u;cases u)];exact h.dl _ _ u⟩
def Mk.olb{u:gx}{r:aH}{v j:Value}{t:oU}{i:bD}(h:Mk R k d m l n L u r v j J t o i):o≠some k:=λe=>by
 obtain⟨c,q⟩:=(e▸h.ow).ME;let⟨f,z⟩:=h.hb;rw[q] at z;cases z
def Mk.osb{v:gx}{r:aH}{i j:Value}{t:oU}{u:bD}(h:Mk R k d m l n L v r i j J t o u):u≠some k:=λe=>by
 obtain⟨c,q⟩:=(e▸h.sw).ME;let⟨f,z⟩:=h.hb;rw[q] at z;cases z
def Mk.ne{i:gx}{r:aH}{f j:Value}{t:oU}{u:bD}(h:Mk R k d m l n L i r f j J t o u)(q:Nat)(a:o=some q)(z:u=some q):False:=by
 let⟨c,p⟩:=(a▸h.ow).ME;let⟨e,v⟩:=(z▸h.sw).ME;rw[p] at v;cases v
def Mk.Uq{D:LH}{v:Nat}{i:gx}{r:aH}{g j:Value}{t:oU}{y:bD}(h:Mk R k d v l n L i r g j D t o y)(f:∀b,b≠k->J b=L b)(a:∃z:Int,J k=some (.cells [Value.slice d l.length v,.int .i64 m,.int .u64 z].toArray 96 (0,0),true)):Mk R k d v l m J i r g j D t o y:=
 ⟨h.d0,h.db,h.re,h.rk,λq x u=>by rw[f q (λe=>by subst e;rw[h.db] at u;cases u)];exact h.dl _ _ u,h.ow.keep λq c=>f q λe=>h.olb (by rw[c,e]),h.sw.keep λq c=>f q λe=>h.osb (by rw[c,e]),h.nl,h.ns,h.hi,a⟩
def Mk.le{D:LH}{c:gx}{r:aH}{q j:Value}{t:oU}{v:bD}(h:Mk R k d m l n L c r q j D t o v)(u:Le L J):Mk R k d m l n J c r q j D t o v:=
 ⟨h.d0,h.db,h.re,h.rk,h.dl.trans u,h.ow.le u,h.sw.le u,h.nl,h.ns,h.hi,let⟨z,g⟩:=h.hb;⟨z,u _ _ g⟩⟩
def Mk.row{D:LH}{v:Nat}{F:gx}{r:aH}{G j:Value}{H:oU}{Q:bD}{I:LH}{S:bA}{b T:Nat}{t:aH}(h:Mk R k d v l n L F r G j D H o Q)(a:mA L k d v l m 1 3 bL J (.slice S b T) t I):∃w,Mk R k d v l m J F r G j w H o Q/\bz w S 1 bL t:=by
 have p:=h.Uq a.i a.h.blk;let⟨w,s,z,W,X⟩:=a.g.aiU aY p.dl;let y:∀q,I q≠none->D q=none->w q=none:=λq f hd=>qF λe=>(X q e).elim (λh=>h hd) f;let K:=p.le a.g.1;refine⟨w,⟨h.d0.trans s,y k (by let⟨C,g⟩:=a.h.blk;rw[g];simp) h.db,h.re,λx u=>(h.rk x u).le s,z,K.ow,K.sw,λq f=>y q ?_ (h.nl q f),λq f=>y q ?_ (h.ns q f),h.hi.le s,K.hb⟩,W⟩
 .let⟨c,e⟩:=(f▸p.ow).ME;rw[e];simp
 .let⟨c,e⟩:=(f▸p.sw).ME;rw[e];simp
def Mk.aip{D:LH}{p:gx}{r:aH}{I j:Value}{t:oU}{w:bD}{b:Value}{x:Rw Int}(h:Mk R k d m l n L p r I j D t o w)(u:Dl D 1 bL x)(K:bE (off o L) 1 22 iP J b (t++[x])):∃z,Mk R k d m l n J (p++[x.2]) r b j D (t++[x]) z w:=by
 obtain⟨a,F,G,H⟩:=K;let s:=Ee h.dl h.nl;refine⟨F,h.d0,h.db,by rw[iq,h.re];rfl,λy v=>?_,s.trans a,G,h.sw.keep λq f=>?_,λq f=>?_,h.ns,h.hi,?_⟩
 .rcases fg.1 v with v | v
  .exact h.rk y v
  .rwa[dJ.1 v]
 .let⟨c,e⟩:=(f▸h.sw).ME;rw[e];exact a _ _ (by rwa[uK (λi=>h.ne q i f)])
 .exact bN s (H q f)
 .let⟨Q,g⟩:=h.hb;exact⟨Q,a _ _ (by rwa[uK h.olb])⟩
def Mk.aiq{D:LH}{a:gx}{r:aH}{y w:Value}{t:oU}{v:bD}{b:Value}(h:Mk R k d m l n L a r y w D t o v)(x:bE (off v L) 1 3 bL J b (r++[c])):∃s,Mk R k d m l n J a (r++[c]) y b D t o s:=by
 obtain⟨f,I,z,K⟩:=x;let p:=Ee h.dl h.ns;refine⟨I,h.d0,h.db,h.re,h.rk,p.trans f,h.ow.keep λq u=>?_,z,h.nl,λq u=>bN p (K q u),h.hi,?_⟩
 .let⟨j,e⟩:=(u▸h.ow).ME;rw[e];exact f _ _ (by rwa[uK (λi=>h.ne q u i)])
 .let⟨F,g⟩:=h.hb;exact⟨F,f _ _ (by rwa[uK h.osb])⟩
def Mk.rows{z:Nat}{c:gx}{r:aH}{i:Value}{t:oU}{f:bD}{p:bA}{a:Nat}(h:Mk R m d z l n L c r (.slice p k a) i J t o f):gB (L.bT m) p 1 bL c:=by
 have j:=h.ow.keep (L':=L.bT m) λq w=>bW λe=>h.olb (by rw[w,e]);obtain⟨b,v,s,-⟩:=j.slice;cases s;refine⟨t,h.re,j.at gh,λx u=>(h.rk x u).le λq y g=>?_⟩;rw[bW (λe=>by subst e;rw[h.db] at g;cases g)];exact h.dl _ _ g
def Mk.ints{u:Nat}{c:gx}{r:aH}{z:Value}{t:oU}{i:bD}{p:bA}{f:Nat}(h:Mk R m d u l n L c r z (.slice p k f) J t o i):bK (L.bT m) p r:=by
 have j:=h.sw.keep (L':=L.bT m) λq a=>bW λe=>h.osb (by rw[a,e]);obtain⟨g,v,y,-⟩:=j.slice;cases y;exact j.at aY
def aam(h:Le L R):Le (off o L) (off o R):=λb x u=>by
 unfold off at u ⊢
 split at u
 .cases u
 .rename_i c;rw[A c];exact h _ _ u
def Mk.ahQ{z:Nat}{c:gx}{r:aH}{a:Value}{t:oU}{i:bD}{p:bA}{w:Nat}(h:Mk R m d z l n L c r (.slice p k w) a J t o i):gB (off i (L.bT m)) p 1 bL c:=by
 have j:=h.ow.keep (L':=off i (L.bT m)) λq f=>(uK (λe=>h.ne q f e)).trans (bW λe=>h.olb (by rw[f,e]));obtain⟨b,v,s,-⟩:=j.slice;cases s;refine⟨t,h.re,j.at gh,λx u=>(h.rk x u).le (Ee (λq y g=>?_) h.ns)⟩;rw[bW (λe=>by subst e;rw[h.db] at g;cases g)];exact h.dl _ _ g
structure ail(L0:LH)(b:Nat)(ad:Option Addr)(cap:Nat)(l:List Int)(m:Nat)(s:Sw)(p:Wp)(L D:LH)(os:Option Nat):Prop where
 d0:Le (L0.bT b) D
 db:D b=none
 dl:Le D L
 lo:gB D p.la 1 bL s.ay
 wt:bz D p.wa 4 gj s.aC
 cp:s.aC.length<=p.wc
 sw:dB L 1 3 (.slice p.sa s.aO.length p.sc) s.aO.length (s.aO.flatMap bL) os
 ns:∀q,os=some q->D q=none
 dq:gQ L b ad cap l m
 hi:bK D ad l
def adE(q:1<=s.ay.length)(z:s.ay.length<=3)(r:∀x∈s.ay,mC x=0)(v:s.aO=s.ay.length)(k:∀x∈s.aO,0<=x/\x<=4)(t:0<=s.jO/\s.jO<=3)(d:s.aC.length<=5)(u:∀x∈s.aC,gy s.ay x=0):e8 s=0:=by
 unfold e8;rw[A (by rw[Decidable.not_not,Ba];omega),A (by rw[Decidable.not_not];exact JJ.2 r),A (by rw[Decidable.not_not];exact v),A (by simp only[wF,Dv];exact Ap.2 k),A (by simp only[wF,Dv];exact e9.2 t),A M];exact Gn.2 u
def Ek{c:Int}(v:1<=c)(f:c<=9):∀{t:aH} {p:me},ny p t=0->(∀q,(t.getLast?.or p)=some q->c<=q)->ny p (t++[c])=0
 | [],p,_,h=>by
  have d:cV c 1 9=true:=e9.2 ⟨v,f⟩;rw[yp,ny,A (by simp[d]),A]
  .rfl
  .cases p with
   | none=>simp[upB]
   | some q=>have:=h q U;simp[upB];omega
 | y::t,p,h0,h=>by
  unfold ny at h0
  split at h0
  .cases h0
  .rename_i c1
   split at h0
   .cases h0
   .rename_i c2;rw[List.cons_append,ny,A c1,A c2];refine Ek v f h0 λq u=>h q ?_;cases t with
    | nil=>simpa using u
    | cons z t=>
     have i:(z::t).getLast?=some ((z::t).getLast U):=List.getLast?_eq_some_getLast _;rw[i] at u;rwa[List.getLast?_cons_cons,i]
structure aik(s:Sw)(kc kw:Nat):Prop where
 e:e8 s=0
 l:s.ay.length<=kc
 w:s.aC.length<=kw
 s4:∀n∈s.aO,0<=n/\n<=4
 p9:∀x∈s.aC,x.pay<=9
def MQ(b:Nat)(H:bA)(J:Nat)(l:aH)(n kc kw:Nat)(L:LH)(h:gQ L b H J l n)(hn:n<=800000)(o:l.length<=140737488355328)(a8:1<=kc)(a9:kc<=3)(o0:kw<=5):
  Sp X 23 [pt b,.int .i64 kc,.int .i64 kw] L (λv L'=>∃s p m D os,v=gZ s p/\aik s kc kw/\m<=n+100/\ail L b H J l m s p L' D os):=by
 refine Sp.e (n:=75) Tryz.func23 O λC hX o1 r=>?_;refine .o O (sB b H J l n 3 L h M o M) ?_;rintro _ _ ⟨⟨y1,rfl,o2⟩,u8,v6⟩;refine .g O ?_;have g1:=h.next u8 v6;rename_i L1;refine .cz 16 (.inr ⟨_,_,_,rfl⟩) O O ?_;intro b9 u4 _;have c2:=Dk (X:=C.X) b H (some ⟨b9,0,none⟩) J 4 l [0,1,1,(y1:Int)] (n+1) _ (g1.le (Le.put u4 (.cells ([0,1,1,(y1:Int)].flatMap bL).toArray 3))) (HV [0,1,1,(y1:Int)] (aj _ _ _)) M o U U (λa ha=>by cases ha;exact g1.off u4);refine .c O c2 ?_;rintro v2 _ ⟨⟨W,rfl,i1⟩,u9,v7⟩;refine .g O ?_;have g2:=(g1.le (Le.put u4 _)).next u9 v7;rename_i L2;have v9:Le (L.bT b) L2:=ix (iw u8) (λb' x hx=>iw u9 b' x (by
  have hb:b'≠b:=λe=>by subst e;unfold LH.bT at hx;rw[ax rfl] at hx;cases hx
  rw[bW hb] at hx ⊢;exact Le.put u4 _ _ _ hx))
 have z1:0<=W/\W<=3:=by simp at i1;omega
 have c3:=wD (X:=C.X) b H J l (n+2) 1 (kc - 1) L2 g2 M o M M M;rw[show(1:Int)+((kc - 1:Nat):Int)=(kc:Int) by omega] at c3;refine .c O c3 ?_;rintro _ _ ⟨⟨kq,rfl,o3,o4⟩,q0,z2⟩;refine .g O ?_;have g3:=g2.next q0 z2;rename_i L3;obtain⟨kq,rfl⟩:∃q:Nat,kq=q:=⟨kq.toNat,M⟩;have z3:=ix v9 (iw q0);have z4:Mk L b H J l (n+3) L3 [] [] (.slice none 0 0) (.slice none 0 0) (L3.bT b) [] none none:=⟨pW z3,Q3,rfl,(λx hx=>by cases hx),gC _ _,dB.nil,dB.nil,(λq hq=>by cases hq),(λq hq=>by cases hq),g3.ints,g3.blk⟩;refine .l (λw E B L'=>∃(c:gx) (R:aH) (vl vs:Value) (D:LH) (rs:oU) (ol os:bD) (m i:Nat),w=i/\i+c.length=kq/\R=c.length/\(∀x∈c,mC x=0)/\(∀x∈R,0<=x/\x<=4)/\m<=n+3+c.length * 8/\Mk L b H J l m L' c R vl vs D rs ol os/\E=[(0,.v (pt b)),(2,.v (.int .i64 kw)),(6,.p 0 0),(7,.p 2 0),(8,.v (.int .i64 i))]/\B=[some ⟨List.map SV.v Hx.z.cells.toList,52⟩,none,some ⟨[.v vl,.v vs,.v (.int .i64 W),.v (.slice none 0 0)],52⟩]) ⟨[],[],_,_,_,[],none,none,n+3,kq,rfl,U,rfl,U,U,U,z4,rfl,rfl⟩ ?_
 clear c2 c3 g1 g2 g3 u8 u9 q0 v6 v7 z2 v9 z3 z4;rintro i _ _ L4 ⟨c,R,vl,vs,D,rs,ol,os,m,_,rfl,o5,S,q1,q3,hm,K,rfl,rfl⟩ again;refine .I O (λe1=>?_) (λe1=>?_)
 .obtain⟨i,rfl⟩:∃j,i=j+1:=⟨i - 1,by have:(0:Int)<i:=xX;omega⟩;refine .g O ?_;have c4:=wD (X:=C.X) b H J l m 1 8 L4 K.dq M o M M M;rw[show(1:Int)+((8:Nat):Int)=9 from rfl] at c4;refine .c O c4 ?_;rintro _ _ ⟨⟨x,rfl,q4,q5⟩,i2,i3⟩;refine .g O ?_;have z5:=K.Uq i2 i3;rename_i L5;have c5:=wD (X:=C.X) b H J l (m+1) 1 3 L5 z5.dq M o M M M;rw[show(1:Int)+((3:Nat):Int)=4 from rfl] at c5;refine .c O c5 ?_;rintro _ _ ⟨⟨cq,rfl,a5,a6⟩,i4,i5⟩;refine .g O ?_;have u5:=z5.Uq i4 i5;rename_i L6;obtain⟨cq,rfl⟩:∃q:Nat,cq=q:=⟨cq.toNat,M⟩;refine .l (λw E B L'=>∃(t:aH) (x:Int) (v:Value) (I:LH) (q j:Nat),w=j/\j+t.length=cq/\1<=x/\x<=9/\ny none t=0/\(∀y,t.getLast?=some y->x<=y)/\q<=m+2+t.length/\mA L6 b H J l q 1 3 bL L' v t I/\E=[(0,.v (pt b)),(2,.v (.int .i64 kw)),(6,.p 0 0),(7,.p 2 0),(8,.v (.int .i64 ((i+1:Nat):Int))),(9,.v v),(10,.v (.int .i64 x)),(11,.v (.int .i64 j))]/\B=[some ⟨List.map SV.v Hx.z.cells.toList,52⟩,none,some ⟨[.v vl,.v vs,.v (.int .i64 W),.v (.slice none 0 0)],52⟩]) ⟨[],x,_,_,m+2,cq,rfl,U,q4,q5,rfl,U,U,mA.nil u5.dq,rfl,rfl⟩ ?_
  rintro j _ _ L7 ⟨t,x,v,I,q,_,rfl,o6,q4,q5,z6,q6,hq,F,rfl,rfl⟩ G;refine .I O (λe2=>?_) (λe2=>?_)
  .obtain⟨j,rfl⟩:∃k,j=k+1:=⟨j - 1,by have:(0:Int)<j:=Ge;omega⟩;obtain⟨fa,fc,rfl,_⟩:=F.g.slice;refine .v O (Ef.grow O O O O O O O O O aY gf F.g (ls:=[x]) (.own O O O O) bU) ?_;rintro _ _ _ ⟨v',rfl,rfl,u1,_⟩;have u2:mA L6 b H J l q 1 3 bL _ v' (t++[x]) I:=⟨u1,F.h,F.i⟩;rename_i d _;refine .o O (sB b H J l q 3 d u2.dq M o M) ?_;rintro _ _ ⟨⟨dy,rfl,o7⟩,i6,i7⟩;refine .g O ?_;obtain⟨I2,i8⟩:=u2.step i6 i7;rename_i L9;rw[wrap64_in (x - dy) M M];generalize z7:(if x - (dy:Int)>1 then x - (dy:Int) else 1)=x1;have z8:1<=x1/\x1<=x:=by rw[<-z7];split <;> omega
   exact .a (G j _ _ _ M ⟨t++[x],x1,v',I2,q+1,j,rfl,bU,z8.1,M,Ek q4 q5 z6 (λy hy=>q6 y (by simpa using hy)),(λy hy=>by simp at hy;omega),bU,i8,rfl,rfl⟩) (by exact⟨rfl,rfl,rfl,rfl,rfl,rfl,rfl,aJ (λz=>some (SV.v (Value.int .i64 z))) (Vy M),aE⟩)
  .have i9:j=0:=by have:¬(0:Int)<j:=Ge;omega
   subst i9;obtain⟨fa,fc,rfl,f0⟩:=F.g.slice;obtain⟨D2,u3,f1⟩:=u5.row F;obtain⟨la,lc,rfl,_⟩:=u3.ow.slice;obtain⟨sa,sc,rfl,_⟩:=u3.sw.slice;have o8:1<=t.length/\t.length<=4:=M
   have f2:mC t=0:=by unfold mC;rw[A (by rw[Decidable.not_not,Ba];omega)];exact z6
   have z9:rs.length=c.length:=by have:=aJ List.length u3.re;simpa using this
   refine .g rfl (.f (.run' [0,1,2,3,5,6,7,8] rfl (.a 4 rfl (Ef.grow rfl rfl rfl rfl rfl rfl rfl rfl rfl gh Nn u3.ow.grow (ls:=[((fa,t.length,fc),t)]) (.own rfl rfl rfl rfl) bU) (QL) ?_)));rintro _ _ _ ⟨v1,rfl,rfl,d1,_⟩;obtain⟨f3,T⟩:=u3.aip (x:=((fa,t.length,fc),t)) ⟨f1,rfl,f0⟩ d1;rename_i d _;refine .run' [14] O (.w 9 O O ((sB b H J l q 4 d T.dq M o M)) ?_);rintro _ _ ⟨⟨y9,rfl,o9⟩,f4,f5⟩;have q7:=T.Uq f4 f5;rename_i L9;refine .run' [10] rfl (.a 11 rfl (Ef.cz 53 (.inr ⟨_,_,_,rfl⟩) rfl rfl (λb8 Q _=>Ef.call rfl (Dk b H (some ⟨b8,0,none⟩) J 5 l [0,1,2,2,(y9:Int)] (q+1) _ (q7.dq.le (Le.put Q _)) (HV [0,1,2,2,(y9:Int)] (aj _ _ _)) M o U U (λa ha=>by cases ha;exact q7.dq.off Q)))) ((by rintro _ _ _ ⟨b8,Q,_,_,rfl,rfl,⟨y,rfl,_⟩,_⟩;exact⟨ij _,rfl,.inl rfl⟩)) ?_);rintro _ _ _ ⟨b8,Q,t0,v8,rfl,rfl,⟨sk,rfl,f6⟩,d2,d3⟩;have u6:=(q7.le (Le.put Q _)).Uq d2 d3;rename_i t3;refine .run' [12] rfl (.a 13 rfl (Ef.grow rfl rfl rfl rfl rfl rfl rfl rfl rfl aY gf u6.sw.grow (ls:=[sk]) (.own rfl rfl rfl rfl) bU) (QL) ?_);rintro _ _ _ ⟨v2,rfl,rfl,u7,_⟩;obtain⟨f7,d4⟩:=u6.aiq u7;obtain⟨t4,t5,rfl,_⟩:=d1.slice;obtain⟨t6,t7,rfl,_⟩:=u7.slice;refine .a 15 rfl (Ef.lG rfl) (nj) ?_;rintro _ _ _ ⟨rfl,rfl,rfl⟩;refine .run' [16] rfl (.a 17 rfl (Ef.lG rfl) (nj) ?_);rintro _ _ _ ⟨rfl,rfl,rfl⟩;refine .fin O ?_;refine .g O ?_;refine .a (again i _ _ _ M ⟨c++[t],R++[sk],_,_,D2,_,f3,f7,q+1+1,i,rfl,bU,bU,?_,?_,bU,d4,rfl,rfl⟩) (by exact⟨rfl,rfl,rfl,rfl,aJ (λz=>some (SV.v (Value.int .i64 z))) (Vy M),aE⟩)
   .intro x hx;rcases fg.1 hx with hx | hx
    .exact q1 x hx
    .rw[dJ.1 hx];exact f2
   .intro x hx;rcases fg.1 hx with hx | hx
    .exact q3 x hx
    .rw[dJ.1 hx];simp at f6;omega
 .have q8:i=0:=by have:¬(0:Int)<i:=xX;omega
  subst q8;refine .g O ?_;obtain⟨la,lc,rfl,_⟩:=K.ow.slice;obtain⟨sa,sc,rfl,_⟩:=K.sw.slice;have z9:rs.length=c.length:=by have:=aJ List.length K.re;simpa using this
  rw[z9,S];have f8:=K.rows;have d5:=K.ahQ;have t8:=K.ints;have t9:Le (L.bT b) L4:=K.d0.trans K.dl;have c6:=sB (X:=C.X) b H J l m kw L4 K.dq M o M;refine .c O c6 ?_;rintro _ _ ⟨⟨wq,rfl,m0⟩,q9,f9⟩;refine .g O ?_;have g6:=K.dq.next q9 f9;rename_i L6;have v0:Le (L4.bT b) (L6.bT b):=pW (iw q9);refine .l (λw E B L'=>∃(u:dt) (v:Value) (I:LH) (q i:Nat),w=i/\i+u.length=wq/\q<=m+1+8 *u.length/\(∀x∈u,gy c x=0/\x.pay<=9)/\mA L6 b H J l q 4 68 gj L' v u I/\E=[(0,.v (pt b)),(6,.p 0 0),(7,.p 2 0),(12,.v (.int .i64 i))]/\B=[some ⟨List.map SV.v Hx.z.cells.toList,52⟩,none,some ⟨[.v (.slice la c.length lc),.v (.slice sa c.length sc),.v (.int .i64 W),.v v],52⟩]) ⟨[],_,_,m+1,wq,rfl,U,U,U,mA.nil g6,rfl,rfl⟩ ?_
  rintro i _ _ d ⟨u,v,I,q,_,rfl,m1,hq,v4,F,rfl,rfl⟩ G;refine .I O (λe2=>?_) (λe2=>?_)
  .obtain⟨i,rfl⟩:∃j,i=j+1:=⟨i - 1,by have:(0:Int)<i:=Ge;omega⟩;obtain⟨ua,uc,rfl,d6⟩:=F.g.slice;refine .g O (.f (.run' [0,1,2,3] O ?_));have d7:=f8.le (v0.trans (pW F.le));have c8:=Ce (X:=C.X) ⟨c,R,W,u⟩ ⟨la,sa,ua,lc,sc,uc⟩ b H J l q d F.dq M o d7 (by show 1<=c.length;omega) (by show c.length<=3;omega) (λx hx=>Tg (q1 x hx));rw[show gZ ⟨c,R,W,u⟩ ⟨la,sa,ua,lc,sc,uc⟩=.agg #[.slice la c.length lc,.slice sa c.length sc,.int .i64 W,.slice ua u.length uc] by show Value.agg #[.slice la c.length lc,.slice sa R.length sc,.int .i64 W,.slice ua u.length uc]=_;rw[S]] at c8;refine .w 4 O O c8 ?_;rintro _ _ ⟨⟨x,rfl,hx,a0⟩,d8,q2,m2,a2⟩;obtain⟨I3,u1⟩:=F.call d8 a2;refine .run' [5] rfl (.a 6 rfl (Ef.grow rfl rfl rfl rfl rfl rfl rfl rfl rfl iA (λx=>AO x) u1.g (ls:=[x]) (.own rfl rfl rfl rfl) bU) (QL) ?_);rintro _ _ _ ⟨v',rfl,rfl,u2,_⟩;obtain⟨m3,a7,rfl,_⟩:=u2.slice;refine .run' [7] rfl (.a 8 rfl (Ef.lG rfl) nj ?_);rintro _ _ _ ⟨rfl,rfl,rfl⟩;refine .fin O ?_;refine .g O ?_;refine .a (G i _ _ _ M ⟨u++[x],_,I3,q2,i,rfl,bU,bU,?_,⟨u2,u1.h,u1.i⟩,rfl,rfl⟩) (by exact⟨rfl,rfl,rfl,aJ (λz=>some (SV.v (Value.int .i64 z))) (Vy M),aE⟩);intro y hy;rcases fg.1 hy with hy | hy
   .exact v4 y hy
   .rw[dJ.1 hy];exact⟨hx,a0⟩
  .have q8:i=0:=by have:¬(0:Int)<i:=Ge;omega
   subst q8;obtain⟨ua,uc,rfl,d6⟩:=F.g.slice;obtain⟨m4,Q⟩:=F.dq.blk;have d9:=pW F.le;refine .D r O ?_;have i0:Le D (d.bT b):=λx y hy=>by
    have a3:x≠b:=λe=>by subst e;rw[K.db] at hy;cases hy
    exact d9 _ _ (v0 _ _ (by rw[bW a3];exact K.dl _ _ hy))
   have u5:=K.sw.keep (L':=I) λx hx=>(F.i x (λe=>K.osb (by rw[hx,e]))).trans (q9 x (λe=>K.osb (by rw[hx,e])));have T:=u5.le F.g.1;have a4:bz (off os (d.bT b)) ua 4 gj u:=by
    obtain⟨_,ob,ho,_⟩:=F.g;refine(ho.keep λx hx=>?_).at iA;subst hx;obtain⟨cq,v5⟩:=ho.ME;have h1:os≠some x:=λe=>by
     subst e;obtain⟨c2,f⟩:=T.ME;rw[v5] at f;cases f
    rw[uK h1,bW (λe=>by subst e;rw[Q] at v5;cases v5)]
   refine⟨⟨c,R,W,u⟩,⟨la,sa,ua,lc,sc,uc⟩,q,off os (d.bT b),os,?_,⟨adE (by show 1<=c.length;omega) (by show c.length<=3;omega) q1 S q3 z1 (by show u.length<=5;omega) (λx hx=>(v4 x hx).1),by show c.length<=kc;omega,by show u.length<=kw;omega,q3,λx hx=>(v4 x hx).2⟩,M,⟨K.d0.trans (Ee i0 K.ns),?_,(Yb _ _).trans (gC _ _),d5.le (aam (v0.trans d9)),a4,d6,?_,λx hx=>ax hx,F.dq,K.hi.le (Ee i0 K.ns)⟩⟩
   .show _=Value.agg #[.slice la c.length lc,.slice sa R.length sc,.int .i64 W,.slice ua u.length uc];rw[S];rfl
   .unfold off LH.bT
    split
    .rfl
    .rw[ax rfl]
   .show dB d 1 3 (.slice sa R.length sc) R.length (R.flatMap bL) os;rw[S];rw[S] at T;exact T
end
def CF(k:Int)(x:Want):Bool:=x.sort==1&&(decide (k<0)||x.kind==k)
def jC(k:Int)(xs:dt):Int:=bu ((xs.filter (CF k)).map (·.cO))
def eV(a b:aH):bu (a++b)=bu a+bu b:=by
 induction a with
 | nil=>rw[yp,Oz];omega
 | cons x a l=>rw[List.cons_append,ni,ni,l];omega
def af8(w:dt)(k:Nat):0<=jy w k/\jy w k<=w.length:=by
 unfold jy;have:=List.countP_le_length (p:=yr k) (l:=w);omega
def aax(v:eD s)(x:Want):0<=kN s x/\kN s x<=36:=by
 unfold kN;let d:=v.k0;have h:0<=bu ((fT s x.kind).take ((fT s x.kind).length - x.cO.toNat))/\bu ((fT s x.kind).take ((fT s x.kind).length - x.cO.toNat))<=36:=by
  by_cases f:x.kind.toNat<s.ay.length
  .have z:fT s x.kind=s.ay[x.kind.toNat]:=Ej (bX f);rw[z];have u:=v.lf _ (fY f);have q:=u.l4;have:=kH 9 (s.ay[x.kind.toNat].take (s.ay[x.kind.toNat].length - x.cO.toNat)) λy g=>by have:=u.r y (yo g);omega
   rw[mi] at this;omega
  .have:fT s x.kind=[]:=by unfold fT;rw[dL,mh M];rfl
   rw[this];simp[bu]
 generalize bu ((fT s x.kind).take ((fT s x.kind).length - x.cO.toNat))=S at h ⊢;omega
def af6(v:eD s)(w:dt)(k:Nat):0<=nP s w k/\nP s w k<=36 *w.length:=by
 unfold nP;let h:=kH 36 ((w.filter (zK k)).map (kN s)) λy g=>by
  obtain⟨x,_,rfl⟩:=fK.1 g;exact aax v x
 rw[eT] at h;let q:=BB (zK k) w;omega
def aaa(v:eD s)(k:Nat):0<=bu (s.ay.getD k [])/\bu (s.ay.getD k [])<=36:=by
 by_cases f:k<s.ay.length
 .have z:=Ej (bX f);rw[z];let x:=v.lf _ (fY f);let u:=x.l4;have:=kH 9 s.ay[k] λy g=>by have:=x.r y g;omega
  omega
 .rw[dL,mh M];simp[bu]
def kX(s:Sw)(xs:dt)(l:aH):List Int:=(List.range s.ay).map λk=>l.getD k 0 *bu (s.ay.getD k [])+nP s xs k
def afA{b:Int}(q:0<=c/\c<=8)(z:0<=b/\b<=36):0<=c *b/\c *b<=288:=by
 refine⟨BA q.1 z.1,?_⟩;have:=Dx q.2 z.2 z.1 V;omega
def Dd(v:eD s){x:Want}(u:x∈aZ s q):Dq s.ay x:=by
 unfold aZ at u;obtain⟨i,_,z⟩:=Fc.1 u;exact v.wt x (fZ z)
def K8(v:eD s)(w:aU)(f:s.ay.length<=k):nP s (aZ s w) k=0:=by
 unfold nP;rw[IV.2]
 .rfl
 .intro x u h;have q:=Dd v u;simp[zK] at h;have:=q.k1;omega
theorem OZ{α:Type}{f g:α->Bool}:∀{l:List α},(∀k∈l,f k=g k)->l.any f=l.any g
 | [],_=>rfl
 | x::l,h=>by rw[List.any_cons,List.any_cons,h x fC,OZ λk u=>h k (fG _ u)]
def ad7(k:Nat)(w:dt):jC (k:Int) w=DT w k:=by
 unfold jC DT
 congr 2
def OC:∀{w:dt},(∀x∈w,U4 x)->jC (-1) w=DT w 0+DT w 1+DT w 2+RX w
 | [],_=>rfl
 | x::w,h=>by
  have l:=OC λy g=>h y (fG _ g);have u:=(h x fC).k;rw[tV,tV,tV,MU];have s:jC (-1) (x::w)=jC (-1) w+if CF (-1) x then x.cO else 0:=by
   unfold jC;rw[yV]
   split
   .rw[iH,ni];omega
   .omega
  rw[s,l]
  by_cases a:x.sort=1
  .rcases u with e | e | e | ⟨e,_⟩ <;> simp[CF,NJ,isAny,a,e] <;> omega
  .simp[CF,NJ,isAny,a]
def Ut(v:eD s)(w:aU)(l:aH):bu (kX s (aZ s w) l)=bu (fh s w l).s:=by
 rw[wV v,ad0];have q:=v.l1;have r:=v.l3;let f:=K8 v w (k:=0);let x:=K8 v w (k:=1);let u:=K8 v w (k:=2);have:s.ay.length=1\/s.ay.length=2\/s.ay.length=3:=M
 rcases this with e | e | e
 all_goals
  rw[e] at f x u;simp[kX,e,PQ,nI,bu] at x u ⊢;omega
def adm(v:eD s)(w:aU)(l:aH):bu (kX s (aZ s w) l) - jC (-1) (aZ s w)=CH (fh s w l):=by
 unfold CH;rw[Ut v,OC v.inp,wV v];simp only[ad0];omega
def FU(v:eD s)(w:aU)(l:aH):nz s (fh s w l)=
  if(List.range s.ay.length).any (λk=>decide (s.aO.getD k 0<jy (aZ s w) k+l.getD k 0)) then 12 else
  if(List.range s.ay).any (λk=>decide (l.getD k 0 *bu (s.ay.getD k [])+nP s (aZ s w) k<jC k (aZ s w))) then 9 else
  if bu (kX s (aZ s w) l)<jC (-1) (aZ s w) then 9 else 0:=by
 let y:=v.st;let r:=v.l3;let j:=adm v w l;unfold nz;rw[y];let p:(List.range s.ay).any (λk=>decide (s.aO.getD k 0<(fh s w l).t.getD k 0))=(List.range s.ay).any (λk=>decide (s.aO.getD k 0<jy (aZ s w) k+l.getD k 0)):=by
  refine OZ λk f=>?_;let f:=fo.1 f;rw[wV v,FV M];unfold PQ;rw[ax f]
 let q:(List.range s.ay).any (λk=>decide ((fh s w l).s.getD k 0<(fh s w l).d.getD k 0))=(List.range s.ay).any (λk=>decide (l.getD k 0 *bu (s.ay.getD k [])+nP s (aZ s w) k<jC k (aZ s w))):=by
  refine OZ λk f=>?_;let f:=fo.1 f;rw[wV v,FV M,FV M,ad7];unfold PQ;rw[ax f,Int.add_comm]
 rw[p,q,<-j]
 congr 2
 by_cases h:bu (kX s (aZ s w) l)<jC (-1) (aZ s w)
 .rw[ax h,ax M]
 .rw[A h,A M]
def W1(v:eD s)(w:dt)(b:∀k,0<=l.getD k 0/\l.getD k 0<=8)(u:w.length<=100):∀y∈kX s w l,0<=y/\y<=(4000:Nat):=by
 intro y g;obtain⟨k,_,rfl⟩:=fK.1 g;have q:=af6 v w k;let z:=afA (b k) (aaa v k);omega
def YT:∀{w:dt},(∀x∈w,U4 x)->(w.countP (λx=>x.sort==2):Int)<=jy w 0+jy w 1+jy w 2
 | [],_=>by simp[jy]
 | x::w,h=>by
  have l:=YT λy g=>h y (fG _ g);have u:=(h x fC).k;rw[rq,rq,rq,List.countP_cons]
  by_cases a:x.sort=2
  .rcases u with e | e | e | ⟨e,i⟩ <;> simp[yr,a,e] <;> omega
  .simp[a]
   split <;> split <;> split <;> omega
def Hg{s:Sw}(hok:eD s)(w:List Nat):fB s w=(jT s.aO).filter (okW s w):=by
 unfold fB
 split
 .rfl
 .rename_i hc
  symm
  rw[List.filter_eq_nil_iff];intro l hl hokl;apply hc;let hlm:=rX hl;let hr:nz s (fh s w l)=0:=by unfold okW at hokl;simpa using hokl
  rw[FU hok] at hr;let PK:=hok.st;let h1:=hok.l1;let h3:=hok.l3;let hany:(List.range s.ay.length).any (λk=>decide (s.aO.getD k 0<jy (aZ s w) k+l.getD k 0))=false:=by
   cases h:(List.range s.ay.length).any (λk=>decide (s.aO.getD k 0<jy (aZ s w) k+l.getD k 0)) with
   | false=>rfl
   | true=>rw[h,if_pos rfl] at hr;cases hr
  rw[List.any_eq_false] at hany;let hk:∀k,k<s.ay.length->jy (aZ s w) k<=s.aO.getD k 0:=λk hk=>by
   have:=hany k (List.mem_range.2 hk);let h2:=(hlm.2 k).1;simp only[decide_eq_true_eq] at this;omega
  have Pp:∀k,s.ay.length<=k->jy (aZ s w) k=0:=λk hk=>by
   unfold jy;rw[List.countP_eq_zero.2]
   .rfl
   .intro x hx h;have hw:=Dd hok hx;simp[yr] at h;have:=hw.k1;omega
  have ht:=YT (w:=aZ s w) hok.inp;have e0:=hk 0;have e1:=hk 1;have e2:=hk 2;have f1:=Pp 1;have f2:=Pp 2;unfold uB;have hs:∀st:List Int,st.length=s.ay.length->bu st=st.getD 0 0+(if 1<s.ay.length then st.getD 1 0 else 0)+(if 2<s.ay.length then st.getD 2 0 else 0):=λst hl=>by
   have:s.ay.length=1\/s.ay.length=2\/s.ay.length=3:=by omega
   rcases this with e | e | e
   all_goals rw[e] at hl ⊢
   .match st,hl with
    | [a],_=>simp[bu]
   .match st,hl with
    | [a,b],_=>simp[bu]
   .match st,hl with
    | [a,b,c],_=>simp[bu]
  rw[hs _ PK]
  split <;> split <;> omega
def lW(n:Nat):Nat->List (List Nat)
 | 0=>[[]]
 | d+1=>[]::(List.range (d+1)).attach.flatMap λk=>(lW n (d - k.1)).map λw=>(n - (d+1)+k.1)::w
termination_by d=>d
def CR(n d:Nat):lW n d=[]::(List.range d).flatMap λk=>(lW n (d - 1 - k)).map λw=>(n - d+k)::w:=by
 cases d with
 | zero=>rw[lW];rfl
 | succ d=>
  rw[lW]
  congr 1
  have:∀(l:aU) (g:Nat->List (List Nat)),l.attach.flatMap (λk=>g k.1)=l.flatMap g:=λl g=>by
   rw[<-List.flatMap_map (f:=Subtype.val),List.attach_map_subtype_val]
  exact this (List.range (d+1)) λk=>(lW n (d - k)).map λw=>(n - (d+1)+k)::w
def rY:∀{d:Nat},d<=n->∀{w:aU},w∈lW n d↔Im w/\∀i∈w,n - d<=i/\i<n:=by
 intro d
 induction d using Nat.strongRecOn with
 | ind d ih=>
  intro hd w;rw[CR];cases w with
  | nil=>simp[Im]
  | cons x w=>
   rw[eP];simp only[tp,fo,fK,reduceCtorEq,false_or]
   constructor
   .rintro⟨k,hk,w',hw',he⟩;cases he;obtain⟨q,z⟩:=(ih (d - 1 - k) M M).1 hw';refine⟨Dw.2 ⟨λy g=>by have:=z y g;omega,q⟩,λi hi=>?_⟩;rcases eP.1 hi with rfl | hi
    .omega
    .have:=z i hi;omega
   .rintro⟨q,z⟩;let⟨r,v⟩:=Dw.1 q;let u:=z x fC;refine⟨x - (n - d),M,w,(ih _ M M).2 ⟨v,λi hi=>?_⟩,by congr 1;omega⟩;have:=r i hi;have:=z i (fG _ hi);omega
theorem Tl:∀a:List Nat,zU a a=false
 | []=>rfl
 | a::l=>by rw[zU,Tl l];simp
def Kh(n:Nat):∀d:Nat,(lW n d).Pairwise λa b=>zU a b=true:=by
 intro d
 induction d using Nat.strongRecOn with
 | ind d ih=>
  rw[CR];refine Dw.2 ⟨λw u=>?_,?_⟩
  .obtain⟨k,_,u⟩:=tp.1 u;obtain⟨c,_,rfl⟩:=fK.1 u
   rfl
  .rw[List.pairwise_flatMap];refine⟨λk f=>?_,?_⟩
   .let f:=fo.1 f;rw[Ff];refine(ih (d - 1 - k) M).imp λ{a b} h=>?_;rw[zU,h];simp
   .refine List.pairwise_lt_range.imp λ{i j} t x q y g=>?_;obtain⟨a,_,rfl⟩:=fK.1 q;obtain⟨b,_,rfl⟩:=fK.1 g;rw[zU];simp;omega
def agL(s:Sw)(w:aU):Bool:=(dE s w).isSome
def ez(s:Sw):List (List Nat):=(lW s.aC s.aC).filter (agL s)
def aar(h:q∈lW s.aC.length s.aC.length):Im q/\tn s q:=by
 obtain⟨u,z⟩:=(rY (dA _)).1 h;exact⟨u,λi v=>(z i v).2⟩
def qX(s:Sw)(l:Da):Int:=l.foldl (λn w=>max n (fb s w)) 0
def Hc(s:Sw)(l:Da)(w:aU):qX s (l++[w])=max (qX s l) (fb s w):=by unfold qX;rw[zi];rfl
def Vt(s:Sw)(w:aU):Int:=((dE s w).map (·.c)).getD (-1)
def ai3(s:Sw)(l:Da)(a b:Nat):Bool:=decide (Vt s (l.getD a [])<Vt s (l.getD b []))
def XG(s:Sw)(l:Da)(j:Nat):Option Nat:=gT (ai3 s l) ((List.range j).filter λi=>decide (qX s l<=fb s (l.getD i [])))
def ug{P:List α->Prop}(h0:P [])(h1:∀l x,P l->P (l++[x]))(l:List α):P l:=by
 generalize hn:l.length=n
 induction n generalizing l with
 | zero=>rw[Dt] at hn;subst hn;exact h0
 | succ n ih=>
  have CC:l≠[]:=λe=>by subst e;simp at hn
  rw[<-IP CC];exact h1 _ _ (ih _ bU)
def Pv{f:α->Int}:∀(l:List α) (x:α),gT (λa b=>decide (f a<f b)) l=some x->∃m post,l=m++x::post/\(∀y∈m,f x<f y)/\∀y∈post,f x<=f y:=by
 intro l
 induction l using ug with
 | h0=>intro x h;cases h
 | h1 l z q=>
  intro x h;rw[rH] at h;cases j:gT (λa b=>decide (f a<f b)) l with
  | none=>
   rw[j] at h;cases h;have o:l=[]:=by
    cases l with
    | nil=>rfl
    | cons y l=>
     exfalso
     have:∀(l:List α) (y:α),∃w,l.foldl (mR (λa b=>decide (f a<f b))) y=some w:=λl=>by
      induction l with
      | nil=>intro y;exact⟨y,rfl⟩
      | cons u l q=>
       intro y;rw[lJ];show ∃w,l.foldl _ (if decide (f u<f y) then some u else some y)=some w
       split
       .exact q u
       .exact q y
     obtain⟨w,d⟩:=this l y;unfold gT at j;rw[lJ] at j;exact ar (d.symm.trans j) U
   subst o;exact⟨[],[],rfl,λy hy=>(by cases hy),λy hy=>(by cases hy)⟩
  | some b=>
   rw[j] at h;obtain⟨m,post,o,h1,v⟩:=q b j
   change (if decide (f z<f b) then some z else some b)=some x at h
   by_cases e:f z<f b
   .rw[ax xQ] at h;cases h;refine⟨l,[],rfl,λy hy=>?_,λy hy=>(by cases hy)⟩;rw[o] at hy;rcases fg.1 hy with hy | hy
    .have:=h1 y hy;omega
    .rcases eP.1 hy with rfl | hy
     .exact e
     .have:=v y hy;omega
   .rw[A xQ] at h;cases h;refine⟨m,post++[z],by rw[o];simp,h1,λy hy=>?_⟩;rcases fg.1 hy with hy | hy
    .exact v y hy
    .rw[dJ.1 hy];omega
def D5{d:α->α->Bool}(s:∀a b c,d a b=true->d b c=true->d a c=true)(i:∀a,d a a=false):∀(l:List α) (x:α),gT d l=some x->x∈l/\∀y∈l,d y x=false:=by
 intro l
 induction l using ug with
 | h0=>intro x h;cases h
 | h1 l z q=>
  intro x h;rw[rH] at h;cases j:gT d l with
  | none=>
   rw[j] at h;cases h;have o:l=[]:=by
    cases l with
    | nil=>rfl
    | cons y l=>
     exfalso
     have:∀(l:List α) (y:α),∃w,l.foldl (mR d) y=some w:=λl=>by
      induction l with
      | nil=>intro y;exact⟨y,rfl⟩
      | cons u l q=>
       intro y;rw[lJ];show ∃w,l.foldl _ (if d u y then some u else some y)=some w
       split
       .exact q u
       .exact q y
     obtain⟨w,f⟩:=this l y;unfold gT at j;rw[lJ] at j;exact ar (f.symm.trans j) U
   subst o;exact⟨U,λy hy=>by simp at hy;rw[hy];exact i _⟩
  | some b=>
   rw[j] at h;obtain⟨h1,v⟩:=q b j
   change (if d z b then some z else some b)=some x at h
   by_cases e:d z b=true
   .rw[ax e] at h;cases h;refine⟨U,λy hy=>?_⟩;rcases fg.1 hy with hy | hy
    .have r:=v y hy;cases t:d y z with
     | false=>rfl
     | true=>rw[s _ _ _ t e] at r;cases r
    .rw[dJ.1 hy];exact i _
   .rw[A e] at h;cases h;refine⟨by simp[h1],λy hy=>?_⟩;rcases fg.1 hy with hy | hy
    .exact v y hy
    .rw[dJ.1 hy];simpa using e
theorem JK:∀{a b c:aU},zU a b=true->zU b c=true->zU a c=true
 | a,[],_,h,_=>by rw[show zU a []=false by cases a <;> rfl] at h;cases h
 | _,_::_,[],_,h=>by cases h
 | [],_::_,_::_,_,_=>rfl
 | a::l,b::k,c::m,q,z=>by
  rw[zU] at q z ⊢;simp only[vp,decide_eq_true_eq,nF] at q z ⊢;rcases q with q | ⟨rfl,q⟩
  ·rcases z with z | ⟨rfl,z⟩
   ·exact .inl M
   ·exact .inl q
  ·rcases z with z | ⟨rfl,z⟩
   ·exact .inl z
   ·exact .inr ⟨rfl,JK q z⟩
def V0(s:Sw)(a b c:Cr)(q:yC s a b=true)(z:yC s b c=true):yC s a c=true:=by
 unfold yC at q z ⊢
 split at q
 .rename_i p;simp only[vp,decide_eq_true_eq,nF] at q
  split at z
  .simp[vp,decide_eq_true_eq,nF] at z;rw[ax M];simp[vp,decide_eq_true_eq,nF];omega
  .rename_i u;rw[ax M];simp[vp,decide_eq_true_eq,nF];omega
 .rename_i p
  split at z
  .simp[vp,decide_eq_true_eq,nF] at z;rw[ax M];simp[vp,decide_eq_true_eq,nF];omega
  .rename_i u;rw[A M];exact JK q z
def ac2(s:Sw)(a:Cr):yC s a a=false:=by
 unfold yC;rw[A U];exact Tl _
def ac8(u:∀i∈q,i<n):qV q<2 ^ n:=by
 refine Nat.lt_pow_two_of_testBit _ λi v=>?_;rw[JN];cases h:q.contains i with
 | false=>rfl
 | true=>have:=u i (List.contains_iff_mem.1 h);omega
def Zt(m:Nat):Im (bB m):=List.Pairwise.filter _ List.pairwise_lt_range
def M9(v:eD s)(c:Cr):c∈(RV s).filterMap id↔c.w∈lW s.aC.length s.aC.length/\dE s c.w=some c:=by
 unfold RV;rw[Fc];simp[fK,fo,id,exists_eq_right]
 constructor
 .rintro⟨m,hm,hc⟩;have u:=(js hc).1;refine⟨?_,by rwa[u]⟩;rw[u,rY (dA _)];exact⟨Zt m,λi q=>⟨M,DF hm i q⟩⟩
 .rintro⟨h1,h2⟩;obtain⟨z,u⟩:=aar h1;refine⟨qV c.w,ac8 u,?_⟩;rw[GL z λx d=>lg (u x d) v.w5];exact h2
def pD:q∈ez s↔q∈lW s.aC.length s.aC.length/\∃c,dE s q=some c:=by
 unfold ez;rw[nH];unfold agL;rw[Option.isSome_iff_exists]
def Zs(j:eD s)(g:C8){c:Cr}(u:q∈lW s.aC.length s.aC.length)(a:g q=true)(b:dE s q=c)
  (n:∀v d,v∈lW s.aC s.aC->g v=true->dE s v=some d->v≠q->yC s c d=true):nZ (qO s g)=q:=by
 have f:=(js b).1;have r:c∈((RV s).filterMap id).filter λc=>g c.w:=nH.2 ⟨(M9 j c).2 ⟨by rw[f];exact u,by rw[f];exact b⟩,by rw[f];exact a⟩;cases p:qO s g with
 | none=>
  exfalso
  unfold qO at p;generalize((RV s).filterMap id).filter (λc=>g c.w)=l at r p;obtain⟨m,post,rfl⟩:=List.append_of_mem r;have:∀(l:List Cr) (o:yb),l.foldl (mR (yC s)) o=none->l=[]/\o=none:=λl=>by
   induction l with
   | nil=>intro o h;exact⟨rfl,h⟩
   | cons x l I=>
    intro o h;rw[lJ] at h;have:=(I _ h).2;cases o with
    | none=>cases this
    | some y=>
     change (if yC s x y then some x else some y)=none at this
     split at this <;> cases this
  have:=(this _ _ p).1;simp at this
 | some d=>
  obtain⟨J,z⟩:=D5 (V0 s) (ac2 s) _ _ p;have e:=z c r;obtain⟨K,k⟩:=nH.1 J;obtain⟨t,D⟩:=(M9 j d).1 K;show d.w=q;refine qF λi=>?_;rw[n d.w d t k D i] at e;cases e
def FI(s:Sw)(l:Da):∀w∈l,fb s w<=qX s l:=by
 induction l using ug with
 | h0=>intro w h;cases h
 | h1 l z u=>
  intro w hw;rw[Hc];rcases fg.1 hw with hw | hw
  .have:=u w hw;omega
  .rw[dJ.1 hw];omega
def CM(v:eD s)(l:Da)(i:l≠[]):∃w∈l,fb s w=qX s l:=by
 induction l using ug with
 | h0=>exact ar rfl i
 | h1 l z u=>
  rw[Hc]
  by_cases h:qX s l<=fb s z
  .exact⟨z,U,M⟩
  .by_cases o:l=[]
   .subst o;have:=(P3 v z).1;have h0:qX s []=0:=rfl;omega
   .obtain⟨w,h1,q⟩:=u o;exact⟨w,by simp[h1],M⟩
def vW{lt:α->α->Bool}{l:List α}(h:l≠[]):∃x,gT lt l=some x:=by
 cases d:gT lt l with
 | some x=>exact⟨x,rfl⟩
 | none=>
  exfalso
  have:∀(l:List α) (o:Option α),l.foldl (mR lt) o=none->l=[]/\o=none:=λl=>by
   induction l with
   | nil=>intro o h;exact⟨rfl,h⟩
   | cons x l u=>
    intro o h;rw[lJ] at h;have:=(u _ h).2;cases o with
    | none=>cases this
    | some y=>
     change (if lt x y then some x else y)=none at this
     split at this <;> cases this
  exact h (this _ _ d).1
def Mh:∀{r:aH},(∀x∈r,0<=x/\x<=8)->List.replicate r.length 0∈jT r
 | [],_=>by simp[jT]
 | m::t,h=>by
  have o:=h m fC;rw[jT,tp];exact⟨0,fo.2 M,fK.2 ⟨_,Mh λx u=>h x (fG _ u),rfl⟩⟩
def I9(v:eD s):∃c,dE s []=some c:=by
 refine vW ?_;rw[Hg v];intro h;rw[List.map_eq_nil_iff,IV] at h;refine h _ (Mh v.sr) ?_;unfold okW;rw[beq_iff_eq,FU v];let u:aZ s []=[]:=rfl;let n:∀k,(List.replicate s.aO (0:Int)).getD k 0=0:=λk=>by
  rw[dL,IN]
  split <;> rfl
 let q:(List.range s.ay).any (λk=>decide (s.aO.getD k 0<jy (aZ s []) k+(List.replicate s.aO (0:Int)).getD k 0))=false:=by
  rw[List.any_eq_false];intro k f;let f:=fo.1 f;let y:=v.st;have:=v.sr (s.aO.getD k 0) (by rw[dL,bX M];exact fY _);rw[n,u];simp only[decide_eq_true_eq];have:jy [] k=0:=rfl;omega
 let z:(List.range s.ay).any (λk=>decide ((List.replicate s.aO (0:Int)).getD k 0 *bu (s.ay.getD k [])+nP s (aZ s []) k<jC k (aZ s [])))=false:=by
  rw[List.any_eq_false];intro k _;rw[n,u,Int.zero_mul];simp[nP,jC,bu]
 let r:¬bu (kX s (aZ s []) (List.replicate s.aO 0))<jC (-1) (aZ s []):=by
  have:=(kH 4000 _ (W1 v (aZ s []) (λk=>by rw[n];decide) (by simp[u]))).1;let d:jC (-1) (aZ s [])=0:=rfl;omega
 rw[q,z,A V,A V,A r]
def Wk(n d:Nat):[]∈lW n d:=by rw[CR];exact fC
def CW(v:eD s):ez s≠[]:=λh=>by
 have:[]∈ez s:=pD.2 ⟨Wk _ _,I9 v⟩;rw[h] at this;cases this
def KJ(s:Sw):(ez s).Pairwise λa b=>zU a b=true:=(Kh _ _).filter _
def ND{l:Da}(h:n<l.length):l.getD n []∈l:=by rw[dL,bX h];exact fY h
def O2(v:eD s):∃i,XG s (ez s) (ez s).length=some i:=by
 refine vW λh=>?_;obtain⟨w,q,z⟩:=CM v _ (CW v);obtain⟨i,u,rfl⟩:=List.getElem_of_mem q;rw[IV] at h;refine h i (fo.2 u) ?_;rw[dL,bX u,decide_eq_true_eq];exact Int.le_of_eq z.symm
def Vm(l:eD s)(h:XG s (ez s) (ez s).length=some n):
  n<(ez s).length/\nZ (qO s λ_=>true)=(ez s).getD n []/\fb s ((ez s).getD n [])=qX s (ez s):=by
 obtain⟨y,post,o,q,z⟩:=Pv (f:=λn=>Vt s ((ez s).getD n [])) _ _ h;have k:(y++n::post).Pairwise (·<·):=by rw[<-o];exact List.Pairwise.filter _ List.pairwise_lt_range
 have r:n∈(List.range (ez s)).filter λn=>decide (qX s (ez s)<=fb s ((ez s).getD n [])):=by rw[o];simp
 obtain⟨i,a⟩:=nH.1 r;have i:=fo.1 i;rw[decide_eq_true_eq] at a;have G:=FI s _ _ (ND i);have x:fb s ((ez s).getD n [])=qX s (ez s):=M
 obtain⟨u,c,b⟩:=pD.1 (ND i);refine⟨i,Zs l (λ_=>true) u O b λv d g _ hd I=>?_,x⟩;have J:=(js b).1;have K:=(js hd).1;have p:v∈ez s:=pD.2 ⟨g,d,hd⟩;have H:=FI s _ _ p;unfold yC;rw[J,K]
 by_cases e:fb s v=qX s (ez s)
 .obtain⟨j,D,w⟩:=List.getElem_of_mem p;have t:(ez s).getD j []=v:=by rw[dL,bX D,<-w];rfl
  have m:j∈y++n::post:=by
   rw[<-o];exact nH.2 ⟨fo.2 D,by rw[t,decide_eq_true_eq];omega⟩
  have R:Vt s ((ez s).getD n [])=c.c:=by unfold Vt;rw[b];rfl
  have S:Vt s v=d.c:=by unfold Vt;rw[hd];rfl
  rcases fg.1 m with m | m
  .have:=q j m;simp only[t] at this;rw[ax M];simp only[vp,decide_eq_true_eq,nF];omega
  .rcases eP.1 m with rfl | m
   .exact ar t.symm I
   .have Q:=z j m;simp only[t] at Q
    by_cases T:c.c=d.c
    .rw[A M];have F:n<j:=(Dw.1 (IT.1 k).2.1).1 j m;have:=List.pairwise_iff_getElem.1 (KJ s) n j i D F;rw[w] at this;rw[dL,bX i];exact this
    .rw[ax M];simp only[vp,decide_eq_true_eq,nF];omega
 .rw[ax M];simp only[vp,decide_eq_true_eq,nF];omega
def adi(v:eD s):okW s q l=true↔
  (∀k,k<s.ay.length->jy (aZ s q) k+l.getD k 0<=s.aO.getD k 0)/\(∀k,k<s.ay.length->jC k (aZ s q)<=l.getD k 0 *bu (s.ay.getD k [])+nP s (aZ s q) k)/\jC (-1) (aZ s q)<=bu (kX s (aZ s q) l):=by
 unfold okW;rw[FU v]
 constructor
 .intro h
  split at h
  .simp at h
  .rename_i u
   split at h
   .simp at h
   .rename_i z
    split at h
    .simp at h
    .rename_i r;simp[E8,fo,decide_eq_true_eq,not_exists,not_and,Int.not_lt] at u z r;exact⟨λk f=>u k f,λk f=>z k f,r⟩
 .rintro⟨u,z,r⟩;rw[A,A,A M];· rfl
  .simp[E8,fo,decide_eq_true_eq,not_exists,not_and,Int.not_lt];exact z
  .simp[E8,fo,decide_eq_true_eq,not_exists,not_and,Int.not_lt];exact u
def vJ{f g:Nat->Int}(h:∀k,k<n->f k<=g k):bu ((List.range n).map f)<=bu ((List.range n).map g):=by
 induction n with
 | zero=>exact Du _
 | succ n l=>
  rw[nI,iq,iq,eV,eV];have:=l λk u=>h k M;have:=h n M;simp only[iH,nG,ni,Oz];omega
def JP:∀{r l:aH},l.length=r.length->(∀k,k<r.length->0<=l.getD k 0/\l.getD k 0<=r.getD k 0)->l∈jT r
 | [],l,hl,_=>by
  have:l=[]:=Dt.1 hl;subst this;simp[jT]
 | m::r,l,hl,h=>by
  obtain⟨x,t,rfl⟩:∃x t,l=x::t:=by
   cases l with
   | nil=>simp at hl
   | cons x t=>exact⟨x,t,rfl⟩
  let f:=h 0 U;simp at f;rw[jT,tp];exists x.toNat,fo.2 M;rw[show((x.toNat:Nat):Int)=x by omega];refine fK.2 ⟨t,JP (by simpa using hl) λk u=>?_,rfl⟩;have:=h (k+1) bU
  simpa using this
def Kk(v:eD s):l∈fB s q↔l∈jT s.aO/\okW s q l=true:=by
 rw[Hg v,nH]
def Tk(a b c:Cr)(q:tt a b=true)(z:tt b c=true):tt a c=true:=by
 unfold tt at *;simp at *;omega
def aac(a:Cr):tt a a=false:=by unfold tt;simp
def I8{c:Cr}(h:dE s q=some c):(∃l∈fB s q,c=zs s q l)/\∀l∈fB s q,tt (zs s q l) c=false:=by
 obtain⟨u,z⟩:=D5 Tk aac _ _ h;obtain⟨l,o,v⟩:=fK.1 u;exact⟨⟨l,o,v.symm⟩,λl o=>z _ (fK.2 ⟨l,o,rfl⟩)⟩
def Nf{w:aU}(o:l∈fB s w):∃c,dE s w=some c/\c.c<=bu (fh s w l).t:=by
 obtain⟨c,b⟩:=vW (l:=(fB s w).map (zs s w)) (λh=>by
  have q:=fK.2 ⟨l,o,(rfl:zs s w l=zs s w l)⟩;rw[h] at q;cases q)
 have n:dE s w=some c:=b;refine⟨c,n,?_⟩;have z:=(I8 n).2 l o;unfold tt at z;rw[Bool.or_eq_false_iff,decide_eq_false_iff_not] at z;have r:=z.1;have x:(zs s w l).c=bu (fh s w l).t:=rfl;omega
def Ng{w:aU}:dE s w=none↔fB s w=[]:=by
 constructor
 .intro h;cases a:fB s w with
  | nil=>rfl
  | cons l t=>
   obtain⟨c,b,_⟩:=Nf (by rw[a];exact fC);rw[b] at h;cases h
 .intro h;unfold dE;rw[h];rfl
def UB(a b:dt)(k:Nat):jy (a++b) k=jy a k+jy b k:=by unfold jy;rw[List.countP_append];omega
def Us(s:Sw)(a b:dt)(k:Nat):nP s (a++b) k=nP s a k+nP s b k:=by unfold nP;rw[yY,iq,eV]
def Gj(k:Int)(a b:dt):jC k (a++b)=jC k a+jC k b:=by unfold jC;rw[yY,iq,eV]
def Xa(k:Int)(x:Want)(w:dt):jC k (x::w)=jC k w+if CF k x then x.cO else 0:=by
 rw[show x::w=[x]++w from rfl,Gj];unfold jC
 by_cases h:CF k x <;> simp[yV,h,bu] <;> omega
def adB(v:eD s)(x:Want):0<=kN s x/\kN s x<=bu (fT s x.kind):=by
 have o:∀y∈fT s x.kind,0<=y:=λy g=>by
  unfold fT at g;rw[dL] at g;cases e:s.ay[x.kind.toNat]? with
  | none=>rw[e] at g;cases g
  | some l=>rw[e] at g;have:=(v.lf l (fZ e)).r y g;omega
 let f:∀m:List Int,(∀y∈m,0<=y)->0<=bu m:=λm d=>by
  induction m with
  | nil=>exact Du 0
  | cons a m i=>rw[ni];have:=d a fC;have:=i λy g=>d y (fG _ g);omega
 let t:=v.k0;unfold kN;generalize fT s x.kind=u at *;generalize u.length - x.cO.toNat=j;let q:=eV (u.take j) (u.drop j);rw[List.take_append_drop] at q;let z:=f (u.drop j) λy g=>o y (List.mem_of_mem_drop g);let c:=f _ o;omega
structure OO(s:Sw)(xs:List Want)(l:List Int):Prop where
 a:∀k,k<s.ay.length->jy xs k+l.getD k 0<=s.aO.getD k 0
 b:∀k,k<s.ay.length->jC k xs<=l.getD k 0 *bu (s.ay.getD k [])+nP s xs k
 c:jC (-1) xs<=bu (kX s xs l)
def Tz(v:eD s):okW s q l=true↔OO s (aZ s q) l:=by
 rw[adi v];exact⟨λ⟨u,z,r⟩=>⟨u,z,r⟩,λh=>⟨h.a,h.b,h.c⟩⟩
def Nd(v:eD s)(w:aU)(l:aH):bu (fh s w l).t=bu ((List.range s.ay.length).map λk=>jy (aZ s w) k+l.getD k 0):=by
 rw[wV v,ad0];have q:=v.l1;have r:=v.l3;have Pp:∀k,s.ay.length<=k->jy (aZ s w) k=0:=λk f=>by
  unfold jy;rw[show List.countP (yr k) (aZ s w)=0 from List.countP_eq_zero.2 λx u=>by
   have:=(Dd v u).k1;unfold yr;simp;omega]
  rfl
 have:s.ay.length=1\/s.ay.length=2\/s.ay.length=3:=M
 rcases this with e | e | e
 .rw[e];simp[nI,PQ,e,Pp 1 M,Pp 2 M,bu]
 .rw[e];simp[nI,PQ,e,Pp 2 M,bu]
 .rw[e];simp[nI,PQ,e,bu]
def adr(v:eD s)(o:l.length=s.aO.length)(f:∀k,k<s.aO.length->0<=l.getD k 0)(h:OO s (aZ s q) l):l∈fB s q:=by
 refine(Kk v).2 ⟨JP o λk u=>⟨f k u,?_⟩,(Tz v).2 h⟩;have:=h.a k (by have:=v.st;omega);have:=(af8 (aZ s q) k).1;omega
def aas(v:eD s)(h:l∈fB s q):l.length=s.aO.length/\(∀k,0<=l.getD k 0)/\OO s (aZ s q) l:=by
 obtain⟨u,z⟩:=(Kk v).1 h;obtain⟨r,x⟩:=rX u;exact⟨r,λk=>(x k).1,(Tz v).1 z⟩
def CV{b:Sw}(v:eD s)(j:eD b){w':aU}{c:Cr}(d:dE s q=some c)
  (H:∀l:List Int,l=s.aO.length->(∀k,0<=l.getD k 0)->OO s (aZ s q) l->∃h:List Int,h=b.aO.length/\(∀k,k<b.aO.length->0<=h.getD k 0)/\OO b (aZ b w') h/\bu ((List.range b.ay).map λk=>jy (aZ b w') k+h.getD k 0)<=bu ((List.range s.ay).map λk=>jy (aZ s q) k+l.getD k 0)):
  ∃o,dE b w'=some o/\o.c<=c.c:=by
 obtain⟨⟨l,i,rfl⟩,_⟩:=I8 d;obtain⟨f,z,r⟩:=aas v i;obtain⟨h,u,a,g,w⟩:=H l f z r;obtain⟨o,n,m⟩:=Nf (adr j u a g);refine⟨o,n,?_⟩;rw[Nd j] at m;show o.c<=bu (fh s q l).t;rw[Nd v];omega
def SJ(v:eD s){ao B:dt}{x:Want}(u:Dq s.ay x)(o:l.length=s.aO.length)(w:∀k,0<=l.getD k 0)(h:OO s (ao++x::B) l):
  ∃t:List Int,t=s.aO.length/\(∀k,k<s.aO.length->0<=t.getD k 0)/\OO s (ao++B) t/\bu ((List.range s.ay).map λk=>jy (ao++B) k+t.getD k 0)<=bu ((List.range s.ay.length).map λk=>jy (ao++x::B) k+l.getD k 0):=by
 have I:∀k,jy (ao++x::B) k=jy (ao++B) k+if yr k x then 1 else 0:=λk=>by
  rw[UB,UB,rq];omega
 have J:∀k,nP s (ao++x::B) k=nP s (ao++B) k+if zK k x then kN s x else 0:=λk=>by
  rw[Us,Us,Be];omega
 have K:∀k,jC k (ao++x::B)=jC k (ao++B)+if CF k x then x.cO else 0:=λk=>by
  rw[Gj,Gj,Xa];omega
 have S:0<=x.cO:=by have:=u.a0;unfold Bp at this;split at this <;> omega
 have i:∀k,jC k (ao++B)<=jC k (ao++x::B):=λk=>by rw[K];split <;> omega
 obtain⟨r0,r1⟩:=adB v x;have D:=v.st
 by_cases z:x.sort=2
 .have F:0<=x.kind:=by have:=u.k0;unfold Dc at this;rw[A M] at this;exact this
  have G:=u.k1;obtain⟨n,y⟩:∃n:Nat,x.kind=(n:Int):=⟨x.kind.toNat,M⟩;have H:n<s.ay.length:=M
  have g:∀k:Nat,yr k x=decide (k=n):=λk=>by
   unfold yr;rw[z,y,Fe];simp;omega
  have d:∀k:Nat,zK k x=decide (k=n):=λk=>by
   unfold zK;rw[z,y,Fe];simp;omega
  have r2:kN s x<=bu (s.ay.getD n []):=by
   have e:fT s x.kind=s.ay.getD n []:=by unfold fT;rw[y];rfl
   rw[<-e];exact r1
  have m:∀k,(l.modify n (·+1)).getD k 0=l.getD k 0+if k=n then(if n<l.length then 1 else 0) else 0:=λk=>by
   rw[dL,List.getElem?_modify,dL]
   by_cases e:n=k
   .subst e;rw[ax rfl]
    by_cases j:n<l.length
    .rw[bX j,ax j];simp
    .rw[mh M,A j];rfl
   .rw[A (λh=>e h.symm)];simp[e]
  rw[ax (show n<l.length by omega)] at m;have p:∀k,jy (ao++B) k+(l.modify n (·+1)).getD k 0=jy (ao++x::B) k+l.getD k 0:=λk=>by
   rw[m,I,g]
   by_cases e:k=n
   .simp[e];omega
   .simp[e]
  have q:∀k,l.getD k 0 *bu (s.ay.getD k [])+nP s (ao++x::B) k<=(l.modify n (·+1)).getD k 0 *bu (s.ay.getD k [])+nP s (ao++B) k:=λk=>by
   rw[m,J,d]
   by_cases e:k=n
   .subst e;simp only[decide_true,if_true];rw[Int.add_mul];omega
   .simp[e]
  refine⟨l.modify n (·+1),by rw[List.length_modify];exact o,λk _=>?_,⟨λk f=>?_,λk f=>?_,?_⟩,?_⟩
  .rw[m];have:=w k;split <;> omega
  .rw[p];exact h.a k f
  .have:=h.b k f;have:=q k;have:=i k;omega
  .have Q:=h.c;have r:=i (-1);have:bu (kX s (ao++x::B) l)<=bu (kX s (ao++B) (l.modify n (·+1))):=vJ λk f=>q k;omega
  .exact vJ λk f=>by rw[p];exact Du _
 .have p:∀k,jy (ao++B) k<=jy (ao++x::B) k:=λk=>by rw[I];split <;> omega
  have q:∀k,nP s (ao++x::B) k=nP s (ao++B) k:=λk=>by
   rw[J,A (by unfold zK;simp[z])];omega
  refine⟨l,o,λk _=>w k,⟨λk f=>?_,λk f=>?_,?_⟩,?_⟩
  .have:=h.a k f;have:=p k;omega
  .have R:=h.b k f;have T:=i k;rw[q] at R;omega
  .have Q:=h.c;have r:=i (-1);have:bu (kX s (ao++x::B) l)<=bu (kX s (ao++B) l):=vJ λk f=>by rw[q];exact Du _
   omega
  .exact vJ λk f=>by have:=p k;omega
def EO(s:Sw)(a b:aU):aZ s (a++b)=aZ s a++aZ s b:=by unfold aZ;rw[Fh]
def Pq(v:eD s){a b:aU}{i:Nat}(u:i<s.aC.length){c:Cr}(q:dE s (a++i::b)=some c):∃o,dE s (a++b)=some o/\o.c<=c.c:=by
 let p:aZ s (a++i::b)=aZ s a++s.aC[i]::aZ s b:=by
  rw[EO]
  congr 1
  unfold aZ;rw[List.filterMap_cons,bX u]
 refine CV v v q λl z f h=>?_;rw[p] at h ⊢;rw[EO];exact SJ v (v.wt _ (fY u)) z f h
def M0(v:eD s):fb s (nZ (qO s λ_=>true))=qX s (ez s):=by
 obtain⟨i,u⟩:=O2 v;obtain⟨_,z,r⟩:=Vm v u;rw[z,r]
def kG:cT s=true↔∃c,dE s (gm s)=some c:=by
 unfold cT;cases e:dE s (gm s) with
 | none=>rw[Ng.1 e];simp
 | some c=>
  refine⟨λ_=>⟨c,rfl⟩,λ_=>?_⟩;cases h:fB s (gm s) with
  | nil=>rw[Ng.2 h] at e;cases e
  | cons=>rfl
theorem vV{α β:Type}{f g:α->Option β}:∀{l:List α},(∀i∈l,f i=g i)->l.filterMap f=l.filterMap g
 | [],_=>rfl
 | x::l,h=>by rw[List.filterMap_cons,List.filterMap_cons,h x fC,vV λi u=>h i (fG _ u)]
def RR{x:Want}(v:eD s)(j:eD (mF s x))(h:cT (mF s x)=true):cT s=true:=by
 obtain⟨c,q⟩:=kG.1 h;have z:gm (mF s x)=gm s++s.aC.length::[]:=by
  unfold gm mF;rw[eX,mW,nI]
 rw[z] at q;let⟨m,n,_⟩:=Pq j (b:=[]) (by show _<(s.aC++[x]).length;rw[eX,mW];omega) q;rw[pf] at n;have p:aZ (mF s x) (gm s)=aZ s (gm s):=by
  unfold aZ;refine vV λi d=>?_;show(s.aC++[x])[i]?=_;rw[kS (fo.1 d)]
 obtain⟨c2,f,_⟩:=CV j v n (w':=gm s) λl o t u=>⟨l,o,λk _=>t k,by rw[p] at u;exact⟨u.a,u.b,u.c⟩,by rw[p];exact Du _⟩;exact kG.2 ⟨c2,f⟩
structure Perm(n:Nat)(o:List Nat):Prop where
 p:o.Perm (List.range n)
def Perm.len(h:Perm n q):q.length=n:=by rw[h.p.length_eq,vt]
def Perm.lt(h:Perm n q):∀j∈q,j<n:=λj t=>fo.1 (h.p.mem_iff.1 t)
def TE(n:Nat):Perm n (List.range n):=⟨.rfl⟩
def Perm.swap(h:Perm n q){i y:Nat}(u:q[i]?=some m)(f:q[k]?=some y):Perm n ((q.set i y).set k m):=by
 obtain⟨v,rfl⟩:=eO.1 u;obtain⟨z,rfl⟩:=eO.1 f;exact⟨(List.set_set_perm v z).trans h.p⟩
def zt{q:Fi}{w:dg}{x:Ln}(u:w[k]?=some x):dH q w n (k+1)=pY n k x (dH q w n k):=by
 obtain⟨i,rfl⟩:=eO.1 u;unfold dH;rw[ja i,vv,mi,yR M,jJ]
def GQ{x:Fi}{w:dg}(u:w[k]?=none):dH x w n (k+1)=dH x w n k:=by
 have:=List.getElem?_eq_none_iff.1 u;unfold dH;rw[qG M,qG M]
def dh(s:Sw)(ws:dt):Sw:={s with aC:=ws}
def OB{a b:dt}(h:a.Perm b)(k:Nat):jy a k=jy b k:=by unfold jy;rw[h.countP_eq]
def Aq{b:aH}(h:l.Perm b):bu l=bu b:=by
 induction h with
 | nil=>rfl
 | cons x _ u=>rw[<-List.singleton_append,eV,u,<-eV,List.singleton_append]
 | swap x y c=>
  rw[show y::x::c=[y]++([x]++c) from rfl,show x::y::c=[x]++([y]++c) from rfl,eV,eV,eV,eV];omega
 | trans _ _ q z=>exact q.trans z
def C5{a b:dt}(h:a.Perm b)(k:Int):jC k a=jC k b:=Aq ((h.filter _).map _)
def Oy(s:Sw){a b:dt}(h:a.Perm b)(k:Nat):nP s a k=nP s b k:=Aq ((h.filter _).map _)
def ou(s:Sw):aZ s (gm s)=s.aC:=by
 unfold aZ gm;have j:∀l:List Want,(List.range l).filterMap (l[·]?)=l:=λl=>by
  induction l using ug with
  | h0=>rfl
  | h1 l z u=>
   rw[eX,mW,nI,Fh];have e:(List.range l).filterMap ((l++[z])[·]?)=l:=by
    refine Eq.trans (vV λi q=>?_) u;rw[kS (fo.1 q)]
   rw[e];simp
 exact j s.aC
def Qo(s:Sw){a b:dt}(h:a.Perm b)(l:aH):kX s a l=kX s b l:=by
 unfold kX;refine yX λk _=>?_;simp only[Oy s h,C5 h]
def aan{n j:dt}(h:n.Perm j)(u:OO (dh s n) n l):OO (dh s j) j l:=by
 refine⟨λk f=>?_,λk f=>?_,?_⟩
 .have:=u.a k f;rw[OB h] at this;exact this
 .have:=u.b k f;rw[C5 h,Oy _ h] at this;exact this
 .have:=u.c;rw[C5 h,Qo _ h] at this;exact this
def xN{n j:dt}(h:n.Perm j)(v:eD (dh s n))(u:eD (dh s j))(a:cT (dh s n)=true):cT (dh s j)=true:=by
 obtain⟨c,b⟩:=kG.1 a;let⟨o,q,_⟩:=CV v u b (w':=gm (dh s j)) λl d f z=>by
  rw[ou] at z ⊢;exists l,d,λk _=>f k,aan h z;rw[ou];refine Int.le_of_eq ?_;show bu ((List.range s.ay.length).map λk=>jy j k+l.getD k 0)=bu ((List.range s.ay.length).map λk=>jy n k+l.getD k 0);simp only[OB h]
 exact kG.2 ⟨o,q⟩
def Yf(v:eD s):∀{w:aU},w.Pairwise (·<·)->(∀i∈w,i<s.aC.length)->fb s w<=fb s (gm s):=by
 let h0:∀x∈s.aC,0<=x.pay:=λx u=>(v.wt x u).p0;intro w q m;let f:w.Sublist (List.range s.aC.length):=by
  let j:∀(n:Nat) (w:aU),w.Pairwise (·<·)->(∀i∈w,i<n)->w.Sublist (List.range n):=by
   intro n
   induction n with
   | zero=>intro w _ h;cases w with
    | nil=>exact List.Sublist.slnil
    | cons x w=>exact ar (h x fC) M
   | succ n d=>
    intro w q m;rw[nI]
    induction w using ug with
    | h0=>exact List.nil_sublist _
    | h1 l z _=>
     rw[IT] at q
     by_cases e:z=n
     .subst e;refine List.Sublist.append (d l q.1 λi hi=>q.2.2 i hi z fC) (List.Sublist.refl _)
     .let p:=m z U;refine(d (l++[z]) (IT.2 q) λi hi=>?_).trans (List.sublist_append_left _ _);rcases fg.1 hi with hi | hi
      .have:=q.2.2 i hi z fC;omega
      .rw[dJ.1 hi];omega
  exact j _ w q m
 let o:∀{a b:aH},a.Sublist b->(∀x∈b,0<=x)->bu a<=bu b:=by
  intro a b h
  induction h with
  | slnil=>intro _;exact Du _
  | cons x _ d=>
   intro h;let h1:=d λy g=>h y (fG _ g);let r:=h x fC;rename_i c t _;rw[show x::t=[x]++t from rfl,eV];have:bu [x]=x:=by simp[bu]
   omega
  | cons_cons x _ d=>
   intro h;rename_i c t _;let h1:=d λy g=>h y (fG _ g);rw[show x::t=[x]++t from rfl,show x::c=[x]++c from rfl,eV,eV];omega
 refine o ((List.Sublist.filterMap _ f).map _) λx u=>?_;obtain⟨y,g,rfl⟩:=fK.1 u;have:y∈s.aC:=by
  let e:=ou s;let g:y∈aZ s (gm s):=g;rw[e] at g;exact g
 exact h0 y this
def IZ(v:eD s)(a:cT s=true):fb s (nZ (qO s λ_=>true))=bu (s.aC.map (·.pay)):=by
 have p:fb s (gm s)=bu (s.aC.map (·.pay)):=by unfold fb;rw[ou]
 rw[M0 v,<-p];obtain⟨w,u,f⟩:=CM v (ez s) (CW v);obtain⟨q,_⟩:=pD.1 u;obtain⟨z,r⟩:=(rY (dA _)).1 q;have x:=Yf v z λi d=>(r i d).2;let k:gm s∈ez s:=pD.2 ⟨(rY (dA _)).2 ⟨IY _,λi d=>⟨M,fo.1 d⟩⟩,kG.1 a⟩;let t:=FI s (ez s) _ k;omega
def tH(x:Want):Ln:=(2,[x.sort,x.kind,x.cO,x.pay])
def LV(s:Sw)(a:dt)(x:Want):mF (dh s a) x=dh s (a++[x]):=rfl
def vF(h:e8 s=0):cI (s.ay.length:Int) 1 3=0/\jo s.ay=0/\s.aO.length=s.ay.length/\kW s.aO=true/\cV s.jO 0 3=true:=by
 unfold e8 at h
 split at h
 .rename_i c;exact ar h c
 .rename_i c1
  split at h
  .rename_i c;exact ar h c
  .rename_i c2
   split at h
   .cases h
   .rename_i u
    split at h
    .cases h
    .rename_i e
     split at h
     .cases h
     .rename_i z;exact⟨mw,uT,Ll,xQ,Ly⟩
structure jq(s:Sw)(ws:List Want):Prop where
 e:e8 (dh s [])=0
 l:ws.length<=5
 w:∀x∈ws,gy s.ay x=0
def jq.saw{n:dt}(h:jq s n):e8 (dh s n)=0:=by
 obtain⟨q,z,r,x,k⟩:=vF h.e;unfold e8;let o:=h.l;rw[A (λe=>e q:¬cI ((dh s n).ay.length:Int) 1 3≠0),A (λe=>e z:¬jo (dh s n).ay≠0),A (λe=>e r:¬(dh s n).aO.length≠(dh s n).ay.length),A (show¬(!kW (dh s n).aO)=true by rw[show kW (dh s n).aO=true from x];decide),A (show¬(!cV (dh s n).jO 0 3)=true by rw[show cV (dh s n).jO 0 3=true from k];decide),A (show¬5<(dh s n).aC.length by show¬5<n.length;omega)];exact Gn.2 h.w
def jq.yD{n:dt}(h:jq s n):eD (dh s n):=nA h.saw
def jq.sub{n j:dt}(h:jq s n)(q:j.length<=n.length)(o:∀x∈j,x∈n):jq s j:=⟨h.e,by have:=h.l;omega,λx u=>h.w x (o x u)⟩
def jq.take{n:dt}(h:jq s n)(i:Nat):jq s (n.take i):=h.sub Lo λx u=>yo u
def jq.nil(h:jq s []):cT (dh s [])=true:=by
 obtain⟨c,b⟩:=I9 h.yD;exact kG.2 ⟨c,b⟩
def MS{q:dt}(h:jq s q){x:Want}(u:q[n]?=some x)(a:cT (dh s (q.take n))=true):
  nR (dh s (q.take n)) x=if cT (dh s (q.take (n+1)))=true then(dh s (q.take (n+1)),0) else(MD,9):=by
 obtain⟨i,e⟩:=eO.1 u;let v:=h.w x (fZ u);let o:=h.l;unfold nR;rw[(h.take n).saw,A V,A (show¬(dh s (q.take n)).aC.length=5 by show¬(q.take n).length=5;rw[mi];omega),show gy (dh s (q.take n)).ay x=0 from v,A V,a,LV,show q.take n++[x]=q.take (n+1) by rw[ja i,e]];cases cT (dh s (q.take (n+1))) <;> rfl
def Ey{n:dt}(h:jq s n)(i:Nat)(a:cT (dh s (n.take (i+1)))=true):cT (dh s (n.take i))=true:=by
 by_cases u:i<n.length
 .rw[ja u] at a;exact RR (s:=dh s (n.take i)) (x:=n[i]) (h.take i).yD (by rw[LV,<-ja u];exact(h.take (i+1)).yD) a
 .rw[qG M] at a ⊢;exact a
def Hq{n:dt}(h:jq s n)(a:cT (dh s n)=true)(i:Nat):cT (dh s (n.take i))=true:=by
 by_cases u:n.length<=i
 .rwa[qG u]
 .have j:∀d,cT (dh s (n.take (n - d)))=true:=λd=>by
   induction d with
   | zero=>rwa[wH,lK]
   | succ d l=>
    by_cases hd:d<n
    .refine Ey h _ ?_;rwa[show n.length - (d+1)+1=n.length - d by omega]
    .rwa[show n.length - (d+1)=n.length - d by omega]
  have:=j (n - i)
  rwa [show n - (n - i)=i by omega] at this
def Tf{q:dt}{x:Want}(u:q[n]?=some x):(q.map tH)[n]?=some (tH x):=by rw[im,u];rfl
def NQ{u:dt}{b:Bl}{t:Ro}(i:Nat):eG ⟨b,t,dh s []⟩ (u.map tH) i=0:=by
 induction i with
 | zero=>rfl
 | succ n l=>
  show(nO _ _ n (eG _ _ n)).2=0;unfold nO;dsimp only;rw[A]
  .exact l
  .rw[dL];cases e:(u.map tH)[n]? with
   | none=>decide
   | some x=>
    obtain⟨w,_,rfl⟩:=fK.1 (fZ e);exact(by decide:(2:Nat)≠3)
def Vz{s:Sw}{ws:List Want}{b:Bl}{ro:Ro}(h:jq s ws):∀i,i<=ws.length->cT (dh s (ws.take i))=true->(dH ⟨b,ro,dh s []⟩ (ws.map tH) 0 i).1=⟨b,ro,dh s (ws.take i)⟩
 | 0,_,_=>rfl
 | i+1,hi,hs=>by
  have hs':=Ey h i hs;have ih:=Vz (b:=b) (ro:=ro) h i (by omega) hs';let hx:=List.getElem?_eq_getElem (show i<ws.length by omega);rw[zt (Tf hx)];generalize dH ⟨b,ro,dh s []⟩ (ws.map tH) 0 i=D at ih;obtain⟨fi,bi⟩:=D;simp only at ih;subst ih;let ha:=MS h hx hs';rw[if_pos hs] at ha;unfold pY;rw[if_pos ⟨show 2<3 by decide,Nat.zero_testBit i⟩];show(sZ _ ws[i]).1=_;unfold sZ;dsimp only;rw[ha,if_pos rfl]
def agr{n:dt}{b:Bl}{ro:Ro}(h:jq s n){i:Nat}(q:i<n.length)(a:cT (dh s (n.take i))=true):
  (nO ⟨b,ro,dh s []⟩ (n.map tH) i (eG ⟨b,ro,dh s []⟩ (n.map tH) i)).1=if cT (dh s (n.take (i+1)))=true then okB else tE 9:=by
 have u:=bX q;rw[NQ];unfold nO;rw[dL,Tf u];show uY (mX (dH ⟨b,ro,dh s []⟩ (n.map tH) 0 i).1 (tH n[i])).1 (mX (dH ⟨b,ro,dh s []⟩ (n.map tH) 0 i).1 (tH n[i])).2=_;rw[Vz h i M a];have e:mX ⟨b,ro,dh s (n.take i)⟩ (tH n[i])=(okB,(sZ ⟨b,ro,dh s (n.take i)⟩ n[i]).2):=rfl;rw[e];unfold sZ;dsimp only;rw[MS h u a];cases cT (dh s (n.take (i+1))) <;> rfl
def ah6{n:dt}{b:Bl}{ro:Ro}(h:jq s n):(∀a∈mG ⟨b,ro,dh s []⟩ (n.map tH) (n.map tH).length,a=okB)↔cT (dh s n)=true:=by
 let o:(n.map tH).length=n.length:=eT ..;rw[o]
 constructor
 .intro d;let j:∀i,i<=n.length->cT (dh s (n.take i))=true:=λi=>by
   induction i with
   | zero=>intro _;exact(h.take 0).nil
   | succ i l=>
    intro v;let z:=l M;let e:=agr (b:=b) (ro:=ro) h (i:=i) M z;let q:=d _ (fK.2 ⟨i,fo.2 (show i<n.length by omega),rfl⟩);rw[e] at q;cases u:cT (dh s (n.take (i+1))) with
    | true=>rfl
    | false=>rw[u,A V] at q;exact ar q V
  have:=j n (dA _)
  rwa [lK] at this
 .intro z a d;obtain⟨i,v,rfl⟩:=fK.1 d;let v:=fo.1 v;rw[agr h v (Hq h z i),ax (Hq h z _)]
def abP{n:dt}{b:Bl}{t:Ro}(h:jq s n)(a:cT (dh s n)=true):(eQ ⟨b,t,dh s []⟩ (n.map tH)).1=⟨b,t,dh s n⟩:=by
 unfold eQ;rw[NQ,eT,Vz h _ (dA _) (by rw[lK];exact a),lK]
def aeN{u:dt}{b:Bl}{ro:Ro}(h:jq s u)(a:cT (dh s u)=true):∃l,iI ⟨b,ro,dh s []⟩ (u.map tH)=l++[ly ((dP (dh s u)).1.map λ(n:Nat)=>(n:Int))++[58,32]++qk (bu (u.map (·.pay)))]:=by
 unfold iI;rw[abP h a];unfold nM;rw[iq];refine⟨_,aJ (List.append _) ?_⟩;have t:(dP (dh s u)).2.2=0:=by unfold dP;rw[h.saw,A V]
 have p:(dP (dh s u)).2.1=bu (u.map (·.pay)):=by
  unfold dP;rw[h.saw,A V];exact IZ h.yD a
 show[uY (ly ((dP (dh s u)).1.map λ(n:Nat)=>(n:Int))++[58,32]++qk (dP (dh s u)).2.1) (dP (dh s u)).2.2]=_;rw[t,p]
 rfl
def Mo{n:dt}(h:jq s n)(a:cT (dh s n)=true):(dP (dh s n)).2=(bu (n.map (·.pay)),0):=by
 unfold dP;rw[h.saw,A V];show(fb _ _,(0:Int))=_;rw[IZ h.yD a]
 rfl
def SK{n:dt}(h:jq s n):((mU (dh s n)).2.2=0↔cT (dh s n)=true)/\((mU (dh s n)).2.2=0\/(mU (dh s n)).2.2=11):=by
 unfold mU;rw[h.saw,A V];unfold tz;cases e:dE (dh s n) (gm (dh s n)) with
 | none=>
  refine⟨⟨λh=>ar h V,λh=>?_⟩,.inr O⟩;let⟨c,b⟩:=kG.1 h;rw[e] at b;cases b
 | some c=>exact⟨⟨λ_=>kG.2 ⟨c,e⟩,λ_=>rfl⟩,.inl rfl⟩
section
open Go.Proofs
structure gM(J L:LH)(b:Nat)(ad:Option Addr)(cap:Nat)(l:List Int)(n:Nat):Prop where
 le:Le J L
 jb:J b=none
 blk:∃TS:Int,L b=some (.cells [Value.slice ad l.length cap,.int .i64 n,.int .u64 TS].toArray 96 (0,0),true)
 ints:bK J ad l
def gM.bT(h:gM J L k d m l n):Le J (L.bT k):=λx o u=>by
 rw[bW (λe=>by subst e;rw[h.jb] at u;cases u)];exact h.le _ _ u
def gM.dq(h:gM J L k d m l n):gQ L k d m l n:=⟨h.blk,h.ints.le h.bT⟩
def gM.next(h:gM J L k d m l n)(f:∀x,x≠k->R x=L x)(a:∃q:Int,R k=some (.cells [Value.slice d l.length m,.int .i64 ((n+1:Nat):Int),.int .u64 q].toArray 96 (0,0),true)):gM J R k d m l (n+1):=
 ⟨λx o u=>by rw[f x (λe=>by subst e;rw[h.jb] at u;cases u)];exact h.le _ _ u,h.jb,a,h.ints⟩
def gM.put(h:gM J L k d m l n){x:Nat}(u:L x=none)(o:Obj):gM J (L.put x o) k d m l n:=by
 obtain⟨j,g⟩:=h.blk;have e:k≠x:=λe=>by rw[<-e,g] at u;cases u
 exact⟨h.le.trans (Le.put u _),h.jb,⟨j,by rw[aB _ _ e];exact g⟩,h.ints⟩
def gM.wide(h:gM J L k d m l n)(q:Le J R)(z:Le R L)(r:R k=none):gM R L k d m l n:=⟨z,r,h.blk,h.ints.le q⟩
def gM.all(h:gM J L k d m l n):gM (L.bT k) L k d m l n:=h.wide h.bT (gC _ _) QM
structure Gw(J L:LH)(k:Nat)(e:TypeId)(v:Value)(len:Nat)(cs:List Value)(ob:Option Nat):Prop where
 o:dB L k e v len cs ob
 j:∀o,ob=some o->J o=none
def AJ{t:Nat}{v:Value}{w:Nat}{H:aR}{b:Value}{f:bD}{a:Nat}{y:aR}(h:Gw J L k e v w H o)(u:gM J L m d t l n)(z:e≠96)(s:dB R k e b a y f)(Q:(R=L/\f=none/\o=none)\/∃m c,f=some m/\R=L.put m (.cells c e)/\((o=some m/\∃I,L m=some (.cells I e (0,0),true)/\c.size=I.size)\/L m=none)):
  Gw J R k e b a y f/\gM J R m d t l n/\∀x c i,L x=some (.cells c i (0,0),true)->i≠e->R x=L x:=by
 rcases Q with⟨rfl,rfl,_⟩ | ⟨q,c,rfl,rfl,⟨rfl,I,g,_⟩ | g⟩
 .exact⟨⟨s,λ_ h=>by cases h⟩,u,λ_ _ _ _ _=>rfl⟩
 .let G:=h.j q rfl;let⟨S,K⟩:=u.blk;let D:m≠q:=λi=>by subst i;rw[g] at K;cases K;exact z O
  refine⟨⟨s,λ_ h=>by cases h;exact G⟩,⟨aG u.le G _,u.jb,⟨S,by rwa[aB _ _ D]⟩,u.ints⟩,λx c i r p=>aB _ _ (λF=>?_)⟩;subst F;rw[g] at r;cases r;exact p O
 .refine⟨⟨s,λ_ h=>by cases h;exact bN u.le g⟩,u.put g _,λx c i r p=>aB _ _ (λF=>?_)⟩;subst F;rw[g] at r;cases r
def B9(w y:bA)(z f:Nat)(l:iW)(L:LH)(o:bz L w 1 dv l)(d:bz L y 1 dv l)(c:l.length<=1000000):Sp X 40 [.slice w l z,.slice y l f] L (λv q=>v=.bool true/\L=q):=by
 refine Sp.e (n:=32) Tryz.func40 O λC j g r=>?_;refine .g O ?_;refine .l (λm E B q=>∃i:Nat,m=l - i/\i<=l/\L=q/\E=[(0,.v (.slice w l z)),(1,.v (.slice y l f)),(5,.v (.int .i64 i))]/\B=[]) ⟨0,rfl,M,rfl,rfl,rfl⟩ ?_
 rintro _ _ _ _ ⟨i,rfl,k,rfl,rfl,rfl⟩ again;refine .I O (λp=>W.go 99 O ?_) (λp=>W.go 99 O ?_)
 .have e:i<l:=by have:=gN p;omega
  have u:=bX e;obtain⟨a,rfl⟩:=o.addr e;obtain⟨b,rfl⟩:=d.addr e;refine .T O ?_ bU;refine .g O ?_;generalize l[i]=s at u;refine .z (.run' [0,1,4,5] O (.u 2 O (Vf.b O O (e)) (.u 6 O (Vf.b O O (e)) (.u 3 O (Vf.l O (ox o u)) (.u 7 O (Vf.l O (ox d u)) (.run' [8] O ?_))))));refine .fin O ?_;refine .I O (λt=>W.go 99 O ?_) (λt=>W.go 99 O ?_)
  .exact ar t (by
    show¬(!uD s s)=true;have:uD s s=true:=by rw[tC];simp
    rw[this];decide)
  .exact .a (again _ _ _ _ M ⟨i+1,rfl,M,rfl,rfl,rfl⟩) ⟨rfl,rfl,aJ some (cr M),aE⟩
 .refine .r r O ?_;exact⟨aJ Value.bool U,rfl⟩
def d10:Bs:=[48,49,50,51,52,53,54,55,56,57]
def GU(d:Nat):Bs:=(d10.drop d).take (d+1 - d)
def Z4:∀n:Fin 100,cu n.val=if n.val<10 then GU (n.val % 10) else GU (n.val / 10 % 10)++GU (n.val % 10):=iu
def Ni:∀d:Fin 10,(GU d.val).length=1:=iu
def P8(n:Nat)(h:n<1000000):vy .rem .i64 (n:Int) 10=some (.int .i64 ((n % 10:Nat):Int)):=by
 have:(n:Int).tmod 10=((n % 10:Nat):Int):=by rw[Int.tmod_eq_emod_of_nonneg M];omega
 simp[vy,this]
def ady(n:Nat)(h:n<1000000):IntKind.i64.wrap ((n:Int).tdiv 10)=((n / 10:Nat):Int):=by
 have:(n:Int).tdiv 10=((n / 10:Nat):Int):=by rw[OY M];omega
 rw[this];exact wrap64_in _ M M
def yH(n:Nat)(L:LH)(t:n<100):Sp X 15 [.int .i64 n] L (λv z=>v=str (cu n)/\L=z):=by
 let u:=Z4 ⟨n,t⟩;simp only at u;let y:=Ni ⟨n % 10,M⟩;let o:=Ni ⟨n / 10 % 10,M⟩;simp only at y o;let w1:IntKind.i64.wrap (((n % 10:Nat):Int)+1)=((n % 10+1:Nat):Int):=by rw[wrap64_in _ M M];rfl
 refine Sp.e (n:=25) Tryz.func15 O λC b d r=>?_;refine .de [5] 99 O (.u O (Vf.bin O O (P8 n M)) (.de [7] 99 O (.u O (Vf.bin O O (P8 n M)) (.de [9] 99 O ?_))));rw[w1];refine .u O (Vf.CZ (l:=d10) (i:=n % 10) (j:=n % 10+1) O O O O O O O M (by show n % 10+1<=10;omega)) (.de [11] 99 O (.u O (Vf.quo O O V) ?_));rw[ady n M];refine .g O ?_;refine .l (λw E B z=>∃(k:Nat) (s:Bs),w=k/\((k=n / 10/\s=GU (n % 10))\/(k=0/\s=cu n))/\L=z/\E=[(0,.v (.int .i64 k)),(3,.v (str s))]/\B=[]) ⟨n / 10,GU (n % 10),rfl,.inl ⟨rfl,rfl⟩,rfl,rfl,rfl⟩ ?_
 rintro k _ _ _ ⟨_,s,rfl,q,rfl,rfl,rfl⟩ again;refine .I O (λp=>W.go 99 O ?_) (λp=>W.go 99 O ?_)
 .let f:0<k:=by have:=gN p;omega
  rcases q with⟨rfl,rfl⟩ | ⟨h0,_⟩
  .have m:IntKind.i64.wrap (((n / 10 % 10:Nat):Int)+1)=((n / 10 % 10+1:Nat):Int):=by rw[wrap64_in _ M M];rfl
   have c:¬n<10:=M
   rw[A c] at u;refine .de [17] 99 O (.u O (Vf.bin O O (P8 (n / 10) M)) (.de [19] 99 O (.u O (Vf.bin O O (P8 (n / 10) M)) (.de [21] 99 O ?_))));rw[m];refine .u O (Vf.CZ (l:=d10) (i:=n / 10 % 10) (j:=n / 10 % 10+1) O O O O O O O M (by show n / 10 % 10+1<=10;omega)) (.G O (Vf.cat (l:=GU (n / 10 % 10)) (r:=GU (n % 10)) O O M) (.de [15] 99 O (.u O (Vf.quo O O V) ?_)));rw[ady (n / 10) M];have g:n / 10 / 10=0:=M
   rw[g];refine .g O ?_;exact .a (again 0 _ _ _ M ⟨0,cu n,rfl,.inr ⟨rfl,rfl⟩,rfl,rfl,rfl⟩) (by rw[u];exact⟨rfl,rfl,aE⟩)
  .omega
 .have f:k=0:=by have:=jX p;omega
  subst f;have a:s=cu n:=by
   rcases q with⟨h0,h1⟩ | ⟨_,h1⟩
   .rw[ax M] at u;rw[h1,u]
   .exact h1
  subst a;exact .r r O ⟨rfl,rfl⟩
def MR(v:Nat)(L:LH)(g:v<7):Sp X 54 [.int .i64 v] L (λu q=>u=.tuple #[str (lE v),.int .i64 (jQ v:Nat)]/\L=q):=by
 have b:v=0\/v=1\/v=2\/v=3\/v=4\/v=5\/v=6:=M
 rcases b with rfl | rfl | rfl | rfl | rfl | rfl | rfl
 .refine Sp.e Tryz.func54 O λC j d r=>(.t O (.run' [0,1,4,5] O (.u 2 O (Vf.jN (i:=0) O O O O O O V) (.u 6 O (Vf.jN (i:=0) O O O O O O V) (.run' [3,7,8,9] O (.fin O ?_))))));refine .g O (.r r O ⟨rfl,rfl⟩)
 .refine Sp.e Tryz.func54 O λC j d r=>(.t O (.run' [0,1,4,5] O (.u 2 O (Vf.jN (i:=1) O O O O O O V) (.u 6 O (Vf.jN (i:=1) O O O O O O V) (.run' [3,7,8,9] O (.fin O ?_))))));refine .g O (.r r O ⟨rfl,rfl⟩)
 .refine Sp.e Tryz.func54 O λC j d r=>(.t O (.run' [0,1,4,5] O (.u 2 O (Vf.jN (i:=2) O O O O O O V) (.u 6 O (Vf.jN (i:=2) O O O O O O V) (.run' [3,7,8,9] O (.fin O ?_))))));refine .g O (.r r O ⟨rfl,rfl⟩)
 .refine Sp.e Tryz.func54 O λC j d r=>(.t O (.run' [0,1,4,5] O (.u 2 O (Vf.jN (i:=3) O O O O O O V) (.u 6 O (Vf.jN (i:=3) O O O O O O V) (.run' [3,7,8,9] O (.fin O ?_))))));refine .g O (.r r O ⟨rfl,rfl⟩)
 .refine Sp.e Tryz.func54 O λC j d r=>(.t O (.run' [0,1,4,5] O (.u 2 O (Vf.jN (i:=4) O O O O O O V) (.u 6 O (Vf.jN (i:=4) O O O O O O V) (.run' [3,7,8,9] O (.fin O ?_))))));refine .g O (.r r O ⟨rfl,rfl⟩)
 .refine Sp.e Tryz.func54 O λC j d r=>(.t O (.run' [0,1,4,5] O (.u 2 O (Vf.jN (i:=5) O O O O O O V) (.u 6 O (Vf.jN (i:=5) O O O O O O V) (.run' [3,7,8,9] O (.fin O ?_))))));refine .g O (.r r O ⟨rfl,rfl⟩)
 .refine Sp.e Tryz.func54 O λC j d r=>(.t O (.run' [0,1,4,5] O (.u 2 O (Vf.jN (i:=6) O O O O O O V) (.u 6 O (Vf.jN (i:=6) O O O O O O V) (.run' [3,7,8,9] O (.fin O ?_))))));refine .g O (.r r O ⟨rfl,rfl⟩)
def MW(n:Int):Bs:=if n<0 then yq else cu n.toNat
def pA(v:Nat)(a:aH):Bs:=lE v++oQ (a.map MW)
def MM(v:Nat)(a:aH)(k:bA)(c:Nat)(L:LH)(g:v<7)(s:bK L k a)(y:a.length<=10)(d:∀n∈a,n<100):Sp X 11 [.agg #[.int .i64 v,.slice k a c]] L (λu h=>u=str (pA v a)/\L=h):=by
 have x:∀v:Fin 7,(lE v.val).length<=5:=V
 have I:=x ⟨v,g⟩;simp only at I;refine Sp.e (n:=37) Tryz.func11 O λC j G r=>?_;refine .y O (MR v _ g) (.g O ?_);refine .l (λw E B h=>∃i:Nat,w=a - i/\i<=a.length/\L=h/\E=[(1,.p 0 0),(3,.v (str (pA v (a.take i)))),(5,.v (.int .i64 i))]/\B=[some ⟨[.v (.int .i64 v),.v (.slice k a.length c)],38⟩]) ⟨0,rfl,fj _,rfl,rfl,rfl⟩ ?_ (by exact⟨rfl,aJ (λz=>some (SV.v (str z))) (by simp[pA,oQ]),rfl,aE⟩)
 rintro _ _ _ _ ⟨i,rfl,Q,rfl,rfl,rfl⟩ again;refine .I O (λJ=>W.go 99 O ?_) (λJ=>W.go 99 O ?_)
 .have e:i<a.length:=by have:=gN J;omega
  obtain⟨k,rfl⟩:=s.addr e;have K:=bX e;have D:=d _ (fY e);have F:a.take (i+1)=a.take i++[a[i]]:=ja e;have f:(pA v (a.take i)).length<=5+11 * 10:=by
   unfold pA;rw[eX];have:=uV ((a.take i).map MW) λw H=>by
    obtain⟨n,y,rfl⟩:=fK.1 H;unfold MW
    split
    .decide
    .have q:=d n (yo y);have:=pz ⟨n.toNat,M⟩;simp only at this;omega
   rw[eT,mi] at this;have R:11 *min i a.length<=11 * 10:=Nat.mul_le_mul_left 11 M;omega
  have o:pA v (a.take (i+1))=pA v (a.take i)++[32]++MW a[i]:=by
   unfold pA;rw[F,iq,iH,nG,Hw];simp[tq]
  generalize a[i]=n at K D o;refine .u O (Vf.b O O (e)) (.G O (Vf.l O (s.int K)) (.I O (λc2=>?_) (λc2=>?_)))
  .have t:n<0:=gN c2;refine .G O (Vf.cat (l:=pA v (a.take i)) (r:=[32,97,110,121]) O O (by show _+4<=_;omega)) (.g O ?_);exact .a (again _ _ _ _ M ⟨i+1,rfl,e,rfl,rfl,rfl⟩) (by rw[o];exact⟨rfl,aJ (λz=>some (SV.v (str z))) (by unfold MW;rw[ax t,tq];rfl),aJ some (cr M),aE⟩)
  .have t:¬n<0:=jX c2;obtain⟨m,rfl⟩:∃m:Nat,n=m:=⟨n.toNat,M⟩;have b:=pz ⟨m,M⟩;simp only at b;refine .G O (Vf.cat (l:=pA v (a.take i)) (r:=[32]) O O (by show _+1<=_;omega)) (.G O (Vf.b O O (e)) (.G O (Vf.l O (s.int K)) (.g O ?_)));refine .p O (yH m _ M) (.u O (Vf.cat (l:=pA v (a.take i)++[32]) (r:=cu m) O O QF) (.g O ?_));exact .a (again _ _ _ _ M ⟨i+1,rfl,e,rfl,rfl,rfl⟩) (by rw[o];exact⟨rfl,aJ (λz=>some (SV.v (str z))) (by unfold MW;rw[A t,kT]),aJ some (cr M),aE⟩)
 .have e:i=a.length:=by have:=jX J;omega
  subst e;exact .r r O ⟨by rw[lK];rfl,rfl⟩
end
def zE(r:Ro)(f:aH)(u:sX):(dx r f u).length=r.samples.length:=by
 unfold dx;generalize r.samples=g
 induction u generalizing g with
 | nil=>rfl
 | cons p q l=>rw[lJ,l,List.length_modify]
def aat(h:0<fV l)(f:∀x∈l,0<=x):∀x∈l,0<x:=by
 have z:∀l:List Int,l.foldl (· * ·) (0:Int)=0:=λl=>by
  induction l with
  | nil=>rfl
  | cons x l v=>rw[lJ,Int.zero_mul,v]
 have j:∀(l:aH) (a:Int),0<l.foldl (· * ·) a->(∀x∈l,0<=x)->∀x∈l,0<x:=by
  intro l
  induction l with
  | nil=>exact λ_ _ _ x u=>by cases u
  | cons y l v=>
   intro a s i x u;rw[lJ] at s;rcases eP.1 u with rfl | u
   .let q:=i x fC;rcases Int.lt_or_eq_of_le q with d | d
    .exact d
    .rw[<-d,Int.mul_zero,z] at s;exact ar s V
   .exact v _ s (λw o=>i w (fG _ o)) x u
 exact j l 1 h f
def oJ:∀{l:List Gl} {f:aH},f∈cP l->f.length=l.length/\∀(i:Nat) (x:Int),f[i]?=some x->∃g,l[i]?=some g/\HF x g.dw
 | [],f,h=>by
  obtain rfl:=dJ.1 h;exact⟨rfl,λi x u=>by simp at u⟩
 | g::l,f,h=>by
  let⟨t,s,z⟩:=tp.1 h;obtain⟨x,u,rfl⟩:=fK.1 z;obtain⟨r,v⟩:=oJ s;refine⟨by simp[r],λi y q=>?_⟩;cases i with
  | zero=>
   obtain rfl:x=y:=wu
   refine⟨g,rfl,?_⟩;unfold nN at u;obtain⟨n,d,rfl⟩:=fK.1 u;have:=fo.1 d;unfold HF;omega
  | succ i=>exact v i y wu
def xz:∀l:List Gl,(cP l).Nodup
 | []=>by simp[cP]
 | g::l=>by
  unfold cP List.Nodup;rw[List.pairwise_flatMap];refine⟨λt _=>?_,(xz l).imp λ{a c} h x u y v e=>?_⟩
  .rw[Ff];exact(ED g.dw).imp λh e=>h (Cp e).1
  .obtain⟨p,_,rfl⟩:=fK.1 u;obtain⟨q,_,rfl⟩:=fK.1 v;exact h (Cp e).2
def WV{s:ei}(h:0<=s.lo/\s.lo<=s.hi/\s.hi<=3):(nN s).length<=4:=by
 unfold nN;rw[eT,vt];omega
def xx:∀{l:List Gl},(∀g∈l,0<=g.dw.lo/\g.dw.lo<=g.dw.hi/\g.dw.hi<=3)->(cP l).length<=4 ^ l.length
 | [],_=>by simp[cP]
 | g::l,h=>by
  have q:=xx (l:=l) λx u=>h x (fG _ u);let z:=WV (h g fC);unfold cP;rw[List.length_flatMap];simp only[eT];rw[List.map_const',List.sum_replicate_nat,pR,Nat.pow_succ];exact E9 q z
def jv:List Gl->List Int->List Int
 | g::l,x::f=>if x+1<=g.dw.hi then(x+1)::f else g.dw.lo::jv l f
 | _,_=>[]
def gr(l:List Gl):List Int:=l.map (·.dw.lo)
def XZ(l:List Gl):List Int:=l.map (·.dw.hi)
theorem JV:∀l:List Gl,jv l (XZ l)=gr l
 | []=>rfl
 | g::l=>by
  show(if g.dw.hi+1<=g.dw.hi then _ else g.dw.lo::jv l (XZ l))=g.dw.lo::gr l;rw[A M,JV l]
inductive Bi(nx:List Int->List Int):List (List Int)->Prop
 | nil:Bi nx []
 | one (a:List Int):Bi nx [a]
 | cons (a b:List Int) (l:List (List Int)):b=nx a->Bi nx (b::l)->Bi nx (a::b::l)
theorem Bi.get{u:List Int->List Int}:∀{l:gx},Bi u l->∀(k:Nat) (a b:aH),l[k]?=some a->l[k+1]?=some b->b=u a
 | _,.nil,k,a,b,h,_=>by simp at h
 | _,.one _,k,a,b,_,h=>by cases k <;> simp at h
 | _,.cons x y l h1 h2,0,a,b,ha,hb=>by
  simp at ha hb;subst ha hb;exact h1
 | _,.cons x y l h1 h2,k+1,a,b,ha,hb=>h2.get k a b (by simpa using ha) (by simpa using hb)
theorem Bi.app{k:List Int->List Int}:∀{l m:gx},Bi k l->Bi k m->(∀a b,l.getLast?=some a->m.head?=some b->b=k a)->Bi k (l++m)
 | [],m,_,hm,_=>hm
 | [a],[],_,_,_=>.one a
 | [a],b::m,_,hm,h=>.cons a b m (h a b rfl rfl) hm
 | a::b::l,m,.cons _ _ _ h1 h2,hm,h=>.cons a b (l++m) h1 (Bi.app h2 hm λx y u g=>h x y (by rw[List.getLast?_cons_cons];exact u) g)
def Jn:∀{l:List Gl},(∀g∈l,g.dw.lo<=g.dw.hi)->Bi (jv l) (cP l)/\(cP l).head?=some (gr l)/\(cP l).getLast?=some (XZ l)
 | [],_=>⟨.one [],rfl,rfl⟩
 | g::l,h=>by
  obtain⟨q,J,K⟩:=Jn λx u=>h x (fG _ u);have T:=h g fC;obtain⟨m,o⟩:∃m:Nat,(g.dw.hi - g.dw.lo+1).toNat=m+1:=⟨(g.dw.hi - g.dw.lo).toNat,M⟩;have w:nN g.dw=(List.range (m+1)).map λ(n:Nat)=>g.dw.lo+n:=by unfold nN;rw[o]
  -- one block
  have blk:∀(t:aH) (j:Nat),j<=m->Bi (jv (g::l)) (((List.range (j+1)).map λ(n:Nat)=>g.dw.lo+n).map (·::t))/\(((List.range (j+1)).map λ(n:Nat)=>g.dw.lo+n).map (·::t)).getLast?=some ((g.dw.lo+(j:Int))::t):=by
   intro t j
   induction j with
   | zero=>intro _;exact⟨.one _,U⟩
   | succ j v=>
    intro W;obtain⟨i,D⟩:=v M;rw[nI,iq,iq];refine⟨i.app (.one _) λa b s d=>?_,U⟩;rw[D] at s;simp at s d;subst s d;show _=if g.dw.lo+(j:Int)+1<=g.dw.hi then _ else _;rw[ax M]
    congr 1;omega
  have hd:∀t:List Int,((nN g.dw).map (·::t)).head?=some (g.dw.lo::t):=λt=>by
   rw[w,List.range_succ_eq_map];simp
  have p:∀z:List (List Int),Bi (jv l) z->Bi (jv (g::l)) (z.flatMap λt=>(nN g.dw).map (·::t))/\(z.flatMap λt=>(nN g.dw).map (·::t)).head?=z.head?.map (g.dw.lo::·)/\(z.flatMap λt=>(nN g.dw).map (·::t)).getLast?=z.getLast?.map (g.dw.hi::·):=by
   intro z
   induction z with
   | nil=>intro _;exact⟨.nil,rfl,rfl⟩
   | cons t z v=>
    intro I;have d:=blk t m (dA _);rw[<-w] at d;have F:g.dw.lo+(m:Int)=g.dw.hi:=M
    rw[F] at d;have G:((nN g.dw).map (·::t))≠[]:=λe=>by have:=hd t;rw[e] at this;cases this
    rw[rT];have f:Bi (jv l) z:=by
     cases I with
     | one=>exact .nil
     | cons _ _ _ _ h=>exact h
    obtain⟨c,H,Q⟩:=v f;refine⟨d.1.app c λa b s r=>?_,?_,?_⟩
    .rw[d.2] at s;rw[H] at r;cases I with
     | one=>cases r
     | cons _ t2 X h _=>
      simp at s r;subst s r;show _=if g.dw.hi+1<=g.dw.hi then _ else _;rw[A M,h]
    .rw[List.head?_append,hd];rfl
    .cases z with
     | nil=>simp only[List.flatMap_nil,pf];rw[d.2];rfl
     | cons t2 z=>
      rw[List.getLast?_append,Q,List.getLast?_cons_cons];cases u:(t2::z).getLast? with
      | none=>simp at u
      | some y=>rfl
  obtain⟨R,S,k⟩:=p _ q;refine⟨by unfold cP;exact R,?_,?_⟩
  .unfold cP;rw[S,J];rfl
  .unfold cP;rw[k,K];rfl
structure ID(r:Ro)(s:Sg):Prop where
 s0:0<=s.gU
 s1:s.gU<r.samples.length
 g0:0<=s.iR
 g1:s.iR<r.au.length
 y0:0<=s.year
 y1:s.year<=60
 fd:s.found=0\/s.found=1\/s.found=2
structure mH(r:Ro):Prop where
 g1:1<=r.au.length
 g4:r.au.length<=4
 gl:∀g∈r.au,0<=g.made/\g.made<=60/\0<=g.jR/\g.jR<=40/\0<=g.dw.lo/\g.dw.lo<=g.dw.hi/\g.dw.hi<=3
 t1:1<=r.steps.length
 t3:r.steps.length<=3
 st:∀n∈r.steps,1<=n/\n<=40
 d1:r.be.length=r.steps.length+1
 du:∀n∈r.be,0<=n/\n<=99
 p1:1<=r.samples.length
 p2:r.samples.length<=2
 sp:∀s∈r.samples,0<=s.lo/\s.lo<=s.hi/\s.hi<=40
 s8:r.aQ.length<=8
 si:∀s∈r.aQ,ID r s
 asc:r.steps.Pairwise (·<·)
def PM{s i:Int}(h:cV c s i=true):s<=c/\c<=i:=by unfold cV at h;simpa using h
def FX{m:Int}(h:cI c 1 m=0):1<=c/\c<=m:=by
 unfold cI at h
 split at h
 .cases h
 .split at h
  .cases h
  .omega
def Uh{s:ei}(h:iE s c=0):0<=s.lo/\s.lo<=s.hi/\s.hi<=c:=by
 unfold iE at h
 split at h
 .cases h
 .rename_i q
  split at h
  .cases h
  .rename_i z;simp[cV] at q;omega
theorem K5{c:Int}:∀{l:eI},jg c l=0->∀s∈l,0<=s.lo/\s.lo<=s.hi/\s.hi<=c
 | [],_,s,hs=>by cases hs
 | x::l,h,s,hs=>by
  unfold jg at h
  split at h
  ·contradiction
  ·rename_i q;rcases eP.1 hs with rfl | hs
   ·exact Uh wu
   ·exact K5 h s hs
def VN{g:Gl}(h:mM g=0):0<=g.made/\g.made<=60/\0<=g.jR/\g.jR<=40/\0<=g.dw.lo/\g.dw.lo<=g.dw.hi/\g.dw.hi<=3:=by
 unfold mM at h
 split at h
 .cases h
 .rename_i q;have:=Uh h;simp[cV] at q;omega
theorem D7:∀{l:List Gl},fR l=0->∀g∈l,mM g=0
 | [],_,g,hg=>by cases hg
 | x::l,h,g,hg=>by
  unfold fR at h
  split at h
  ·contradiction
  ·rename_i q;rcases eP.1 hg with rfl | hg
   ·simpa using q
   ·exact D7 h g hg
def K7:∀{l:aH} {p:me},fW p l=0->∀n∈l,1<=n/\n<=40
 | [],_,_,n,hn=>by cases hn
 | x::l,p,h,n,hn=>by
  have j:cV x 1 40=true/\fW (some x) l=0:=by
   cases u:cV x 1 40 with
   | false=>cases p <;> simp[fW,u] at h
   | true=>
    refine⟨rfl,?_⟩;cases p with
    | none=>simpa [fW,u] using h
    | some q=>
     by_cases c:x<=q
     .simp[fW,u,c] at h
     .simpa [fW,u,c] using h
  rcases eP.1 hn with rfl | hn
  .exact PM j.1
  .exact K7 j.2 n hn
def Hu:∀{l:aH} {p:me},fW p l=0->(∀q,p=some q->∀n∈l,q<n)/\l.Pairwise (·<·)
 | [],_,_=>⟨λ_ _ n hn=>(by cases hn),List.Pairwise.nil⟩
 | x::l,p,h=>by
  have j:(∀q,p=some q->q<x)/\fW x l=0:=by
   cases u:cV x 1 40 with
   | false=>cases p <;> simp[fW,u] at h
   | true=>
    cases p with
    | none=>exact⟨λq e=>eA,by simpa [fW,u] using h⟩
    | some q=>
     by_cases c:x<=q
     .simp[fW,u,c] at h
     .exact⟨λd e=>(by obtain rfl:=bR e;omega),by simpa [fW,u,c] using h⟩
  let⟨v,z⟩:=Hu j.2;refine⟨λq e n hn=>?_,Dw.2 ⟨λn hn=>v x O n hn,z⟩⟩;rcases eP.1 hn with rfl | hn
  .exact j.1 q e
  .exact Int.lt_trans (j.1 q e) (v x O n hn)
def Oo{r:Ro}{s:Sg}(h:ik r s=0):ID r s:=by
 unfold ik at h
 split at h
 .cases h
 .rename_i q
  split at h
  .cases h
  .rename_i z
   split at h
   .cases h
   .split at h
    .cases h
    .rename_i x;simp[cV] at q z x;exact⟨M,M,M,M,M,M,M⟩
theorem KT{r:Ro}:∀{l:sX},mo r l=0->∀s∈l,ik r s=0
 | [],_,s,hs=>by cases hs
 | x::l,h,s,hs=>by
  unfold mo at h
  split at h
  ·contradiction
  ·rename_i q;rcases eP.1 hs with rfl | hs
   ·simpa using q
   ·exact KT h s hs
def Kz{r:Ro}(h:ic r=0):mH r:=by
 unfold ic at h
 split at h
 .contradiction
 rename_i q
 split at h
 .contradiction
 rename_i z
 split at h
 .contradiction
 rename_i d
 split at h
 .contradiction
 rename_i x
 split at h
 .cases h
 rename_i k
 split at h
 .cases h
 rename_i t
 split at h
 .contradiction
 rename_i u
 split at h
 .cases h
 rename_i o;have a1:=FX (by simpa using q:cI r.au 1 4=0);have m:=FX (by simpa using d:cI r.steps 1 3=0);let v:=Ll
 let e:r.be=r.steps.length+1:=by simpa using k
 unfold ep at v
 split at v
 .contradiction
 rename_i f;let c:=FX (by simpa using f:cI r.samples 1 2=0);refine⟨M,M,λg i=>VN (D7 Ly g i),M,M,K7 Lu,e,λn y=>?_,M,M,K5 v,M,λs a=>Oo (KT h s a),(Hu Lu).2⟩;have:(r.be.all λn=>cV n 0 99)=true:=C1
 exact PM (mK.1 this n y)
end Go.Mz
set_option maxRecDepth 100000
namespace Go.Mz
open Go.Conc
variable {P:aV}{α:Type}{n k m:Nat}{L R J:LH}{t e:bh}{w u:World}{h:α->List Value}{c:Int}{B:aX}{x:aW}{Y:Trace}{l:aH}{r:List α}{s:Sw}{q:aU}{Q:bC}{E:cK}{j:aR}{D:bt}{d:bA}{F:Env}{g:aT}{o:bD}{C:bH}{N:Nm}{K:bI}{z:SV}{I:cj}{H:ck}{X:aM Proofs.Tryz.prog}
section
open Go.Proofs
def NY(o:aU)(i y:Nat):(cm o).set i (y:Int)=cm (o.set i y):=by unfold cm;rw[List.map_set]
def Px(l:aH):l.flatMap bL=l.map (Value.int .i64):=by
 induction l with
 | nil=>rfl
 | cons x l u=>rw[rT,u];rfl
def dB.set{v:Value}{b d:Nat}{x:Int}(h:dB L 1 e v l (l.flatMap bL) b)(a:d<l):
  ∃c,L b=some (.cells c e (0,0),true)/\d+1<=c.size/\dB (L.put b (.cells (bY c d [x]) e)) 1 e v (l.set d x) ((l.set d x).flatMap bL) b:=by
 let⟨m,c,q,z,r,u,k,t⟩:=h;refine⟨c,z,M,m,bY c d [x],?_,aj _ _ _,by rwa[xJ],by rwa[Fb],?_,?_⟩
 .rwa[Fb]
 .rw[Px,eT,vq]
 .intro i y g;rw[Px,List.map_set] at g;rw[rZ];rw[Px] at t
  by_cases e:i=d
  .subst e;rw[E7 (by simpa using a)] at g;cases g;rw[A M,sC ⟨U,M⟩];simp
  .rw[GG (dG e)] at g;have:=t i y g
   split
   .exact this
   .rw[dif_neg bU];exact this
end
def Er(e:Int):Prop:=∃n:Nat,n<100/\e=n
def Er.lit(n:Nat)(h:n<100):Er (n:Int):=⟨n,h,rfl⟩
def Er.ite{d:Prop}[Decidable d]{b:Int}(q:Er c)(z:Er b):Er (if d then c else b):=by split <;> assumption
def Er.oL{c:Prop}[Decidable c]{a b:α×Int}(q:Er a.2)(z:Er b.2):Er (if c then a else b).2:=by split <;> assumption
def sI:Er 0:=.lit 0 V
def Jh:Er 1:=.lit 1 V
def ZO:Er 3:=.lit 3 V
def er5:Er 5:=.lit 5 V
def VF:Er 6:=.lit 6 V
def er7:Er 7:=.lit 7 V
def er8:Er 8:=.lit 8 V
def Pm:Er 9:=.lit 9 V
def wS(n s i:Int):Er (cI n s i):=.ite er7 (.ite VF sI)
def SE(s:ei)(m:Int):Er (iE s m):=.ite Jh (.ite er5 sI)
theorem Nv(m:Int):∀l,Er (jg m l)
 | []=>sI
 | s::l=>.ite (SE s m) (Nv m l)
def Fz(l:eI)(a b:Int):Er (ep l a b):=.ite (wS ..) (Nv ..)
def Nt(b:Bl)(p:sA):Er (eU b p):=.ite ZO (.ite er8 sI)
theorem Jj(b:Bl):∀l,Er (lu b l)
 | []=>sI
 | p::l=>.ite (Nt b p) (Jj b l)
def SD(b:Bl):Er (fP b):=.ite (Fz ..) (.ite Pm (.ite Jh (.ite (.ite Pm (.ite Jh (.ite er5 sI))) (.ite (Fz ..) (.ite VF (Jj ..))))))
def acr(b:Bl)(p:sA):Er (oz b p).2:=.oL (SD b) (.oL VF (.oL (Nt b p) (.oL Pm sI)))
def VG(b:Bl)(v:Int):Er (gv b v).2:=.oL (SD b) (.oL ZO (.oL Pm (.oL (.lit 11 V) sI)))
def ZP(g:Gl):Er (mM g):=.ite Jh (SE ..)
theorem GW:∀l,Er (fR l)
 | []=>sI
 | g::l=>.ite (ZP g) (GW l)
theorem Nw:∀p l,Er (fW p l)
 | _,[]=>sI
 | p,n::l=>.ite Jh (.ite er5 (Nw _ l))
def Nu(r:Ro)(s:Sg):Er (ik r s):=.ite ZO (.ite Jh (.ite (.lit 12 V) (.ite er8 sI)))
theorem Jk(r:Ro):∀l,Er (mo r l)
 | []=>sI
 | s::l=>.ite (Nu r s) (Jk r l)
def XS(r:Ro):Er (ic r):=.ite (wS ..) (.ite (GW _) (.ite (wS ..) (.ite (Nw ..) (.ite Pm (.ite Jh (.ite (Fz ..) (.ite VF (Jk ..))))))))
def acs(r:Ro)(s:Sg):Er (oA r s).2:=.oL (XS r) (.oL VF (.oL (Nu r s) (.oL Pm sI)))
def acw(r:Ro)(x:Int):Er (jh r x).2:=.oL (XS r) (.oL ZO (.oL Pm sI))
def acx(l:aH):Er (mC l):=.ite (wS ..) (by
 generalize(none:Option Int)=p
 induction l generalizing p with
 | nil=>exact sI
 | cons n t u=>exact .ite Jh (.ite er5 (u _)))
theorem Ji:∀l,Er (jo l)
 | []=>sI
 | x::l=>.ite (acx x) (Ji l)
def SF(c:gx)(x:Want):Er (gy c x):=.ite er8 (.ite ZO (.ite sI Jh))
theorem Ny(c:gx):∀l,Er (oy c l)
 | []=>sI
 | x::l=>.ite (SF c x) (Ny c l)
def XT(s:Sw):Er (e8 s):=.ite (wS ..) (.ite (Ji _) (.ite Pm (.ite Jh (.ite Jh (.ite VF (Ny ..))))))
def acu(s:Sw)(x:Want):Er (nR s x).2:=.oL (XT s) (.oL VF (.oL (SF ..) (.oL Pm sI)))
def acv(s:Sw):Er (dP s).2.2:=by
 unfold dP
 split
 .exact XT s
 .exact sI
def ZK(f:Fi)(x:Ln):Er (qI f x).2:=.oL (.oL sI (acr ..)) (.oL (.oL sI (acs ..)) (.oL sI (acu ..)))
def MV(f:Fi)(x:Ln):Er (mX f x).2:=.oL (ZK f x) (.oL sI (.oL (VG ..) (.oL (acw ..) (acv ..))))
def Xk(w:dg)(n x:Nat)(m:Int):Er (sY w n x m).2:=.oL ZO (.oL er8 (.oL (.lit 4 V) sI))
def NC{P:Int->Prop}:∀{l:aH} {a:Int},P a->(∀x∈l,P x)->P (l.foldl min a)
 | [],_,h,_=>h
 | x::l,a,h,hl=>NC (l:=l) (a:=min a x) (by show P (if a<=x then a else x);split;exact h;exact hl x fC) λy g=>hl y (fG _ g)
def NB{P:Int->Prop}:∀{l:aH} {a:Int},P a->(∀x∈l,P x)->P (l.foldl max a)
 | [],_,h,_=>h
 | x::l,a,h,hl=>NB (l:=l) (a:=max a x) (by show P (if a<=x then x else a);split;exact hl x fC;exact h) λy g=>hl y (fG _ g)
def tQ(t:Ro)(x:Int):∀n:Int,n=(jh t x).1.lo\/n=(jh t x).1.hi->0<=n/\n<100:=by
 let z:∀n:Int,n=0\/n=0->0<=n/\n<100:=λn h=>by omega
 unfold jh
 split
 .exact z
 .rename_i f
  split
  .exact z
  .split
   .exact z
   .let hd:∀n∈t.be,0<=n/\n<100:=λn q=>by
     let f:ic t=0:=Lj
     unfold ic at f;refine qF λb=>?_;let s:(t.be.all λn=>cV n 0 99)=false:=by
      cases e:t.be.all λn=>cV n 0 99 with
      | false=>rfl
      | true=>
       have:=mK.1 e n q;unfold cV at this;simp at this;omega
     rw[s] at f
     repeat' split at f
     all_goals first | omega | contradiction | skip
    have o:∀y∈(eg t x.toNat).map λk=>t.be.getD k 0,0<=y/\y<100:=λy g=>by
     obtain⟨k,v,rfl⟩:=fK.1 g;have:=fo.1 (nH.1 v).1;rw[dL,bX this];exact hd _ (fY this)
    dsimp only;generalize(eg t x.toNat).map (λk=>t.be.getD k 0)=l at o ⊢;rintro n (rfl | rfl)
    .cases l with
     | nil=>exact⟨V,V⟩
     | cons y l=>exact NC (P:=λn=>0<=n/\n<100) (o y fC) λw u=>o w (fG _ u)
    .cases l with
     | nil=>exact⟨V,V⟩
     | cons y l=>exact NB (P:=λn=>0<=n/\n<100) (o y fC) λw u=>o w (fG _ u)
def BH{d:α->α->Bool}{c:α}(h:gT d r=c):c∈r:=by
 let j:∀(r m:List α) (b:Option α),(∀x,b=some x->x∈m)->∀c,r.foldl (mR d) b=some c->c∈m++r:=by
  intro r
  induction r with
  | nil=>intro m b q c u;rw[pf];exact q c u
  | cons x r l=>
   intro m b q c u;rw[lJ] at u;have:=l (m++[x]) (mR d b x) (λy g=>by
    unfold mR at g;cases b with
    | none=>cases g;exact IQ _ fC
    | some z=>
     dsimp only at g
     split at g
     .cases g;exact IQ _ fC
     .cases g;exact yT _ (q _ O)) c u
   simpa using this
 simpa using j r [] none (λx h=>by cases h) c h
def yE(s:Sw):(dP s).1.length<=5/\∀n∈(dP s).1,n<5:=by
 unfold dP
 split
 .exact⟨fj _,λn y=>by cases y⟩
 .unfold nZ
  split
  .rename_i c b;let q:=(nH.1 (BH b)).1;let⟨o,j,z⟩:=Fc.1 q;let⟨m,_,r⟩:=fK.1 j;let z:o=some c:=z;rw[z] at r;let⟨l,_,x⟩:=fK.1 (BH r);rw[<-x];exact⟨lI (BB ..) U,λn y=>fo.1 (nH.1 y).1⟩
  .exact⟨fj _,λn y=>by cases y⟩
structure Ml(v:Nat)(a:List Int):Prop where
 vl:v<7
 l:a.length=jQ v
 a:∀(i:Nat) (n:Int),a[i]?=some n->(0<=n/\n<100)\/(v=2/\i=1/\n=-1)
def K6:∀{w:Bs},(∀c∈w,c≠32)->fI w=[w]
 | [],_=>rfl
 | c::l,h=>by
  have b:(c==32)=false:=by simpa using h c fC
  unfold fI;rw[K6 λx u=>h x (fG _ u),b]
def Hr:∀{w r:Bs},(∀c∈w,c≠32)->fI (w++32::r)=w::fI r
 | [],r,_=>by
  rw[yp]
  conv=>lhs;unfold fI
  rfl
 | c::l,r,h=>by
  have b:(c==32)=false:=by simpa using h c fC
  rw[List.cons_append]
  conv=>lhs;unfold fI
  rw[Hr λx u=>h x (fG _ u),b]
def rm(q:iW):Bs:=q.flatMap λw=>32::w
def EE{w:Bs}:∀{q:iW},(∀c∈w,c≠32)->(∀x∈q,∀c∈x,c≠32)->fI (w++rm q)=w::q
 | [],hw,_=>by unfold rm;rw[List.flatMap_nil,pf];exact K6 hw
 | x::q,hw,hq=>by
  have:rm (x::q)=32::(x++rm q):=by unfold rm;rw[rT];rfl
  rw[this,Hr hw,EE (hq x fC) λy g=>hq y (fG _ g)]
def wI(n:Int):Bs:=if n<0 then yq else cu n.toNat
def zL:∀n:Fin 100,(∀c∈cu n.val,c≠32/\c≠63)/\N0 (cu n.val)=n.val/\(cu n.val).length<=2/\cu n.val≠yq:=iu
def LY:∀v:Fin 7,(∀c∈lE v.val,c≠32/\c≠63)/\Ii.idxOf? (lE v.val)=v.val/\(lE v.val).length<=5:=iu
def aeB:∀c∈yq,c≠32/\c≠63:=V
def O0(h:c<100):(∀d∈wI c,d≠32/\d≠63)/\(wI c).length<=3:=by
 unfold wI
 split
 .exact⟨aeB,V⟩
 .have:=zL ⟨c.toNat,M⟩;exact⟨this.1,by have:=this.2.2.1;simp only at this;omega⟩
def IX{v:Nat}:∀{a:aH} {i:Nat},(∀(j:Nat) (n:Int),a[j]?=n->(0<=n/\n<100)\/(v=2/\i+j=1/\n=-1))->sE v i (a.map wI)=a
 | [],_,_=>rfl
 | n::a,i,h=>by
  rw[iH];unfold sE;have l:sE v (i+1) (a.map wI)=a:=IX λj m t=>by
   have:=h (j+1) m C1;rcases this with h | ⟨q,z,r⟩
   .exact .inl h
   .exact .inr ⟨q,M,r⟩
  let y:(if v=2/\i=1/\wI n=yq then some (-1:Int) else(N0 (wI n)).map Int.ofNat)=n:=by
   rcases h 0 n rfl with f | ⟨q,z,rfl⟩
   .let e:wI n=cu n.toNat:=by unfold wI;rw[A M]
    have:=zL ⟨n.toNat,M⟩;rw[e,A (λh=>this.2.2.2 h.2.2),this.2.1];simp only[mg]
    congr 1
    simp only[Int.ofNat_eq_natCast];omega
   .rw[ax ⟨q,M,rfl⟩]
  rw[y,l]
def Tb{v:Nat}{a:aH}(h:Ml v a):kV (lE v++rm (a.map wI))=some (v,a):=by
 let u:=LY ⟨v,h.vl⟩;let z:∀n∈a,n<100:=λn y=>by
  let⟨i,d⟩:=vr.1 y;rcases h.a i n d with h | ⟨_,_,h⟩ <;> omega
 unfold kV;rw[EE (λc b=>(u.1 c b).1) (λx f c b=>by
  obtain⟨n,y,rfl⟩:=fK.1 f;exact((O0 (z n y)).1 c b).1)]
 dsimp only;rw[u.2.1];dsimp only;rw[A (by rw[eT];exact λe=>e h.l),IX (v:=v) (i:=0) (λj n t=>by
  rcases h.a j n t with g | ⟨o,q,m⟩
  .exact .inl g
  .exact .inr ⟨o,M,m⟩)]
 rfl
def W4{q:iW}{c:UInt8}(h:c∈rm q):c=32\/∃w∈q,c∈w:=by
 let⟨w,u,b⟩:=tp.1 h;rcases eP.1 b with rfl | b
 .exact .inl O
 .exact .inr ⟨w,u,b⟩
def W3{q:iW}(h:∀w∈q,w<=m):(rm q)<=(m+1) *q:=by
 induction q with
 | nil=>exact dA _
 | cons w q l=>
  have:rm (w::q)=32::(w++rm q):=by unfold rm;rw[rT];rfl
  let u:=l λy g=>h y (fG _ g);let z:=h w fC;rw[this,pR,eX,pR,Nat.mul_add];omega
def Z6{a:aH}(h:Ml n a):(lE n++rm (a.map wI)).length<=40:=by
 let u:=(LY ⟨n,h.vl⟩).2.2;simp only at u;let e:∀c∈a,c<100:=λc y=>by
  let⟨i,v⟩:=vr.1 y;rcases h.a i c v with h | ⟨_,_,h⟩ <;> omega
 let s:a.length<=4:=by
  rw[h.l];have:∀n:Fin 7,jQ n.val<=4:=V
  exact this ⟨n,h.vl⟩
 let z:=W3 (q:=a.map wI) (m:=3) λw u=>by
  obtain⟨c,y,rfl⟩:=fK.1 u;exact(O0 (e c y)).2
 rw[eT] at z;rw[eX];omega
def acV(h:Ml n l):∀c∈lE n++rm (l.map wI),c≠63:=λc b=>by
 let e:∀d∈l,d<100:=λd y=>by
  let⟨i,q⟩:=vr.1 y;rcases h.a i d q with h | ⟨_,_,h⟩ <;> omega
 rcases fg.1 b with b | b
 .have:=LY ⟨n,h.vl⟩;exact(this.1 c b).2
 .rcases W4 b with rfl | ⟨w,u,b⟩
  .decide
  .obtain⟨d,y,rfl⟩:=fK.1 u;exact((O0 (e d y)).1 c b).2
section
open Go.Proofs
def gM.on{q:Nat}(h:gM J L k d q l n)(o:Le (L.bT k) R)(u:gQ R k d q l m):gM J R k d q l m:=⟨h.bT.trans o,h.jb,u.blk,h.ints⟩
def gM.zp(h:gM J L k d m l n):L k≠none:=by let⟨_,g⟩:=h.blk;rw[g];simp
def FF{z:gx}{x:Want}(r:z.length<=3)(o:∀l∈z,RD l)(h:gy z x=0):Ml 2 [x.sort,x.kind,x.cO,x.pay]:=by
 let w:=uX h;let d:=w.s0;let k:=w.s2;let a:=w.k0;let b:=w.k1;let g:=w.a0;let a1:=w.a1;let m:=w.p0;let t:=w.p1;let u:Db z x<=60:=by
  unfold Db
  split
  .decide
  .split
   .decide
   .rw[dL];cases e:z[x.kind.toNat]? with
    | none=>decide
    | some l=>
     have:=(o l (fZ e)).l4;show(l.length:Int) - 1<=60;omega
 let q:0<=Bp x:=by unfold Bp;split <;> decide
 let f:-1<=Dc x:=by unfold Dc;split <;> decide
 exact⟨V,rfl,λi n v=>by
  match i,v with
  | 0,v=>cases v;exact .inl M
  | 1,v=>
   cases v
   by_cases c:0<=x.kind
   .refine .inl ⟨c,?_⟩;omega
   .exact .inr ⟨rfl,rfl,M⟩
  | 2,v=>cases v;exact .inl M
  | 3,v=>cases v;exact .inl M⟩
end
section
open Go.ConcN Go.Proofs
open Go.ConcR (KK wgBlock WgAt stA smA rd wr)
structure RZ where
 W:Nat
 X:Nat
 N:Nat
 B:Nat
 v0:Value
 v1:Value
 v2:Value
 v3:Value
 v4:Value
 n:Nat
 base:Nat
 len:Nat
 ob:List Nat->Obj
 keep:Nat->Bool
noncomputable abbrev RZ.b (z:RZ):bH:={P:=Tryz.prog,ty:=284,W:=z.W,X:=z.X,xo:=λst sm=>.cells ([z.v0,z.v1,z.v2,z.v3,z.v4]++Value.int .i32 st::Value.int .u32 sm::[Value.map (some z.B)]).toArray 232 (0,0),ma:=⟨z.X,5,none⟩,ms:=⟨z.X,6,none⟩,N:=z.N,B:=z.B,v0:=z.v0,n:=z.n,base:=z.base,len:=z.len,ob:=z.ob,keep:=z.keep}
def RZ.xo(z:RZ):qD z.b [z.v0,z.v1,z.v2,z.v3,z.v4] [.map z.B] 232:=⟨rfl,rfl,rfl⟩
noncomputable abbrev LZ (z:RZ)(f:Nat)(s:Ws):aM Tryz.prog:=iY Tryz.prog false (z.b.Φ 353) (vO z.b 353 f s)
def P5{z:RZ}(h:z.b.Φ 353 w):(∃v,w.cell? ⟨z.X,5,none⟩=some (.int .i32 v))/\∃v,w.cell? ⟨z.X,6,none⟩=some (.int .u32 v):=by
 let⟨_,⟨r,q,u⟩,_⟩:=h;exact⟨⟨r,by rw[jE u];rfl⟩,⟨q,by rw[jE u];rfl⟩⟩
open Extern in
def ajL:Array Value->Sem Value:=Atomic.casT (.int .i32)
open Extern in
def ajM:Array Value->Sem Value:=Atomic.update (Op.intArith .add) .i32 true
open Extern in
def ajK:Array Value->Sem Value:=Atomic.update (Op.intArith .add) .i64 true
def gD:Ext Tryz.prog 268 Tryz.f268 ajL:=⟨Tryz.func268,aN,rfl,aN,aN⟩
def je:Ext Tryz.prog 270 Tryz.f270 ajM:=⟨Tryz.func270,aN,rfl,aN,aN⟩
def DZ:Ext Tryz.prog 233 Tryz.f233 ajK:=⟨Tryz.func233,aN,rfl,aN,aN⟩
def rD:Ext Tryz.prog 274 Tryz.f274 Extern.Sync.canSpin:=⟨Tryz.func274,aN,rfl,aN,aN⟩
def ae2:Ext Tryz.prog 275 Tryz.f275 Extern.Sync.nothing:=⟨Tryz.func275,aN,rfl,aN,aN⟩
def rE:Ext Tryz.prog 277 Tryz.f277 Extern.OsHooks.nano:=⟨Tryz.func277,aN,rfl,aN,aN⟩
def D1:Ext Tryz.prog 278 Tryz.f278 Extern.Sync.semacquire:=⟨Tryz.func278,aN,rfl,aN,aN⟩
def rF:Ext Tryz.prog 280 Tryz.f280 Extern.Sync.semrelease:=⟨Tryz.func280,aN,rfl,aN,aN⟩
open Extern in
def ajz:Array Value->Sem Value:=Race.marked .releaseMerge
def DV:Ext Tryz.prog 189 Tryz.f189 ajz:=⟨Tryz.func189,aN,rfl,aN,aN⟩
def aiY(q:-100<=c)(z:c<=1000):IntKind.i32.wrap c=c:=QK
noncomputable def usC:Code:=match Tryz.f271.body with | some (.seq _ (.seq _ (.cond _ (.seq _ (.block _ (.loop c))) _)))=>c | _=>.skip
def Np(o:Mu.Wd)(b:o.c<=6):IntKind.i32.wrap ((BitVec.ofInt IntKind.i32.bits (Mu.enc o)&&& BitVec.ofInt IntKind.i32.bits 1).toNat:Int)=Mu.bi o.l:=Mu.aiu o.l o.w o.s ⟨o.c,M⟩
def Nq(o:Mu.Wd)(b:o.c<=6):IntKind.i32.wrap ((BitVec.ofInt IntKind.i32.bits (Mu.enc o)&&& BitVec.ofInt IntKind.i32.bits 2).toNat:Int)=2 *Mu.bi o.w:=Mu.aiv o.l o.w o.s ⟨o.c,M⟩
def ZH(o:Mu.Wd)(b:o.c<=6):IntKind.i32.wrap ((BitVec.ofInt IntKind.i32.bits (Mu.enc o)&&& BitVec.ofInt IntKind.i32.bits 3).toNat:Int)=Mu.bi o.l+2 *Mu.bi o.w:=Mu.aiw o.l o.w o.s ⟨o.c,M⟩
def AQ(o:Mu.Wd)(b:o.c<=6):IntKind.i32.wrap ((BitVec.ofInt IntKind.i32.bits (Mu.enc o)&&& BitVec.ofInt IntKind.i32.bits 4).toNat:Int)=4 *Mu.bi o.s:=Mu.aix o.l o.w o.s ⟨o.c,M⟩
def AR(o:Mu.Wd)(b:o.c<=6):IntKind.i32.wrap ((BitVec.ofInt IntKind.i32.bits (Mu.enc o)&&& BitVec.ofInt IntKind.i32.bits 5).toNat:Int)=Mu.bi o.l+4 *Mu.bi o.s:=Mu.aiy o.l o.w o.s ⟨o.c,M⟩
def ZI(o:Mu.Wd)(b:o.c<=6):IntKind.i32.wrap ((BitVec.ofInt IntKind.i32.bits (Mu.enc o)&&& BitVec.ofInt IntKind.i32.bits 7).toNat:Int)=Mu.bi o.l+2 *Mu.bi o.w+4 *Mu.bi o.s:=Mu.aiz o.l o.w o.s ⟨o.c,M⟩
def ach(o:Mu.Wd)(b:o.c<=6):IntKind.i32.wrap ((BitVec.ofInt IntKind.i32.bits (Mu.enc o)||| BitVec.ofInt IntKind.i32.bits 1).toNat:Int)=Mu.enc {o with l:=true}:=Mu.or1 o.l o.w o.s ⟨o.c,M⟩
def SB(o:Mu.Wd)(b:o.c<=6):IntKind.i32.wrap ((BitVec.ofInt IntKind.i32.bits (Mu.enc o)||| BitVec.ofInt IntKind.i32.bits 2).toNat:Int)=Mu.enc {o with w:=true}:=Mu.or2 o.l o.w o.s ⟨o.c,M⟩
def zw(o:Mu.Wd):(Mu.enc o).fdiv (2 ^ min 3 IntKind.i32.bits)=(o.c:Int):=by
 let e:((2:Int) ^ min 3 IntKind.i32.bits)=8:=V
 have:=Mu.Pg o;rw[e,Int.fdiv_eq_ediv_of_nonneg _ V];omega
def wQ(o:Mu.Wd)(b:o.c<=7):IntKind.i32.wrap (Mu.enc o)=Mu.enc o:=aiY (by have:=Mu.Pg o;omega) (by have:=Mu.Pg o;omega)
def aeb{o:Mu.Wd}(h:o.c=0\/o.l=true\/o.w=true\/o.s=true):Mu.pM {pc:=.u0,left:=n,old:=o}={pc:=.out,left:=n}:=by unfold Mu.pM;rw[ax h]
def af9{o:Mu.Wd}(h:¬(o.c=0\/o.l=true\/o.w=true\/o.s=true)):Mu.pM {pc:=.u0,left:=n,old:=o}={pc:=.uc,left:=n,old:=o}:=by unfold Mu.pM;rw[A h]
def aaX{z:RZ}{J:bD}{C:Cx Tryz.prog}(a:C.f=271)(r:Cd C Tryz.f271 (λY v F=>∃g,g<=k/\Y=LZ z g ⟨.fin,{pc:=.out,left:=n},J⟩/\v=.tuple #[]/\F=L)):∀(f:Nat) (o:Mu.Wd),f<=k->o.c<=6->
  W (C.to (LZ z f ⟨EN (Mu.pM {pc:=.u0,left:=n,old:=o}),Mu.pM {pc:=.u0,left:=n,old:=o},J⟩)) 43 [] [.code usC,.inLoop usC,.inBlock 0] [(0,mT ⟨z.X,5,none⟩),(4,.v (.int .i32 (Mu.enc o)))] [] L:=by
 let i:C.kd≠.early:=lZ
 intro f
 induction f using Nat.strongRecOn with
 | _ f ih=>
 intro o j G;refine .g O ?_;rw[zw];let out:(o.c=0\/o.l=true\/o.w=true\/o.s=true)->∀{E:Env} {d:bI},W (C.to (LZ z f ⟨EN (Mu.pM {pc:=.u0,left:=n,old:=o}),Mu.pM {pc:=.u0,left:=n,old:=o},J⟩)) 43 [] (.code .ret::d) E [] L:=by
  intro h E d;rw[aeb h];exact W.mO (r.to _) (.inr ⟨_,rfl⟩) O O ⟨f,j,rfl,rfl,rfl⟩
 by_cases m:o.c=0
 .let x:(((o.c:Nat):Int)==0)=true:=by simp[m]
  rw[x];refine .di 17 O O ?_;refine .g O ?_;exact out (.inl m)
 .let x:(((o.c:Nat):Int)==0)=false:=by simp[m]
  rw[x];refine .di 17 (p:=false) O O ?_;refine .g O ?_;rw[ZI o G]
  by_cases t:o.l=true\/o.w=true\/o.s=true
  .let q:(Mu.bi o.l+2 *Mu.bi o.w+4 *Mu.bi o.s !=0)=true:=by
    have:=Mu.sG o.l;have:=Mu.sG o.w;have:=Mu.sG o.s;rcases t with e | e | e <;> rw[e] <;> simp[Mu.bi] at * <;> omega
   rw[q];refine .T O (.g O ?_);exact out (.inr t)
  .let q:(Mu.bi o.l+2 *Mu.bi o.w+4 *Mu.bi o.s !=0)=false:=by
    simp only[not_or,Cf] at t;rw[t.1,t.2.1,t.2.2];rfl
   rw[q];refine .F O (.g O ?_);let s1:IntKind.i32.wrap (Mu.enc o - 8)=Mu.enc {o with c:=o.c - 1}:=by rw[Mu.ajl m];exact wQ _ xU
   rw[s1,SB _ xU,af9 (λe=>e.elim m t)];refine W.JS (b:=z.b) (u:=true) (T:={pc:=.uc,left:=n,old:=o}) (J:=J) (old:=o) (nw:={o with w:=true,c:=o.c - 1}) (Ty:={pc:=.us,left:=n,h:=false}) (Tn:={pc:=.ux,left:=n,old:=o}) z.xo gD.func gD.name gD.body gD.next gD.find O r.ro i O O O O O O (λS I e=>?_) (λS I e=>.ucn O e) (λg y=>?_) (λg y=>?_)
   .subst e;exact .ucy O O
   .refine .N O (.g O ?_);refine W.X9 (b:=z.b) (T:={pc:=.us,left:=n,h:=false}) (J:=J) z.xo rF.func rF.name rF.body rF.next rF.find O O r.ro i O O O O λK D=>?_;refine .g O ?_;exact W.mO (r.to _) (.inr ⟨_,rfl⟩) O O ⟨K,M,rfl,rfl,rfl⟩
   .refine .K O (.g O ?_);refine W.Tq (b:=z.b) (u:=true) (T:={pc:=.ux,left:=n,old:=o}) (J:=J) z.xo (by show(Tryz.prog.funcs[C.f]?).any (·.norace)=true;rw[a,Tryz.func271];rfl) O r.ro i E5 O O O O λS I=>⟨_,.ux O,λK D=>?_⟩;refine .g O ?_;refine W.fA ?_;refine .a (E':=[(0,.v (mT ⟨z.X,5,none⟩)),(4,.v (.int .i32 (Mu.enc S.w)))]) (B':=[]) ?_ ⟨rfl,rfl,aE⟩;exact ih K M S.w M I.c6
def ahZ(z:RZ)(J:bD)(L:LH)(l f:Nat)(T:Mu.Th)(o:Mu.Wd)(w:o.l=false)(g:o.c<=6)(k:(o.s=true/\T={pc:=.us,left:=l,h:=true})\/(o.s=false/\T=Mu.pM {pc:=.u0,left:=l,old:=o})):
  pL (LZ z f ⟨EN T,T,J⟩) 271 [mT ⟨z.X,5,none⟩,.int .i32 (Mu.enc o)] L (λY v I=>∃y,y<=f/\Y=LZ z y ⟨.fin,{pc:=.out,left:=l},J⟩/\v=.tuple #[]/\I=L):=by
 refine pL.enter Tryz.func271 O O O O λC j a d r=>?_;have i:C.kd≠.early:=lZ
 have s1:IntKind.i32.wrap (Mu.enc o+1)=Mu.enc {o with l:=true}:=by
  have:Mu.enc o+1=Mu.enc {o with l:=true}:=by unfold Mu.enc;rw[w];simp[Mu.bi];omega
  rw[this];exact wQ _ xU
 let⟨p,x,t,wY,m,u,q⟩:=C;obtain rfl:p=_:=j;refine .g O ?_;rw[s1,Np _ xU,show Mu.bi ({o with l:=true}:Mu.Wd).l=1 from rfl];refine .F O (.g O ?_);rw[AQ o g];rcases k with⟨hs,rfl⟩ | ⟨hs,rfl⟩
 .rw[hs,show 4 *Mu.bi true=4 from rfl];refine .F O (.g O (W.X9 (b:=z.b) (T:={pc:=.us,left:=l,h:=true}) (J:=J) z.xo rF.func rF.name rF.body rF.next rF.find O O r.ro i O O O O λK D=>?_));refine .g O ?_;exact W.mO (r.to _) (.inl O) O O ⟨K,M,rfl,rfl,rfl⟩
 .rw[hs,show 4 *Mu.bi false=0 from rfl];refine .T O (.go 12 O ?_);refine W.mD ?_;refine .a (E':=[(0,.v (mT ⟨z.X,5,none⟩)),(4,.v (.int .i32 (Mu.enc o)))]) (B':=[]) ?_ ⟨rfl,rfl,aE⟩;exact aaX (C:=⟨LZ z f ⟨EN (Mu.pM {pc:=.u0,left:=l,old:=o}),Mu.pM {pc:=.u0,left:=l,old:=o},J⟩,x,t,wY,m,u,q⟩) a r f o (dA _) g
def Sz(o:Mu.Wd)(h:o.l=true)(b:o.c<=6):IntKind.i32.wrap (Mu.enc o+-1)=Mu.enc {o with l:=false}:=by
 have:=Mu.ajj h;rw[show Mu.enc o+-1=Mu.enc o - 1 by omega,this];exact wQ _ xU
def afj(z:RZ)(J:bD)(L:LH)(f:Nat)(T:Mu.Th)(hT:T.pc=.own):pL (LZ z f ⟨.put,T,J⟩) 258 [mT ⟨z.X,5,none⟩] L (λY v c=>∃m,m<=f/\Y=LZ z m ⟨.idle,{pc:=.out,left:=T.left},J⟩/\v=.tuple #[]/\c=L):=by
 refine pL.enter Tryz.func258 O O O O λC hX hf d r=>?_;have o:C.kd≠.early:=lZ
 obtain⟨p,x,u1,wY,u2,u3,u4⟩:=C;obtain rfl:p=_:=hX;refine .g O ?_;refine W.ag2 O (by show(Tryz.prog.funcs[x]?).any (·.norace)=true;rw[show x=258 from hf,Tryz.func258];rfl) r.ro o E5 (λw F=>(P5 F).1) O O O O λv0=>?_;refine .g O ?_;refine W.Cu rfl r.ro o Tryz.underlying420 Tryz.underlying266 aN (λw F=>let⟨v,g⟩:=(P5 F).1;⟨_,g⟩) rfl rfl rfl rfl ?_;refine W.mkA (b:=z.b) (ad:=⟨z.X,5,none⟩) (h:=⟨.put,T,J⟩) (s2:=⟨.P9,{T with pc:=.u0},J⟩) .releaseMerge U DV.func DV.name DV.body DV.next DV.find O r.ro o (λm i k c _ q I K=>⟨q,k,I,K⟩) O O O O λf1 u5=>?_;refine .g O ?_;refine W.mkP (b:=z.b) (T:=T) (h:=⟨.P9,{T with pc:=.u0},J⟩) (s2:=⟨.ul,{T with pc:=.u0},J⟩) .disable U jc.func jc.name jc.body jc.next jc.find O r.ro o (λm i k c _ q I K=>⟨q,k,I,K⟩) O O O λf2 u6=>?_;refine .g O ?_;refine W.PY (b:=z.b) (u:=true) (T:={T with pc:=.u0}) (J:=J) (dl:=-1) z.xo je.func je.name je.body je.next je.find O r.ro o O O O O O λS hF=>?_;have hl:=hF.held (.inr rfl);have G:=hF.c6
 by_cases H:({S.w with l:=false}:Mu.Wd)=Mu.Wd.zero
 .refine⟨_,_,.u0z O H,Sz _ hl G,λD Q=>?_⟩;refine .g O ?_;rw[show Mu.enc {S.w with l:=false}=0 from Mu.acg.2 H];refine .F O (.g O ?_);refine W.mkP (b:=z.b) (T:=T) (h:=⟨.fin,{pc:=.out,left:=T.left},J⟩) (s2:=⟨.idle,{pc:=.out,left:=T.left},J⟩) .enable U dK.func dK.name dK.body dK.next dK.find O r.ro o (λm i k c _ q I K=>⟨q,k,I,K⟩) O O O λf4 R=>?_;refine .g O ?_;exact W.mO (r.to _) (.inl O) O O ⟨f4,M,rfl,rfl,rfl⟩
 .have B:(Mu.enc {S.w with l:=false} !=0)=true:=by
   have:Mu.enc {S.w with l:=false}≠0:=λe=>H (Mu.acg.1 e)
   simpa using this
  have j:∀(t:Mu.Th) (D:Nat),((({S.w with l:=false}:Mu.Wd).s=true/\t={pc:=.us,left:=T.left,h:=true})\/(({S.w with l:=false}:Mu.Wd).s=false/\t=Mu.pM {pc:=.u0,left:=T.left,old:={S.w with l:=false}}))->
    pL (LZ z D ⟨EN t,t,J⟩) 271 [mT ⟨z.X,5,none⟩,.int .i32 (Mu.enc {S.w with l:=false})] L (λY v c=>∃m,m<=D/\Y=LZ z m ⟨.fin,{pc:=.out,left:=T.left},J⟩/\v=.tuple #[]/\c=L):=λt D hh=>ahZ z J L T.left D t _ O G hh
  have step:∃t,Mu.Step {T with pc:=.u0} S t {S with w:={S.w with l:=false}}/\((({S.w with l:=false}:Mu.Wd).s=true/\t={pc:=.us,left:=T.left,h:=true})\/(({S.w with l:=false}:Mu.Wd).s=false/\t=Mu.pM {pc:=.u0,left:=T.left,old:={S.w with l:=false}})):=by
   cases a:S.w.s with
   | true=>exact⟨_,.u0s rfl a,.inl ⟨rfl,rfl⟩⟩
   | false=>exact⟨_,.u0n rfl a,.inr ⟨rfl,rfl⟩⟩
  obtain⟨t,y,E⟩:=step;refine⟨t,_,y,Sz _ hl G,λD Q=>?_⟩;refine .g O ?_;rw[B];refine .T O (.g O ?_);refine W.oF (args:=[mT ⟨z.X,5,none⟩,.int .i32 (Mu.enc {S.w with l:=false})]) O O O O (j t D E) ?_;rintro Y v _ ⟨f4,R,rfl,rfl,rfl⟩;refine .g O ?_;refine W.mkP (b:=z.b) (T:=T) (h:=⟨.fin,{pc:=.out,left:=T.left},J⟩) (s2:=⟨.idle,{pc:=.out,left:=T.left},J⟩) .enable U dK.func dK.name dK.body dK.next dK.find O r.ro o (λm i k c _ q I K=>⟨q,k,I,K⟩) O O O λf5 u7=>?_;refine .g O ?_;exact W.mO (r.to _) (.inl O) O O ⟨f5,M,rfl,rfl,rfl⟩
end
end Go.Mz
set_option maxRecDepth 100000
namespace Go.Mz
open Go.Conc Go.ConcN Go.Proofs
open Go.ConcR (KK wgBlock WgAt stA smA rd wr)
namespace Mu
def Fits.next{T e:Th}{S v:Sh}(h:Fits T S)(a:Step T S e v):Good e:=by
 let⟨l,i,u,_⟩:=h;let⟨k,f⟩:=vr.1 u;have:=Bd i f a;exact this.G4 e (fZ (by rw[E7 (eO.1 f).1]))
end Mu
section
variable {P:aV}{E:cK}{B:aX}{L:LH}{t n:bh}{x y:Operand}
def Vf.abJ{m:fE}{a b c:Int}(u:bZ E x=some (.v (.int m a)))(g:bZ E y=some (.v (.int m b)))(h:m.wrap (BitVec.ofInt m.bits a&&& ~~~ BitVec.ofInt m.bits b).toNat=c):Vf P (.binOp .andNot t x y n) E B L (.v (.int m c)):=λT R β z _ _=>by
 let q:=(bR (z.val u)).symm;let j:=(bR (z.val g)).symm;refine⟨_,rfl,λp w s l o Q H d=>?_⟩;simp only[execOp,q,j,Z,eqGuard,binOp,ne_eq,not_true_eq_false,if_false,Op.intBits];rwa[h]
end
noncomputable def lsC:Code:=match Tryz.f269.body with | some (.seq _ (.seq _ (.seq _ (.seq _ (.seq _ (.seq (.block _ (.loop c)) _))))))=>c | _=>.skip
noncomputable def lsT:Code:=match Tryz.f269.body with | some (.seq _ (.seq _ (.seq _ (.seq _ (.seq _ (.seq (.block _ (.loop _)) t))))))=>t | _=>.skip
noncomputable def Tj:Code:=match lsC with | .block _ (.seq _ c)=>c | _=>.skip
noncomputable def lsP:Code:=match lsC with | .block _ (.seq (.seq _ (.cond _ (.seq _ c) _)) _)=>c | _=>.skip
noncomputable def lsS:Code:=match Tj with | .seq _ (.seq _ (.seq _ (.seq _ (.seq _ c))))=>c | _=>.skip
noncomputable def lsX:Code:=match Tj with | .seq _ (.seq _ c)=>c | _=>.skip
noncomputable def lsA:Code:=match Tj with | .seq _ (.seq _ (.seq _ c))=>c | _=>.skip
noncomputable def lsB:Code:=match lsA with | .seq _ c=>c | _=>.skip
noncomputable def lsQ:Code:=match lsS with | .seq _ (.cond _ (.seq _ c) _)=>c | _=>.skip
noncomputable def lsU:Code:=match lsQ with | .seq _ (.seq _ c)=>c | _=>.skip
noncomputable def lsV:Code:=match lsU with | .seq _ (.seq _ c)=>c | _=>.skip
noncomputable def El:List Item:=[.inLoop lsC,.inBlock 0,.code lsT]
noncomputable abbrev CJ (z:RZ)(T:Mu.Th)(HN:Int):Env:=[(0,.v (mT ⟨z.X,5,none⟩)),(2,.v (.int .i64 HN)),(3,.v (.bool T.sv)),(4,.v (.bool T.aw)),(5,.v (.int .i64 T.it)),(6,.v (.int .i32 (Mu.enc T.old)))]
abbrev ON(z:RZ)(J:Option Nat)(L:LH)(l F:Nat):aM Tryz.prog->Value->LH->Prop:=λY v L'=>∃f' K,f'<=F/\Y=LZ z f' ⟨.hold K,{pc:=.own,left:=l},J⟩/\(∀i,J=some i->i∉K)/\v=.tuple #[]/\L'=L
section
variable {z:RZ}{J:bD}{C:Cx Proofs.Tryz.prog}{L:LH}{l F:Nat}
def HZ(r:Cd C Tryz.f269 (ON z J L l F))(f:Nat)(a:f<=F){E:Env}(h:get E 0=mT ⟨z.X,5,none⟩):W (C.to (LZ z f ⟨.got,{pc:=.own,left:=l},J⟩)) 139 [] [.code lsT] E [] L:=by
 let o:C.kd≠.early:=lZ
 refine .a (E':=[(0,.v (mT ⟨z.X,5,none⟩))]) (B':=[]) ?_ ⟨h,aE⟩;refine .g O ?_;refine W.mkP (b:=z.b) (T:={pc:=.own,left:=l}) (h:=⟨.got,{pc:=.own,left:=l},J⟩) (s2:=⟨.Ea,{pc:=.own,left:=l},J⟩) .enable U dK.func dK.name dK.body dK.next dK.find O r.ro o (λp i t k _ q m c=>⟨q,t,m,c⟩) O O O λx d=>?_;refine .g O ?_;refine W.Cu rfl r.ro o Tryz.underlying420 Tryz.underlying266 aN (λw u=>let⟨v,g⟩:=(P5 u).1;⟨_,g⟩) rfl rfl rfl rfl ?_;refine W.ada (b:=z.b) jd.func jd.name jd.body jd.next jd.find O r.ro o O O O O λj K y n=>?_;refine .g O ?_;exact W.mO (r.to _) (.inl O) O O ⟨j,K,M,rfl,n,rfl,rfl⟩
def vm(z:RZ)(J:bD)(C:Cx Tryz.prog)(L:LH)(l f:Nat):Prop:=
 ∀(T:Mu.Th) (HN:Int),T.left=l->T.old.c<=6->T.ws=decide (HN≠0)->Mu.Good (Mu.hd T)->W (C.to (LZ z f ⟨Ha (Mu.hd T),Mu.hd T,J⟩)) 139 [] (.code lsC::El) (CJ z T HN) [] L
def VB(o:Mu.Wd)(b:o.c<=7):IntKind.i32.wrap ((BitVec.ofInt IntKind.i32.bits (Mu.enc o)&&& BitVec.ofInt IntKind.i32.bits 2).toNat:Int)=2 *Mu.bi o.w:=(show ∀(l w s:Bool) (c:Fin 8),bits .and .i32 (Mu.enc ⟨l,w,s,c⟩) 2=2 *Mu.bi w by decide+kernel) o.l o.w o.s ⟨o.c,M⟩
def ZD(o:Mu.Wd)(b:o.c<=7):IntKind.i32.wrap ((BitVec.ofInt IntKind.i32.bits (Mu.enc o)||| BitVec.ofInt IntKind.i32.bits 4).toNat:Int)=Mu.enc {o with s:=true}:=(show ∀(l w s:Bool) (c:Fin 8),bits .or .i32 (Mu.enc ⟨l,w,s,c⟩) 4=Mu.enc ⟨l,w,true,c⟩ by decide+kernel) o.l o.w o.s ⟨o.c,M⟩
def VC(o:Mu.Wd)(b:o.c<=7):bits .andNot .i32 (Mu.enc o) 2=Mu.enc {o with w:=false}:=(show ∀(l w s:Bool) (c:Fin 8),bits .andNot .i32 (Mu.enc ⟨l,w,s,c⟩) 2=Mu.enc ⟨l,false,s,c⟩ by decide+kernel) o.l o.w o.s ⟨o.c,M⟩
def ZG(o:Mu.Wd)(b:o.c<=6):IntKind.i32.wrap (Mu.enc o+8)=Mu.enc {o with c:=o.c+1}:=by rw[Mu.aio];exact wQ _ xU
def abA{T:Mu.Th}{S:Mu.Sh}{R:Prop}(n:Mu.Fits T S)(a:T.pc=.a1)(h:T.sv=false\/T.old.c=1)(k:∀nw,Mu.Step T S {pc:=.own,left:=T.left} {S with w:=nw}->IntKind.i32.wrap (Mu.enc S.w+-11)=Mu.enc nw->R):R:=by
 let⟨p,q,u,v⟩:=n.handed (by unfold Mu.gE;rw[a];exact Nat.one_pos);refine k _ (.a1 a) ?_;let d:(S.w.s&&!(!T.sv||T.old.c==1))=false:=by
  rcases h with e | e <;> simp[e]
 rw[d];have:=Mu.ahT p q M;rw[show Mu.enc S.w+-11=Mu.enc S.w - 11 by omega,this];have:=n.c6;exact wQ _ xU
def ain{T:Mu.Th}{S:Mu.Sh}{R:Prop}(n:Mu.Fits T S)(a:T.pc=.a1)(h:T.sv=true)(b:T.old.c≠1)(k:∀nw,Mu.Step T S {pc:=.own,left:=T.left} {S with w:=nw}->IntKind.i32.wrap (Mu.enc S.w+-7)=Mu.enc nw->R):R:=by
 let⟨p,q,u,v⟩:=n.handed (by unfold Mu.gE;rw[a];exact Nat.one_pos);refine k _ (.a1 a) ?_;let d:(S.w.s&&!(!T.sv||T.old.c==1))=S.w.s:=by
  simp[h,b]
 rw[d];have:=Mu.ajk p M;rw[show Mu.enc S.w+-7=Mu.enc S.w - 7 by omega,this];have:=n.c6;exact wQ _ xU
def ai1(hf:C.f=269)(r:Cd C Tryz.f269 (ON z J L l F))(f:Nat)(u6:f<=F)(ih:∀m,m<f->vm z J C L l m)(T:Mu.Th)(n:Int)(a:T.pc=if T.ws then .s1 else .t1)(x:T.aw=false)(hl:T.left=l)(hc:T.old.c<=6)(g:T.ws=decide (n≠0)){E:Env}(hE:gR E [(0,mT ⟨z.X,5,none⟩),(2,n),(3,T.sv)]):
  W (C.to (LZ z f ⟨.lk,T,J⟩)) 139 [] (.code lsQ::.inBlock 1::El) E [] L:=by
 let o:C.kd≠.early:=lZ
 refine .kI (B':=[]) hE qy ?_;obtain⟨pc,i,aw,y,d,k,left,j⟩:=T;simp only at a x hl hc g;subst hl x;let nr:(Tryz.prog.funcs[C.f]?).any (·.norace)=true:=by rw[hf,Tryz.func269];rfl
 let h2:∀(H:Nat),H<=f->∀(n:Int) (E:Env) (y d j:Bool),d=decide (n≠0)->gR E [(0,mT ⟨z.X,5,none⟩),(2,n),(3,y)]->
   W (C.to (LZ z H ⟨.lk,{pc:=.r2,old:=i,aw:=false,sv:=y,ws:=d,it:=k,left:=left,h:=j},J⟩)) 139 [] (.code lsV::.inBlock 1::El) E [] L:=by
  intro H u3 n E y d j hw hE;refine .kI (B':=[]) hE qy ?_;refine .g O ?_;refine W.Tq (b:=z.b) (u:=false) (T:={pc:=.r2,old:=i,aw:=false,sv:=y,ws:=d,it:=k,left:=left,h:=j}) (J:=J) z.xo nr O r.ro o E5 O O O O λS hF=>?_
  by_cases hs:S.w.s=true
  .let u2:=hF.handed (hF.woken rfl hs);let I:=hF.c6;obtain⟨⟨sl,sw,ss,sc⟩,sn,sh⟩:=S;simp only at hs u2 I;obtain⟨rfl,rfl,rfl,u4⟩:=u2;refine⟨_,.r2s O O,λf3 Q=>?_⟩;refine .g O ?_;rw[AQ _ I];refine .R O (.g O ?_);rw[ZH _ I];refine .di 111 (p:=false) O O ?_;refine .g O ?_;rw[zw];let e1:(((sc:Nat):Int)==0)=false:=by simpa using Nat.pos_iff_ne_zero.1 u4
   rw[e1];refine .Q O (.g O ?_);cases y with
   | false=>
    refine .di 119 (p:=true) O O ?_;refine .g O ?_;rw[show IntKind.i32.wrap (-7 - 4)=-11 by decide];refine W.PY (b:=z.b) (u:=false) (T:={pc:=.a1,old:=⟨false,false,true,sc⟩,aw:=false,sv:=false,ws:=d,it:=k,left:=left,h:=j}) (J:=J) (dl:=-11) z.xo je.func je.name je.body je.next je.find O r.ro o O O O O O λS' K=>?_;refine abA K O (.inl O) λnw D G=>⟨_,nw,D,G,λR B=>?_⟩;refine .go 2 O ?_;refine HZ (C:=C) r R M ?_
    rfl
   | true=>
    refine .di 119 (p:=false) O O ?_;refine .g O ?_;rw[zw]
    by_cases q:sc=1
    .subst q;refine .R O (.g O ?_);rw[show IntKind.i32.wrap (-7 - 4)=-11 by decide];refine W.PY (b:=z.b) (u:=false) (T:={pc:=.a1,old:=⟨false,false,true,1⟩,aw:=false,sv:=true,ws:=d,it:=k,left:=left,h:=j}) (J:=J) (dl:=-11) z.xo je.func je.name je.body je.next je.find O r.ro o O O O O O λS' K=>?_;refine abA K O (.inr O) λnw D G=>⟨_,nw,D,G,λR B=>?_⟩;refine .go 2 O ?_;refine HZ (C:=C) r R M ?_
     rfl
    .let e2:(((sc:Nat):Int)==1)=false:=by
      have:((sc:Nat):Int)≠1:=M
      simpa using this
     rw[e2];refine .Q O (.g O ?_);refine W.PY (b:=z.b) (u:=false) (T:={pc:=.a1,old:=⟨false,false,true,sc⟩,aw:=false,sv:=true,ws:=d,it:=k,left:=left,h:=j}) (J:=J) (dl:=-7) z.xo je.func je.name je.body je.next je.find O r.ro o O O O O O λS' K=>?_;refine ain K O O q λnw D G=>⟨_,nw,D,G,λR B=>?_⟩;refine .go 2 O ?_;refine HZ (C:=C) r R M ?_
     rfl
  .let u1:S.w.s=false:=by simpa using hs
   refine⟨_,.r2n O u1,λf3 Q=>?_⟩;let I:=hF.c6;let u5:=hF.next (.r2n rfl u1);refine .g O ?_;rw[AQ _ hF.c6,u1];refine .Q O (.go 8 O (.go 2 O ?_));refine W.fA ?_;refine W.AA 4 O ?_;refine .a (E':=CJ z {pc:=.r2,old:=S.w,aw:=true,sv:=y,ws:=d,it:=0,left:=left,h:=j} n) (B':=[]) ?_;exact ih f3 M {pc:=.r2,old:=S.w,aw:=true,sv:=y,ws:=d,it:=0,left:=left,h:=j} n O I hw u5
 let h3:∀(H:Nat),H<=f->∀(n:Int) (E:Env) (y d j b8:Bool),d=decide (n≠0)->gR E [(0,mT ⟨z.X,5,none⟩),(2,n),(3,y),(8,b8)]->
   W (C.to (LZ z H ⟨.lk,{pc:=.s1,old:=i,aw:=false,sv:=y,ws:=d,it:=k,left:=left,h:=j},J⟩)) 139 [] (.code lsU::.inBlock 1::El) E [] L:=by
  intro H u3 n E y d j b8 hw hE;refine .kI (B':=[]) hE qy ?_;refine .g O ?_;refine W.adb (b:=z.b) (T:={pc:=.s1,old:=i,aw:=false,sv:=y,ws:=d,it:=k,left:=left,h:=j}) (J:=J) z.xo D1.func D1.name D1.body D1.next D1.find O O r.ro o O O O O λt f3 Q=>?_;cases y with
  | true=>
   refine .g O (.di 95 (p:=true) O O (.go 7 O ?_));refine W.AA 3 O ?_;exact h2 f3 M n _ true d t hw ⟨rfl,rfl,rfl,aE⟩
  | false=>
   refine .g O (.di 95 (p:=false) O O (.g O ?_));refine W.X7 (b:=z.b) (u:=false) (T:={pc:=.t2,old:=i,aw:=false,sv:=false,ws:=d,it:=k,left:=left,h:=t}) (J:=J) rE.func rE.name rE.body rE.next rE.find O O r.ro o O O O λv=>⟨{pc:=.r2,old:=i,aw:=false,sv:=decide (1000000<IntKind.i64.wrap (v - n)),ws:=d,it:=k,left:=left,h:=t},λS=>.t2 _ O,λR B=>?_⟩;refine .go 6 O ?_;exact h2 R M n _ (decide (1000000<IntKind.i64.wrap (v - n))) d t hw ⟨rfl,rfl,rfl,aE⟩
 refine .g O ?_;cases d with
 | true=>
  obtain rfl:pc=.s1:=a;let e1:(n==0)=false:=by simpa using g.symm
  rw[e1];refine .Q O (.go 2 O ?_);exact h3 f (dA _) n _ y true j _ g ⟨rfl,rfl,rfl,rfl,aE⟩
 | false=>
  obtain rfl:pc=.t1:=a;let e1:(n==0)=true:=by simpa using g.symm
  rw[e1];refine .R O (.g O ?_);refine W.X7 (b:=z.b) (u:=false) (T:={pc:=.t1,old:=i,aw:=false,sv:=y,ws:=false,it:=k,left:=left,h:=j}) (J:=J) rE.func rE.name rE.body rE.next rE.find O O r.ro o O O O λv=>⟨{pc:=.s1,old:=i,aw:=false,sv:=y,ws:=decide (v≠0),it:=k,left:=left,h:=j},λS=>.t1 _ O,λf3 Q=>?_⟩;refine .go 2 O ?_;exact h3 f3 M v _ y (decide (v≠0)) j _ O ⟨rfl,rfl,rfl,rfl,aE⟩
def ai2(a:C.f=269)(r:Cd C Tryz.f269 (ON z J L l F))(f:Nat)(u1:f<=F)(X:∀m,m<f->vm z J C L l m)(T:Mu.Th)(I:Int)(B:T.pc=.c2)(hl:T.left=l)(Q:T.old.c<=6)(g:T.ws=decide (I≠0))(hg:Mu.Good T){E:Env}(hE:gR E ((7,.v (.int .i32 (Mu.enc (Mu.nw T))))::CJ z T I)):
  W (C.to (LZ z f ⟨.lk,T,J⟩)) 139 [] (.code lsS::.inBlock 1::El) E [] L:=by
 let o:C.kd≠.early:=lZ
 obtain⟨pc,⟨i,q,t,d⟩,K,y,n,j,left,x⟩:=T;simp only at B hl Q g;subst hl B;refine .kI (B':=[]) hE qy ?_;let k:∀(S:Mu.Sh),S.w≠⟨i,q,t,d⟩->Mu.Step {pc:=.c2,old:=⟨i,q,t,d⟩,aw:=K,sv:=y,ws:=n,it:=j,left:=left,h:=x} S {pc:=.r3,old:=⟨i,q,t,d⟩,aw:=K,sv:=y,ws:=n,it:=j,left:=left,h:=x} S:=λS e=>.c2n rfl e;let again:∀{G:Nat} {E:Env},f=G+1->gR E (CJ z {pc:=.c2,old:=⟨i,q,t,d⟩,aw:=K,sv:=y,ws:=n,it:=j,left:=left,h:=x} I)->
   W (C.to (LZ z G ⟨.lk,{pc:=.r3,old:=⟨i,q,t,d⟩,aw:=K,sv:=y,ws:=n,it:=j,left:=left,h:=x},J⟩)) 139 [] (.code (match lsS with | .seq _ (.cond _ _ c)=>c | _=>.skip)::.inBlock 1::El) E [] L:=by
  intro G E D hs;refine .kI (B':=[]) hs qy ?_;refine .g O ?_;refine W.Tq (b:=z.b) (u:=false) (T:={pc:=.r3,old:=⟨i,q,t,d⟩,aw:=K,sv:=y,ws:=n,it:=j,left:=left,h:=x}) (J:=J) z.xo (by show(Tryz.prog.funcs[C.f]?).any (·.norace)=true;rw[a,Tryz.func269];rfl) O r.ro o E5 O O O O λS H=>⟨_,.r0 (.inr O),λf3 u2=>?_⟩;refine .go 7 O ?_;refine W.fA ?_;refine .a (E':=CJ z {pc:=.r3,old:=S.w,aw:=K,sv:=y,ws:=n,it:=j,left:=left,h:=x} I) (B':=[]) ?_;exact X f3 M {pc:=.r3,old:=S.w,aw:=K,sv:=y,ws:=n,it:=j,left:=left,h:=x} I O H.c6 g (H.next (.r0 (.inr O)))
 refine .g O ?_
 by_cases R:i=true\/t=true
 .refine W.JS (b:=z.b) (u:=false) (T:={pc:=.c2,old:=⟨i,q,t,d⟩,aw:=K,sv:=y,ws:=n,it:=j,left:=left,h:=x}) (J:=J) (old:=⟨i,q,t,d⟩) (nw:=Mu.nw {pc:=.c2,old:=⟨i,q,t,d⟩,aw:=K,sv:=y,ws:=n,it:=j,left:=left,h:=x}) (Ty:={pc:=if n then .s1 else .t1,old:=⟨i,q,t,d⟩,aw:=false,sv:=y,ws:=n,it:=j,left:=left,h:=x}) (Tn:={pc:=.r3,old:=⟨i,q,t,d⟩,aw:=K,sv:=y,ws:=n,it:=j,left:=left,h:=x}) z.xo gD.func gD.name gD.body gD.next gD.find O r.ro o O O O O O O (λS H e=>.c2q O e R) (λS H e=>k S e) (λG D=>?_) (λG D=>?_)
  .refine .go 2 O (.T O (.g O ?_));rw[AR ⟨i,q,t,d⟩ Q];let p:(Mu.bi i+4 *Mu.bi t==0)=false:=by rcases R with e | e <;> cases i <;> cases t <;> first | rfl | cases e
   rw[p];refine .F O (.go 2 O ?_);have:Ha {pc:=if n then .s1 else .t1,old:=⟨i,q,t,d⟩,aw:=false,sv:=y,ws:=n,it:=j,left:=left,h:=x}=.lk:=by cases n <;> rfl
   show W (C.to (LZ z G ⟨Ha _,_,J⟩)) _ _ _ _ _ _;rw[this];exact ai1 a r G M (λm hm=>X m M) {pc:=if n then .s1 else .t1,old:=⟨i,q,t,d⟩,aw:=false,sv:=y,ws:=n,it:=j,left:=left,h:=x} I O O O Q g ⟨rfl,rfl,rfl,aE⟩
  .refine .go 2 O (.F O (.go 1 O ?_));refine again D ?_;exact⟨rfl,rfl,rfl,rfl,rfl,rfl,aE⟩
 .simp only[not_or,Cf] at R;obtain⟨rfl,rfl⟩:=R;refine W.JS (b:=z.b) (u:=false) (T:={pc:=.c2,old:=⟨false,q,false,d⟩,aw:=K,sv:=y,ws:=n,it:=j,left:=left,h:=x}) (J:=J) (old:=⟨false,q,false,d⟩) (nw:=Mu.nw {pc:=.c2,old:=⟨false,q,false,d⟩,aw:=K,sv:=y,ws:=n,it:=j,left:=left,h:=x}) (Ty:={pc:=.own,left:=left}) (Tn:={pc:=.r3,old:=⟨false,q,false,d⟩,aw:=K,sv:=y,ws:=n,it:=j,left:=left,h:=x}) z.xo gD.func gD.name gD.body gD.next gD.find O r.ro o O O O O O O (λS H e=>.c2o O e O O) (λS H e=>k S e) (λG D=>?_) (λG D=>?_)
  .refine .go 2 O (.T O (.g O ?_));rw[AR ⟨false,q,false,d⟩ Q];let p:(Mu.bi ({l:=false,w:=q,s:=false,c:=d}:Mu.Wd).l+4 *Mu.bi ({l:=false,w:=q,s:=false,c:=d}:Mu.Wd).s==0)=true:=rfl;rw[p];refine .T O (.go 2 O ?_);refine HZ (C:=C) r G M ?_
   rfl
  .refine .go 2 O (.F O (.go 1 O ?_));refine again D ?_;exact⟨rfl,rfl,rfl,rfl,rfl,rfl,aE⟩
def afw(hf:C.f=269)(r:Cd C Tryz.f269 (ON z J L l F))(f:Nat)(R:f<=F)(ih:∀m,m<f->vm z J C L l m)(T:Mu.Th)(n:Int)(a:T.pc=.c2)(o:T.left=l)(b:T.old.c<=6)(g:T.ws=decide (n≠0))(X:Mu.Good T):
  W (C.to (LZ z f ⟨.lk,T,J⟩)) 139 [] (.code Tj::.inBlock 1::El) (CJ z T n) [] L:=by
 let j:=λE=>@ai2 z J C L l F hf r f R ih T n a o b g X E;obtain⟨pc,⟨i,t,os,d⟩,I,y,K,D,left,u⟩:=T;simp only at a o b g j ⊢;subst o a;let x:I=true->t=true:=λe=>X.aw (.inr rfl) e;let S:∀(E:Env),gR E ((7,.v (.int .i32 (Mu.enc ⟨i||!os,t,os||(y&&i),d+if i||os then 1 else 0⟩)))::CJ z {pc:=.c2,old:=⟨i,t,os,d⟩,aw:=I,sv:=y,ws:=K,it:=D,left:=left,h:=u} n)->W (C.to (LZ z f ⟨.lk,{pc:=.c2,old:=⟨i,t,os,d⟩,aw:=I,sv:=y,ws:=K,it:=D,left:=left,h:=u},J⟩)) 139 [] (.code lsB::.inBlock 1::El) E [] L:=by
  intro E G;let Q:d+(if(i||os)=true then 1 else 0)<=7:=Ga
  refine .kI (B':=[]) G qy ?_;cases I with
  | false=>
   refine .go 5 O (.Q O (.go 2 O ?_));refine j _ ?_;have:Mu.nw {pc:=.c2,old:=⟨i,t,os,d⟩,aw:=false,sv:=y,ws:=K,it:=D,left:=left,h:=u}=⟨i||!os,t,os||(y&&i),d+if i||os then 1 else 0⟩:=by simp[Mu.nw]
   rw[this];exact⟨rfl,rfl,rfl,rfl,rfl,rfl,rfl,aE⟩
  | true=>
   obtain rfl:=x rfl;refine .g O (.R O (.g O ?_));rw[VB _ Q];refine .Q O (.go 9 O (.u O (Vf.abJ O O (VC _ Q)) (.go 2 O ?_)));refine j _ ?_;have:Mu.nw {pc:=.c2,old:=⟨i,true,os,d⟩,aw:=true,sv:=y,ws:=K,it:=D,left:=left,h:=u}=⟨i||!os,false,os||(y&&i),d+if i||os then 1 else 0⟩:=by simp[Mu.nw]
   rw[this];exact⟨rfl,rfl,rfl,rfl,rfl,rfl,rfl,aE⟩
 let B:∀(E:Env),gR E ((7,.v (.int .i32 (Mu.enc ⟨i||!os,t,os,d+if i||os then 1 else 0⟩)))::CJ z {pc:=.c2,old:=⟨i,t,os,d⟩,aw:=I,sv:=y,ws:=K,it:=D,left:=left,h:=u} n)->W (C.to (LZ z f ⟨.lk,{pc:=.c2,old:=⟨i,t,os,d⟩,aw:=I,sv:=y,ws:=K,it:=D,left:=left,h:=u},J⟩)) 139 [] (.code lsA::.inBlock 1::El) E [] L:=by
  intro E G;let Q:d+(if(i||os)=true then 1 else 0)<=7:=Ga
  refine .kI (B':=[]) G qy ?_;refine .g O ?_;cases y with
  | false=>
   refine .di 61 (p:=false) O O ?_;refine .go 7 O ?_;refine S _ ?_;rw[yQ,Bool.or_false];exact⟨rfl,rfl,rfl,rfl,rfl,rfl,rfl,aE⟩
  | true=>
   refine .di 61 (p:=true) O O ?_;refine .g O ?_;rw[Np ⟨i,t,os,d⟩ b];cases i with
   | true=>
    let k:(Mu.bi ({l:=true,w:=t,s:=os,c:=d}:Mu.Wd).l !=0)=true:=rfl;rw[k];refine .R O (.go 6 O ?_);rw[ZD _ Q];refine S _ ?_;rw[show(os||(true&&true))=true by simp];exact⟨rfl,rfl,rfl,rfl,rfl,rfl,rfl,aE⟩
   | false=>
    let k:(Mu.bi ({l:=false,w:=t,s:=os,c:=d}:Mu.Wd).l !=0)=false:=rfl;rw[k];refine .Q O (.go 2 O ?_);refine S _ ?_;rw[show(os||(true&&false))=os by simp];exact⟨rfl,rfl,rfl,rfl,rfl,rfl,rfl,aE⟩
 let q:∀(E:Env),gR E ((7,.v (.int .i32 (Mu.enc ⟨i||!os,t,os,d⟩)))::CJ z {pc:=.c2,old:=⟨i,t,os,d⟩,aw:=I,sv:=y,ws:=K,it:=D,left:=left,h:=u} n)->W (C.to (LZ z f ⟨.lk,{pc:=.c2,old:=⟨i,t,os,d⟩,aw:=I,sv:=y,ws:=K,it:=D,left:=left,h:=u},J⟩)) 139 [] (.code lsX::.inBlock 1::El) E [] L:=by
  intro E G;refine .kI (B':=[]) G qy ?_;refine .g O ?_;rw[AR ⟨i,t,os,d⟩ b]
  by_cases H:i=true\/os=true
  .let k:(Mu.bi i+4 *Mu.bi os !=0)=true:=by rcases H with e | e <;> cases i <;> cases os <;> first | rfl | cases e
   rw[k];refine .R O (.go 6 O ?_);rw[ZG _ b];refine B _ ?_;rw[ax (by simpa using H)];exact⟨rfl,rfl,rfl,rfl,rfl,rfl,rfl,aE⟩
  .let k:(Mu.bi i+4 *Mu.bi os !=0)=false:=by
    simp only[not_or,Cf] at H;obtain⟨rfl,rfl⟩:=H
    rfl
   rw[k];refine .Q O (.go 2 O ?_);refine B _ ?_;rw[A (by simpa using H),pT];exact⟨rfl,rfl,rfl,rfl,rfl,rfl,rfl,aE⟩
 refine .g O ?_;rw[AQ ⟨i,t,os,d⟩ b];cases os with
 | true=>
  let k:(4 *Mu.bi ({l:=i,w:=t,s:=true,c:=d}:Mu.Wd).s==0)=false:=rfl;rw[k];refine .Q O (.go 2 O ?_);refine q _ ?_;rw[show(i||!true)=i by simp];exact⟨rfl,rfl,rfl,rfl,rfl,rfl,rfl,aE⟩
 | false=>
  let k:(4 *Mu.bi ({l:=i,w:=t,s:=false,c:=d}:Mu.Wd).s==0)=true:=rfl;rw[k];refine .R O (.go 6 O ?_);rw[ach _ b];refine q _ ?_;rw[show(i||!false)=true by simp];exact⟨rfl,rfl,rfl,rfl,rfl,rfl,rfl,aE⟩
def Ri{k:Nat}(h:k<1000):IntKind.i64.wrap ((k:Int)+1)=((k+1:Nat):Int):=by
 rw[IntKind.wrap_i64];omega
def Wm{C:Cx Tryz.prog}(a:C.f=269):(Tryz.prog.funcs[C.f]?).any (·.norace)=true:=by rw[a,Tryz.func269];rfl
def ac0(v:C.f=269)(r:Cd C Tryz.f269 (ON z J L l F))(f:Nat)(d:f<=F)(t:∀m,m<f->vm z J C L l m)(T:Mu.Th)(n:Int)(a:T.pc=.r1)(c:T.left=l)(i:T.it<4)(g:T.ws=decide (n≠0)):
  W (C.to (LZ z f ⟨.lk,T,J⟩)) 139 [] (.code lsP::.code Tj::.inBlock 1::El) (CJ z T n) [] L:=by
 let o:C.kd≠.early:=lZ
 refine .v O (Ef.ext O (pK.pure ae2 λ_ _ _=>rfl)) ?_;rintro _ _ _ ⟨_,rfl,rfl,rfl,rfl⟩;refine .g O ?_;rw[Ri (by omega)];refine W.Tq (u:=false) (T:=T) (J:=J) z.xo (Wm v) O r.ro o E5 O O O O λS q=>⟨_,.r1 a,λj y=>?_⟩;refine .go 7 O ?_;refine W.fA ?_;refine .a (E':=CJ z {T with old:=S.w,it:=T.it+1} n) (B':=[]) ?_;exact t j M {T with old:=S.w,it:=T.it+1} n c q.c6 g (q.next (.r1 a))
def acZ(B:C.f=269)(r:Cd C Tryz.f269 (ON z J L l F)):∀f,f<=F->vm z J C L l f:=by
 let o:C.kd≠.early:=lZ
 intro f
 induction f using Nat.strongRecOn with
 | _ f ih=>
 intro G;replace ih:∀m,m<f->vm z J C L l m:=λm D=>ih m D M;rintro⟨pc,⟨ol,ow,os,oc⟩,aw,sv,ws,it,left,hh⟩ HN hl hc VS hg;simp only at hl hc VS;subst hl;let e5:=AR ⟨ol,ow,os,oc⟩ hc;let s:∀{E:Env} {t:Nat} {pc':Mu.Pc} {g:Mu.Good {pc:=.c2,old:=⟨ol,ow,os,oc⟩,aw:=aw,sv:=sv,ws:=ws,it:=it,left:=left,h:=hh}},t<=F->(∀m,m<t->vm z J C L left m)->gR E (CJ z {pc:=.c2,old:=⟨ol,ow,os,oc⟩,aw:=aw,sv:=sv,ws:=ws,it:=it,left:=left,h:=hh} HN)->
   W (C.to (LZ z t ⟨.lk,{pc:=.c2,old:=⟨ol,ow,os,oc⟩,aw:=aw,sv:=sv,ws:=ws,it:=it,left:=left,h:=hh},J⟩)) 139 [] (.code Tj::.inBlock 1::El) E [] L:=by
  intro E t _ g j i a;exact .kI a qy (afw B r t j i _ HN O O hc VS g)
 refine .a (E':=[(0,.v (mT ⟨z.X,5,none⟩)),(2,.v (.int .i64 HN)),(3,.v (.bool sv)),(4,.v (.bool aw)),(5,.v (.int .i64 it)),(6,.v (.int .i32 (Mu.enc ⟨ol,ow,os,oc⟩)))]) (B':=[]) ?_;let w:∀{E:Env} {t:Nat} {T:Mu.Th},t<f->T.pc=.r1->T.left=left->T.it<4->T.ws=decide (HN≠0)->gR E (CJ z T HN)->W (C.to (LZ z t ⟨.lk,T,J⟩)) 139 [] (.code lsP::.code Tj::.inBlock 1::El) E [] L:=by
  intro E t T q h2 h3 x k a;exact .kI a qy (ac0 B r t M (λm D=>ih m M) T HN h2 h3 x k)
 by_cases d:ol=true/\os=false
 .obtain⟨rfl,rfl⟩:=d;refine .g O ?_;rw[e5];refine .di 17 (p:=true) O O ?_;refine .g O ?_;let no:∀{E:Env} {t:Nat},t<=F->(∀m,m<t->vm z J C L left m)->gR E (CJ z {pc:=.c2,old:=⟨true,ow,false,oc⟩,aw:=aw,sv:=sv,ws:=ws,it:=it,left:=left,h:=hh} HN)->
    W (C.to (LZ z t ⟨.lk,{pc:=.c2,old:=⟨true,ow,false,oc⟩,aw:=aw,sv:=sv,ws:=ws,it:=it,left:=left,h:=hh},J⟩)) 139 [] (.code Tj::.inBlock 1::El) E [] L:=λj i a=>s (pc':=.c2) (g:=⟨λ_=>hg.lp rfl,λe=>eA,λe=>eA,λ_=>hg.aw (.inl rfl),hg.it,λe=>eA,λe=>eA,λe=>lB,λe=>lB⟩) j i a
  by_cases y:aw=false/\ow=false/\oc≠0
  .obtain⟨rfl,rfl,I⟩:=y;refine W.X8 (b:=z.b) (u:=false) (T:={pc:=.sq,old:=⟨true,false,false,oc⟩,aw:=false,sv:=sv,ws:=ws,it:=it,left:=left,h:=hh}) (J:=J) (Tt:={pc:=.c1,old:=⟨true,false,false,oc⟩,aw:=false,sv:=sv,ws:=ws,it:=it,left:=left,h:=hh}) (Tn:={pc:=.c2,old:=⟨true,false,false,oc⟩,aw:=false,sv:=sv,ws:=ws,it:=it,left:=left,h:=hh})
    rD.func rD.name rD.body rD.next rD.find O r.ro o O O O O (λx S=>.sqc O (show it<4 by omega) O O I) (λS=>.sqn O) (λx H K=>?_) (λH K=>?_)
   .refine .N O (.g O ?_);let q:it<4:=by omega
    refine .di 23 (p:=true) O O ?_;refine .g O ?_;rw[Nq ⟨true,false,false,oc⟩ hc];refine .di 28 (p:=true) O O ?_;refine .g O ?_;rw[zw,show(((⟨true,false,false,oc⟩:Mu.Wd).c:Int) !=0)=true by simpa using I];refine .di 33 (p:=true) O O ?_;refine .g O ?_;rw[SB ⟨true,false,false,oc⟩ hc];refine W.JS (b:=z.b) (u:=false) (T:={pc:=.c1,old:=⟨true,false,false,oc⟩,aw:=false,sv:=sv,ws:=ws,it:=it,left:=left,h:=hh}) (J:=J) (old:=⟨true,false,false,oc⟩) (nw:=⟨true,true,false,oc⟩) (Ty:={pc:=.r1,old:=⟨true,false,false,oc⟩,aw:=true,sv:=sv,ws:=ws,it:=it,left:=left,h:=hh}) (Tn:={pc:=.r1,old:=⟨true,false,false,oc⟩,aw:=false,sv:=sv,ws:=ws,it:=it,left:=left,h:=hh}) z.xo gD.func gD.name gD.body gD.next gD.find O r.ro o O O O O O O (λS n e=>?_) (λS n e=>.c1n O e) (λf2 Q=>?_) (λf2 Q=>?_)
    .have:=Mu.Step.c1y (T:={pc:=.c1,old:=⟨true,false,false,oc⟩,aw:=false,sv:=sv,ws:=ws,it:=it,left:=left,h:=hh}) rfl e;rw[e] at this;exact this
    .refine .go 2 O (.T O (.go 4 O ?_));refine W.AA 4 O ?_;exact w (T:={pc:=.r1,old:=⟨true,false,false,oc⟩,aw:=true,sv:=sv,ws:=ws,it:=it,left:=left,h:=hh}) M O O q VS ⟨rfl,rfl,rfl,rfl,rfl,rfl,aE⟩
    .refine .go 2 O (.F O (.go 2 O ?_));exact w (T:={pc:=.r1,old:=⟨true,false,false,oc⟩,aw:=false,sv:=sv,ws:=ws,it:=it,left:=left,h:=hh}) M O O q VS ⟨rfl,rfl,rfl,rfl,rfl,rfl,aE⟩
   .refine .K O (.go 2 O ?_);refine no M (λm D=>ih m M) ?_;exact⟨rfl,rfl,rfl,rfl,rfl,rfl,aE⟩
  .refine W.X8 (b:=z.b) (u:=false) (T:={pc:=.sq,old:=⟨true,ow,false,oc⟩,aw:=aw,sv:=sv,ws:=ws,it:=it,left:=left,h:=hh}) (J:=J) (Tt:={pc:=.r1,old:=⟨true,ow,false,oc⟩,aw:=aw,sv:=sv,ws:=ws,it:=it,left:=left,h:=hh}) (Tn:={pc:=.c2,old:=⟨true,ow,false,oc⟩,aw:=aw,sv:=sv,ws:=ws,it:=it,left:=left,h:=hh})
    rD.func rD.name rD.body rD.next rD.find O r.ro o O O O O (λx S=>.sqr O (show it<4 by omega)) (λS=>.sqn O) (λx H K=>?_) (λH K=>?_)
   .refine .N O (.g O ?_);let q:it<4:=by omega
    cases aw with
    | true=>
     refine .di 23 (p:=false) O O ?_;refine .go 21 O ?_;exact w (T:={pc:=.r1,old:=⟨true,ow,false,oc⟩,aw:=true,sv:=sv,ws:=ws,it:=it,left:=left,h:=hh}) M O O q VS ⟨rfl,rfl,rfl,rfl,rfl,rfl,aE⟩
    | false=>
     refine .di 23 (p:=true) O O ?_;refine .g O ?_;rw[Nq ⟨true,ow,false,oc⟩ hc];cases ow with
     | true=>
      refine .di 28 (p:=false) O O ?_;refine .go 16 O ?_;exact w (T:={pc:=.r1,old:=⟨true,true,false,oc⟩,aw:=false,sv:=sv,ws:=ws,it:=it,left:=left,h:=hh}) M O O q VS ⟨rfl,rfl,rfl,rfl,rfl,rfl,aE⟩
     | false=>
      have I:oc=0:=qF λe=>y ⟨rfl,rfl,e⟩;subst I;refine .di 28 (p:=true) O O ?_;refine .g O ?_;rw[zw];refine .di 33 (p:=false) O O ?_;refine .go 11 O ?_;exact w (T:={pc:=.r1,old:=⟨true,false,false,0⟩,aw:=false,sv:=sv,ws:=ws,it:=it,left:=left,h:=hh}) M O O q VS ⟨rfl,rfl,rfl,rfl,rfl,rfl,aE⟩
   .refine .K O (.go 2 O ?_);refine no M (λm D=>ih m M) ?_;exact⟨rfl,rfl,rfl,rfl,rfl,rfl,aE⟩
 .let R:Mu.hd ({pc:=pc,old:=⟨ol,ow,os,oc⟩,aw:=aw,sv:=sv,ws:=ws,it:=it,left:=left,h:=hh}:Mu.Th)={pc:=.c2,old:=⟨ol,ow,os,oc⟩,aw:=aw,sv:=sv,ws:=ws,it:=it,left:=left,h:=hh}:=by
   unfold Mu.hd;rw[A (by simpa using d)]
  rw[R] at hg ⊢;refine .g O ?_;rw[e5];let e1:(Mu.bi ol+4 *Mu.bi os==1)=false:=by cases ol <;> cases os <;> first | rfl | exact ar ⟨rfl,rfl⟩ d
  rw[e1];refine .di 17 (p:=false) O O ?_;refine .go 6 O ?_;exact s (pc':=.c2) (g:=hg) G ih ⟨rfl,rfl,rfl,rfl,rfl,rfl,aE⟩
end
def ahw(z:RZ)(J:bD)(L:LH)(l f:Nat):pL (LZ z f ⟨.lk,{pc:=.r0,left:=l},J⟩) 269 [mT ⟨z.X,5,none⟩] L (ON z J L l f):=by
 refine pL.enter Tryz.func269 O O O O λC j a d r=>?_;have o:C.kd≠.early:=lZ
 let⟨p,x,v,wY,h,i,q⟩:=C;obtain rfl:p=_:=j;refine .g O (W.Tq (b:=z.b) (u:=false) (T:={pc:=.r0,left:=l}) (J:=J) z.xo (by show(Tryz.prog.funcs[x]?).any (·.norace)=true;rw[show x=269 from a,Tryz.func269];rfl) O r.ro o E5 O O O O λS t=>⟨_,.r0 (.inl O),λm g=>?_⟩);refine .go 5 O (W.mD ?_);refine W.AA 3 O (W.AA 4 O ?_);refine .a (acZ (C:=⟨LZ z f ⟨.lk,{pc:=.r0,left:=l},J⟩,x,v,wY,h,i,q⟩) a r m M {pc:=.r0,old:=S.w,left:=l} 0 O t.c6 O (t.next (.r0 (.inl O))))
def afh(z:RZ)(J:bD)(L:LH)(l f:Nat)(D:l≠0)(i:Nat)(F:J=i)(G:z.keep i=true):pL (LZ z f ⟨.idle,{pc:=.out,left:=l},J⟩) 257 [mT ⟨z.X,5,none⟩] L (ON z J L (l - 1) f):=by
 refine pL.enter Tryz.func257 O O O O λC j a H r=>?_;have o:C.kd≠.early:=lZ
 let⟨p,x,Q,wY,h,R,B⟩:=C;obtain rfl:p=_:=j;refine .g O (W.mkP (b:=z.b) (T:={pc:=.out,left:=l}) (h:=⟨.idle,{pc:=.out,left:=l},J⟩) (s2:=⟨.lk,{pc:=.l0,left:=l - 1},J⟩) .disable U jc.func jc.name jc.body jc.next jc.find O r.ro o (λE g0 c L' _ q y k=>?_) O O O λf1 d=>?_)
 .exact⟨q,.inr ⟨Nat.pos_of_ne_zero D,⟨i,F,G⟩,c,y,k⟩⟩
 refine .g O (W.JS (b:=z.b) (u:=false) (T:={pc:=.l0,left:=l - 1}) (J:=J) (old:=Mu.Wd.zero) (nw:=⟨true,false,false,0⟩) (Ty:={pc:=.own,left:=l - 1}) (Tn:={pc:=.r0,left:=l - 1}) z.xo gD.func gD.name gD.body gD.next gD.find O r.ro o O O O O O O (λS hF e=>.l0y O e) (λS hF e=>.l0n O e) (λm t=>?_) (λm t=>?_))
 .refine .g O (.R O (.g O (W.mkP (b:=z.b) (T:={pc:=.own,left:=l - 1}) (h:=⟨.got,{pc:=.own,left:=l - 1},J⟩) (s2:=⟨.Ea,{pc:=.own,left:=l - 1},J⟩) .enable U dK.func dK.name dK.body dK.next dK.find O r.ro o (λE g0 c L' _ q y k=>⟨q,c,y,k⟩) O O O λf1 d=>?_)));refine .g O (W.Cu rfl r.ro o Tryz.underlying420 Tryz.underlying266 aN (λw hw=>let⟨v,g⟩:=(P5 hw).1;⟨_,g⟩) rfl rfl rfl rfl ?_);refine W.ada jd.func jd.name jd.body jd.next jd.find O r.ro o O O O O λm K t I=>(.g O ?_);exact W.mO (r.to _) (.inr ⟨_,rfl⟩) O O ⟨m,K,M,rfl,I,rfl,rfl⟩
 .refine .g O (.Q O (.g O (W.oF (args:=[mT ⟨z.X,5,none⟩]) O O O O (ahw z J L (l - 1) m) ?_)));rintro Y v _ ⟨f4,K,u1,rfl,I,rfl,rfl⟩;refine .g O (W.mO (r.to _) (.inl O) O O ⟨f4,K,M,rfl,I,rfl,rfl⟩)
def aht(z:RZ)(J:bD)(L:LH)(l f:Nat)(o:l≠0)(i:Nat)(t:J=i)(m:z.keep i=true):pL (LZ z f ⟨.idle,{pc:=.out,left:=l},J⟩) 237 [mT ⟨z.X,5,none⟩] L (ON z J L (l - 1) f):=by
 refine pL.enter Tryz.func237 O O O O λC j a d r=>?_;let⟨p,x,e,wY,h,u,q⟩:=C;obtain rfl:p=_:=j;refine .g O (W.oF (args:=[mT ⟨z.X,5,none⟩]) O O O O (afh z J L l f o i t m) ?_);rintro Y v _ ⟨g,K,c,rfl,y,rfl,rfl⟩;refine .g O (W.mO (r.to _) (.inl O) O O ⟨g,K,M,rfl,y,rfl,rfl⟩)
end Go.Mz
set_option maxRecDepth 100000
namespace Go.Mz
open Go.Conc
variable {P:aV}{α:Type}{n k m:Nat}{L R J:LH}{t e:bh}{w u:World}{h:α->List Value}{c:Int}{B:aX}{x:aW}{Y:Trace}{l:aH}{r:List α}{s:Sw}{q:aU}{Q:bC}{E:cK}{j:aR}{D:bt}{d:bA}{F:Env}{g:aT}{o:bD}{C:bH}{N:Nm}{K:bI}{z:SV}{I:cj}{H:ck}{X:aM Proofs.Tryz.prog}
section
open Go.Proofs
def XX(n:Int):Value:=if n=0 then .iface 296 (.agg #[]) else if n=1 then .iface 293 (.agg #[]) else .iface 297 (.agg #[])
abbrev HL(s:ei):Value:=.agg (cJ s).toArray
def afP(g:Int)(L:LH):Sp X 318 [.agg #[],g] L (λv u=>v=HL ⟨g,g⟩/\L=u):=by
 refine Sp.e Tryz.func318 O λC j d r=>(.g O ?_);exact .r r O ⟨rfl,rfl⟩
def ZB(g:Int)(L:LH)(h:0<=g/\g<=1000):Sp X 319 [.agg #[],g] L (λv u=>v=HL ⟨g+1,40⟩/\L=u):=by
 refine Sp.e Tryz.func319 O λC j d r=>(.g O ?_);rw[wrap64_in (g+1) M M];exact .r r O ⟨rfl,rfl⟩
def VX(g:Int)(L:LH)(h:0<=g/\g<=1000):Sp X 320 [.agg #[],g] L (λv u=>v=HL ⟨0,g - 1⟩/\L=u):=by
 refine Sp.e Tryz.func320 O λC j d r=>(.g O ?_);rw[wrap64_in (g - 1) M M];exact .r r O ⟨rfl,rfl⟩
def Si{C:Cx Tryz.prog}{E:cK}{B:aX}{L:LH}{w:fD}{p:bh}{s:ck}{l:cR}{o:cZ}{y z:aW}{d:fX}(n g:Int)(h:n=0\/n=1\/n=2)(q:0<=g/\g<=1000)(u:bZ E y=XX n)(i:bZ E z=g):
  Ef C ⟨w,.call {callee:=.invoke y "muscovado/glass.colours",args:=#[z],argTypes:=d},p,s,l,o⟩ E B L (qM B λv f=>v=HL (vx n g)/\L=f):=by
 let k:nJ E [z]=some [.int .i64 g]:=by
  unfold nJ zy zy;rw[i]
  rfl
 rcases h with rfl | rfl | rfl
 .exact Ef.inv u O k (λQ H R=>by kernel_rfl) (.inl (ZB g L q))
 .exact Ef.inv u O k (λQ H R=>by kernel_rfl) (.inl (afP g L))
 .exact Ef.inv u O k (λQ H R=>by kernel_rfl) (.inl (VX g L q))
def VK{E:cK}{B:aX}{L:LH}{x:aW}(n:Int)(h:n=0\/n=1\/n=2)(u:bZ E x=some (.f (.method "muscovado/glass.colours") [XX n] [])):Vf Tryz.prog (.nilCheck x) E B L (.v (.func (.method "muscovado/glass.colours") #[XX n] #[])):=by
 rcases h with rfl | rfl | rfl
 .exact Vf.J0 u O O λQ H R=>by kernel_rfl
 .exact Vf.J0 u O O λQ H R=>by kernel_rfl
 .exact Vf.J0 u O O λQ H R=>by kernel_rfl
def acC(n:Int)(L:LH)(h:n=0\/n=1\/n=2):Sp X 235 [n] L (λv u=>v=XX n/\L=u):=by
 rcases h with rfl | rfl | rfl
 .refine Sp.e Tryz.func235 O λC j d r=>(.G O (Vf.index (i:=0) O O O Tryz.underlying406 KU OX V O) (.g O ?_));exact .r r O ⟨rfl,rfl⟩
 .refine Sp.e Tryz.func235 O λC j d r=>(.G O (Vf.index (i:=1) O O O Tryz.underlying406 KU OX V O) (.g O ?_));exact .r r O ⟨rfl,rfl⟩
 .refine Sp.e Tryz.func235 O λC j d r=>(.G O (Vf.index (i:=2) O O O Tryz.underlying406 KU OX V O) (.g O ?_));exact .r r O ⟨rfl,rfl⟩
def PV(a b:Int):(if b>a then b else a)=max a b:=M
def PX(a b:Int):(if b<a then b else a)=min a b:=M
def ac9(a:Int):(if a>0 then a else 0)=max 0 a:=M
def PW(a b:ei)(L:LH):Sp X 234 [HL a,HL b] L (λv u=>v=HL (iD a b)/\L=u):=by
 refine Sp.e Tryz.func234 O λC j d r=>(.g O ?_);rw[PV,PX];exact .r r O ⟨rfl,rfl⟩
def uJ(s:ei)(L:LH)(h:-1000<=s.lo/\s.lo<=1000/\-1000<=s.hi/\s.hi<=1000):Sp X 236 [HL s] L (λv u=>v=dM s/\L=u):=by
 refine Sp.e Tryz.func236 O λC j d r=>(.g O ?_);rw[wrap64_in (s.hi - s.lo) M M,wrap64_in (s.hi - s.lo+1) M M,ac9];exact .r r O ⟨rfl,rfl⟩
def py(f:aH):List Int:=[f.getD 0 0,f.getD 1 0,f.getD 2 0,f.getD 3 0]
structure RJ(X:aM Tryz.prog)(L:LH)(b:Nat)(r:Ro)(p:BP):Prop where
 h0:Rd X L ⟨b,0,none⟩ (.slice p.a0 r.au.length p.c0)
 h3:Rd X L ⟨b,3,none⟩ (.slice p.a3 r.samples.length p.c3)
def RJ.le{r:Ro}{p:BP}(h:RJ X L n r p)(o:Le L R):RJ X R n r p:=⟨h.h0.le o,h.h3.le o⟩
def Zy{t:Ro}{p:BP}(f:aH)(i:Nat)(y:Int)(L:LH)(b:mH t)(J:RJ X L k t p)(c:bz L p.a0 4 kg t.au)(K:∀i,0<=f.getD i 0/\f.getD i 0<=3)(h:i<t.au)(T:0<=y/\y<=60):
  Sp X 123 [pt k,.agg ((py f).map (Value.int .i64)).toArray,i,y] L (λv D=>v=mj t f i y/\L=D):=by
 let x:=b.g4;obtain⟨F,a1,m,B,E,k0,k1,l,k3,k4⟩:=p;obtain⟨a,s⟩:=c.addr h;obtain rfl:F=a:=s;have o:=c.whole (bX h) rfl;have G:=b.gl _ (fY h);have H:=K i;have I:t.au.getD i ⟨0,0,⟨0,0⟩⟩=t.au[i]:=by rw[dL,bX h];rfl
 generalize w:t.au[i]=g at o G I;have Q:IntKind.i64.wrap (y - g.made)=y - g.made:=wrap64_in _ M M;have hb:-1000<=f.getD i 0 * (y - g.made)/\f.getD i 0 * (y - g.made)<=1000:=by
  have q:f.getD i 0=0\/f.getD i 0=1\/f.getD i 0=2\/f.getD i 0=3:=M
  rcases q with e | e | e | e <;> rw[e] <;> omega
 have R:IntKind.i64.wrap (f.getD i 0 * (y - g.made))=f.getD i 0 * (y - g.made):=wrap64_in _ M M;have u:IntKind.i64.wrap (g.jR - f.getD i 0 * (y - g.made))=g.jR - f.getD i 0 * (y - g.made):=wrap64_in _ M M;have d:mj t f i y=max 0 (g.jR - f.getD i 0 * (y - g.made)):=by unfold mj;rw[I]
 have z:nth (cL (.v (.agg ((py f).map (Value.int .i64)).toArray))) (0+i * 1)=f.getD i 0:=by
  match i,(show i<4 by omega) with
  | 0,_=>rfl
  | 1,_=>rfl
  | 2,_=>rfl
  | 3,_=>rfl
 refine Sp.e (n:=30) Tryz.func123 O λC j S r=>?_;refine .g O ?_;refine W.rd (by rw[j];exact J.h0) r.ro O O O O O O ?_;refine .G O (Vf.j O O h) (.G O (Vf.q O (o)) (.t O (.run' [0,1,2] O ?_)));refine .u 3 O (Vf.qi O O O O O O ((show i<4 by omega))) (.u 4 O (Vf.vZ O O O O (z)) (.run' [5,6,7,8,9,10,11,12] O (.fin O (.g O ?_))));rw[Q,R,u,ac9,<-d];exact .r r O ⟨rfl,rfl⟩
abbrev ib(f:List Int):List Value:=(py f).map (Value.int .i64)
def ai8(g:eI):List ei:=[g.getD 0 ⟨0,0⟩,g.getD 1 ⟨0,0⟩]
def cF(f:aH)(g:eI)(n:Int):List Value:=ib f++((ai8 g).flatMap cJ++[.int .i64 n])
theorem O6(f:aH)(g:eI)(n:Int):(cF f g n).length=9:=rfl
theorem abW(f:aH){g:eI}(u:g.length<=2)(n:Int):bY (cF f [] n).toArray 4 (g.flatMap cJ)=(cF f g n).toArray:=by
 match g,u with
 | [],_=>rfl
 | [a],_=>rfl
 | [a,b],_=>rfl
theorem aeH(f:aH){g:eI}(u:g.length<=2)(n:Int)(q:k<g)(s:ei):bY (cF f g n).toArray (4+k * 2) (cJ s)=(cF f (g.set k s) n).toArray:=by
 match g,u,k,q with
 | [a],_,0,_=>rfl
 | [a,b],_,0,_=>rfl
 | [a,b],_,1,_=>rfl
theorem aeG(f:aH)(g:eI)(n m:Int):bY (cF f g n).toArray 8 [m]=(cF f g m).toArray:=rfl
theorem abX{g:eI}{j:Bool}(d:L n=some (.cells (cF l g c).toArray e (0,0),j))(z:g.length<=2){s:ei}(q:g[k]?=s):cD L ((Addr.add ⟨n,0,none⟩ 4).add (k * 2)) 2 (cJ s):=by
 refine⟨rfl,λi v u=>?_⟩;rw[bM,bM,bM,jJ];refine aF d ?_;let f:i<2:=(eO.1 u).1
 match g,z,k,q,i,f,u with
 | [a],_,0,q,0,_,u=>obtain rfl:=bR q;exact u
 | [a],_,0,q,1,_,u=>obtain rfl:=bR q;exact u
 | [a,n],_,0,q,0,_,u=>obtain rfl:=bR q;exact u
 | [a,n],_,0,q,1,_,u=>obtain rfl:=bR q;exact u
 | [a,n],_,1,q,0,_,u=>obtain rfl:=bR q;exact u
 | [a,n],_,1,q,1,_,u=>obtain rfl:=bR q;exact u
theorem aiB{g:eI}{j:Bool}(d:L n=some (.cells (cF l g c).toArray e (0,0),j)):L.cell? (Addr.add ⟨n,0,none⟩ 8)=c:=by
 rw[bM,jJ];exact aF d O
def Nz{g:aH}(h:l=g.length)(x:l.length<=4)(e:py l=py g):l=g:=by
 unfold py at e;simp only[List.cons.injEq,and_true] at e;obtain⟨t,p,q,u⟩:=e;refine yU λi=>?_;have j:∀(c:aH) (i:Nat),c[i]?=if i<c then some (c.getD i 0) else none:=λc i=>by
  split
  .rename_i v;rw[dL,bX v];rfl
  .exact mh M
 rw[j l,j g,h]
 split
 .rename_i v
  match i,(show i<4 by omega) with
  | 0,_=>rw[t]
  | 1,_=>rw[p]
  | 2,_=>rw[q]
  | 3,_=>rw[u]
 .rfl
def ag6(f:aH)(g:eI)(n:Int):∀u∈cF f g n,single u=true:=λu q=>by
 rcases fg.1 q with q | q
 .obtain⟨z,_,rfl⟩:=fK.1 q;rfl
 .rcases fg.1 q with q | q
  .let⟨a,_,q⟩:=tp.1 q;exact iz a u q
  .cases dJ.1 q;rfl
def EC(s:ei):Prop:=0<=s.lo/\s.lo<=1000/\-1<=s.hi/\s.hi<=40
def zZ{s:ei}(h:EC s):0<=dM s/\dM s<=41:=by unfold EC at h;unfold dM;omega
def GP{t:Ro}(b:mH t)(a:∀n,0<=l.getD n 0/\l.getD n 0<=3)(i:n<t.au)(d:0<=c/\c<=60):0<=mj t l n c/\mj t l n c<=900:=by
 have u:=b.gl _ (fY i);let v:=a n;let z:t.au.getD n ⟨0,0,⟨0,0⟩⟩=t.au[n]:=by rw[dL,bX i];rfl
 unfold mj;rw[z];generalize t.au[n]=g at u;let q:l.getD n 0=0\/l.getD n 0=1\/l.getD n 0=2\/l.getD n 0=3:=M
 rcases q with e | e | e | e <;> simp only[e] <;> omega
def aaK{s:ei}(h:EC s){g:Int}(n:0<=g/\g<=900):EC (iD s (vx c g)):=by
 unfold EC at *;unfold iD vx
 split
 .simp only;omega
 .split <;> simp only <;> omega
def Pz(r:Ro)(f:aH)(u:sX)(s:Sg):dx r f (u++[s])=(dx r f u).modify s.gU.toNat λx=>iD x (vx s.found (mj r f s.iR.toNat s.year)):=by
 unfold dx;rw[zi];rfl
def Ju{d:Ro}(b:mH d)(a:∀i,0<=l.getD i 0/\l.getD i 0<=3){r:sX}(c:∀s∈r,ID d s):∀x∈dx d l r,EC x:=by
 let o:∀(r:sX) (g:eI),(∀s∈r,ID d s)->(∀x∈g,EC x)->∀x∈r.foldl (λg s=>g.modify s.gU.toNat λx=>iD x (vx s.found (mj d l s.iR.toNat s.year))) g,EC x:=by
  intro r
  induction r with
  | nil=>intro g _ h;exact h
  | cons s r n=>
   intro g q z;refine n _ (λt p=>q t (fG _ p)) λx u=>?_;let⟨i,f⟩:=vr.1 u;rw[List.getElem?_modify] at f;let j:=q s fC;cases v:g[i]? with
   | none=>rw[v] at f;cases f
   | some y=>
    rw[v] at f;let m:=z y (fZ v);obtain rfl:=bR f;simp only
    split
    .exact aaK m (GP b a (by have:=j.g0;have:=j.g1;omega) ⟨j.y0,j.y1⟩)
    .exact m
 refine o r _ c λx u=>?_;have:=b.sp x u;unfold EC;omega
def Ot(o:l.length<=2)(h:∀x∈l,0<=x/\x<=41):0<=fV l/\fV l<=1681:=by
 match l,o with
 | [],_=>exact⟨V,V⟩
 | [a],_=>have:=h a fC;simp[fV] at *;omega
 | [a,b],_=>
  let q:=h a U;let z:=h b U;simp[fV,List.foldl,Int.one_mul] at *;have:=BA q.1 z.1;let r:=Dx q.2 z.2 z.1 V;omega
theorem SU{t:Ro}{p:BP}{b:Nat}(f:aH)(g:bA)(sc:Nat)(I:sX)(L:LH)(hr:mH t)(hd:RJ X L b t p)(u7:bz L p.a0 4 kg t.au)(u2:bz L p.a3 2 cJ t.samples)(hf:∀i,0<=f.getD i 0/\f.getD i 0<=3)(o:bz L g 4 jM I)(u3:∀s∈I,ID t s)(q0:I.length<=1000):
  Sp X 212 [pt b,.agg (ib f).toArray,.slice g I.length sc] L (λv R=>v=.agg (cF f (dx t f I) (eo (dx t f I))).toArray/\Le L R):=by
 have s2:=hr.p2;have hz:[Value.int .i64 (f.getD 0 0),.int .i64 (f.getD 1 0),.int .i64 (f.getD 2 0),.int .i64 (f.getD 3 0),.int .i64 0,.int .i64 0,.int .i64 0,.int .i64 0,.int .i64 1]=cF f [] 1:=rfl;refine Sp.e (n:=72) Tryz.func212 O λC hX d r=>?_;have q1:=r.ro;obtain⟨X0,f0,q2,wY,q3,q4,q5⟩:=C;obtain rfl:X0=X:=hX;refine .g O (.cz 7 (.inl ⟨_,rfl⟩) O O ?_);intro S D _;have J:=Le.put D (.cells (cF f [] 1).toArray 239);have u4:=aj L S (.cells (cF f [] 1).toArray 239);refine W.drawn aN L J ?_;refine .run' [0,2,3,4,5] O (.u 1 O (Vf.Ie O Tryz.underlying237 Qj V) ?_);refine DD.rd 6 hd.h3 O O O O O O O ?_;refine .a 7 rfl (Ef.Vu (c:=(cF f [] 1).toArray) rfl rfl rfl rfl (YC.sl (u2.le J) df rfl) s2 u4 (by rw[gY df];show 4+_ * 2<=9;omega) (λu hu=>by obtain⟨a,_,hu⟩:=tp.1 hu;exact iz a u hu)) ((by rintro _ _ _ ⟨rfl,rfl,rfl⟩;exact⟨aG J D _,rfl,.inl rfl⟩)) ?_;rintro _ _ _ ⟨rfl,rfl,rfl⟩;refine .fin O ?_;refine .g O ?_;rw[abW f s2] at *;refine .loop (λm' E B R=>∃i:Nat,m'=I.length - i/\i<=I.length/\Le L R/\R S=some (.cells (cF f (dx t f (I.take i)) 1).toArray 239 (0,0),true)/\E=[(0,.v (pt b)),(4,.p 0 0),(6,.p 1 0),(7,.v (pt S)),(21,.v (.slice g I.length sc)),(22,.v (.int .i64 I.length)),(23,.v (.int .i64 i))]/\B=[some ⟨(ib f).map .v,236⟩,some ⟨cL (.v W8.z),239⟩]) ⟨0,rfl,M,aG J D _,aj _ _ _,rfl,rfl⟩ rj kO ?_ O (gV _ _ O)
 rintro _ _ _ L1 ⟨i,rfl,hi,K,m,rfl,rfl⟩ again;clear u4 J;refine .I O (λe=>W.go 99 O ?_) (λe=>W.go 99 O ?_)
 .have hi:i<I.length:=by simpa using e
  have hx:=bX hi;have H:I.take (i+1)=I.take i++[I[i]]:=ja hi;have Q:=u3 _ (fY hi);generalize I[i]=sg at hx H Q;obtain⟨sn,WS,sy,sf⟩:=sg;have o1:=Q.s0;have o2:=Q.s1;have o3:=Q.g0;have o4:=Q.g1;have o5:=Q.y0;have o6:=Q.y1;have o7:=Q.fd;simp only at o1 o2 o3 o4 o5 o6 o7;obtain⟨k,rfl⟩:∃k:Nat,sn=(k:Int):=⟨sn.toNat,M⟩;obtain⟨q,rfl⟩:∃q:Nat,WS=(q:Int):=⟨WS.toNat,M⟩;obtain⟨a,rfl⟩:=o.addr hi;have h:(dx t f (I.take i)).length=t.samples.length:=zE _ _ _;obtain⟨s,hs⟩:∃s,(dx t f (I.take i))[k]?=some s:=⟨_,bX M⟩;refine .u O (Vf.j O O (hi)) (.G O (Vf.q O ((o.le K).whole hx O)) (.g O ?_));have q6:=GP hr hf (show q<t.au.length by omega) ⟨o5,o6⟩;refine W.drawn aN L1 (Le.refl _) ?_;refine .run' [0,1,2,3,4,7,8,10,12,13,14,15,22] rfl (.u 5 rfl (Vf.qj rfl rfl rfl rfl rfl rfl ((show k<2 by omega))) (.u 6 rfl (Vf.q rfl (abX m M hs)) (.u 11 rfl (Vf.zR rfl rfl rfl rfl rfl rfl) (.c 9 rfl rfl (acC sf L1 o7) jw ?_))));rintro _ _ ⟨rfl,rfl⟩;refine .run' [17] rfl (.u 18 rfl (VK sf o7 rfl) (.run' [19] rfl (.c 16 rfl rfl (Zy f q sy L1 hr (hd.le K) (u7.le K) hf (show q<t.au.length by omega) ⟨o5,o6⟩) jw ?_)));rintro _ _ ⟨rfl,rfl⟩;refine .a 20 rfl (Si sf (mj t f q sy) o7 M rfl rfl) ((by rintro _ _ _ ⟨_,rfl,rfl,rfl,rfl⟩;exact⟨Le.refl _,rfl,.inl rfl⟩)) ?_;rintro _ _ _ ⟨_,rfl,rfl,rfl,rfl⟩;refine .c 21 rfl rfl (PW s (vx sf (mj t f q sy)) L1) jw ?_;rintro _ _ ⟨rfl,rfl⟩;refine .u 23 O (Vf.qj O O O O O O ((show k<2 by omega))) ?_;refine .rest 24 O O O O ?_;refine .fL O O (Ef.BX (b:=S) (off:=4+k * 2) O ⟨_,rfl,rfl⟩ O (by rw[bM,bM,jJ]) m O (by show 4+k * 2+2<=9;omega) (iz _)) ?_;rintro _ _ _ ⟨rfl,rfl,rfl⟩;refine .g O ?_;have F:bY (cF f (dx t f (I.take i)) 1).toArray (4+k * 2) (cJ (iD s (vx sf (mj t f q sy))))=(cF f (dx t f (I.take (i+1))) 1).toArray:=by
   rw[aeH f M 1 M,H,Pz,Hb _ (by exact hs)]
   rfl
  exact .again (again _ _ _ _ M ⟨i+1,rfl,M,aG K D _,YL,rfl,rfl⟩) (by exact⟨rfl,rfl,rfl,rfl,rfl,rfl,aJ some (cr M),aE⟩) kO O (gV _ _ O)
 .have u8:i=I.length:=by simp at e;omega
  subst u8;rw[lK] at m;clear again;have h:(dx t f I).length=t.samples.length:=zE _ _ _;have w:=Ju hr hf u3;refine W.rd (hd.h3.le K) r.ro O O O O O O ?_;refine .g O ?_;refine .loop (λm' E B R=>∃j:Nat,m'=t.samples.length - j/\j<=t.samples.length/\Le L R/\R S=some (.cells (cF f (dx t f I) (fV (((dx t f I).take j).map dM))).toArray 239 (0,0),true)/\E=[(0,.v (pt b)),(4,.p 0 0),(6,.p 1 0),(7,.v (pt S)),(57,.v (.int .i64 t.samples.length)),(58,.v (.int .i64 j))]/\B=[some ⟨(ib f).map .v,236⟩,some ⟨cL (.v W8.z),239⟩]) ⟨0,rfl,M,K,m,rfl,rfl⟩ uU kO ?_ O (gV _ _ O)
  rintro _ _ _ L2 ⟨j,rfl,hj,u5,G,rfl,rfl⟩ again;clear m K;refine .I O (λd2=>W.go 99 O ?_) (λd2=>W.go 99 O ?_)
  .have hj:j<t.samples.length:=by simpa using d2
   have T:(dx t f I)[j]?=some (dx t f I)[j]:=bX M;have o:=w _ (fY (show j<(dx t f I).length by omega));generalize(dx t f I)[j]=s at T o;have u1:=zZ o;have u6:=Ot (l:=((dx t f I).take j).map dM) bU (λx hx=>by
    obtain⟨y,hy,rfl⟩:=fK.1 hx;exact zZ (w y (yo hy)))
   have q7:0<=fV (((dx t f I).take j).map dM) *dM s/\fV (((dx t f I).take j).map dM) *dM s<=1681 * 41:=⟨BA u6.1 u1.1,Dx u6.2 u1.2 u1.1 V⟩;have H:fV (((dx t f I).take (j+1)).map dM)=fV (((dx t f I).take j).map dM) *dM s:=by
    rw[IS,T,iq,Option.toList_some,iH,nG,Hi]
   unfold EC at o;refine W.drawn aN L2 (Le.refl _) ?_;refine .run' [0,2,3] rfl (.u 1 rfl (Vf.l rfl (aiB G)) (.u 4 rfl (Vf.qj rfl rfl rfl rfl rfl rfl ((show j<2 by omega))) (.u 5 rfl (Vf.q rfl (abX G M T)) (.c 6 rfl rfl (uJ s L2 M) jw ?_))));rintro _ _ ⟨rfl,rfl⟩;refine .run' [7,8] O ?_;refine .rest 9 O O O O ?_;refine .fL O O (Ef.eR (b:=S) (off:=8) O ⟨_,rfl,rfl⟩ O G O (by show 8+1<=9;omega) (bQ O)) ?_;rintro _ _ _ ⟨rfl,rfl,rfl⟩;refine .g O ?_;have F:bY (cF f (dx t f I) (fV (((dx t f I).take j).map dM))).toArray 8 [.int .i64 (IntKind.i64.wrap (fV (((dx t f I).take j).map dM) *dM s))]=(cF f (dx t f I) (fV (((dx t f I).take (j+1)).map dM))).toArray:=by
    rw[wrap64_in _ M M,aeG,H]
   exact .again (again _ _ _ _ M ⟨j+1,rfl,M,aG u5 D _,YL,rfl,rfl⟩) (by exact⟨rfl,rfl,rfl,rfl,rfl,aJ some (cr M),aE⟩) kO O (gV _ _ O)
  .have u9:j=t.samples.length:=by simp at d2;omega
   subst u9;rw[<-h,lK] at G;refine .u O (Vf.q O (dU G (O6 _ _ _))) ?_;refine .fL O O (Ef.adV O O O O (O6 _ _ _) O (ag6 _ _ _)) ?_;rintro _ _ _ ⟨rfl,rfl,rfl⟩;refine .de [] 2 O ?_;exact W.Yj r O O O O O O (O6 _ _ _) ⟨rfl,u5⟩
end
end Go.Mz
set_option maxRecDepth 100000
namespace Go.Mz
open Go.Conc
variable {P:aV}{α:Type}{n k m:Nat}{L R J:LH}{t e:bh}{w u:World}{h:α->List Value}{c:Int}{B:aX}{x:aW}{Y:Trace}{l:aH}{r:List α}{s:Sw}{q:aU}{Q:bC}{E:cK}{j:aR}{D:bt}{d:bA}{F:Env}{g:aT}{o:bD}{C:bH}{N:Nm}{K:bI}{I:cj}{H:ck}{X:aM Proofs.Tryz.prog}
section
open Go.ConcN Go.Proofs
open Go.ConcR (KK wgBlock WgAt stA smA rd wr)
section
abbrev FG:=List Int×List ei
abbrev nQ:=List FG
def Nr(x:FG)(j:Nat):MapEntry:={key:=.agg (ib x.1).toArray,val:=.agg (cF x.1 x.2 (eo x.2)).toArray,born:=j}
def kU(xs:nQ):Array MapEntry:=(xs.zipIdx.map λz=>Nr z.1 z.2).toArray
def V4(w:nQ)(x:FG):kU (w++[x])=(kU w).push (Nr x w):=by
 unfold kU;rw[List.zipIdx_append,iq];simp
def AY{w:nQ}{e:MapEntry}(h:e∈kU w):∃x,w[e.born]?=some x/\e=Nr x e.born:=by
 rw[zh] at h;obtain⟨⟨x,j⟩,p,rfl⟩:=fK.1 h;exact⟨x,(List.mem_zipIdx_iff_getElem?.1 p),rfl⟩
structure GZ where
 W:Nat
 X:Nat
 N:Nat
 B:Nat
 ro:Ro
 p:BP
 n:Nat
 base:Nat
abbrev GZ.fl(z:GZ):List (List Int):=cP z.ro.au
def GZ.kx(z:GZ)(i:Nat):FG:=(z.fl.getD i [-1],dx z.ro (z.fl.getD i [-1]) z.ro.aQ)
noncomputable abbrev GZ.z (z:GZ):RZ:={W:=z.W,X:=z.X,N:=z.N,B:=z.B,v0:=.slice z.p.a0 z.ro.au.length z.p.c0,v1:=.slice z.p.a1 z.ro.steps.length z.p.c1,v2:=.slice z.p.a2 z.ro.be.length z.p.c2,v3:=.slice z.p.a3 z.ro.samples.length z.p.c3,v4:=.slice z.p.a4 z.ro.aQ.length z.p.c4,n:=z.n,base:=z.base,len:=z.fl.length,ob:=λK=>.map (kU (K.map z.kx)) K.length,keep:=λi=>decide (0<eo (z.kx i).2)}
variable {z:GZ}
def V1{s:Ws}{v:Value}(h:(k<5/\(jU z.ro z.p)[k]?=v)\/(k=7/\v=.map z.B)):Rd (LZ z.z n s) L ⟨z.X,k,none⟩ v:=.inl λw u=>by
 obtain⟨_,⟨r,d,q⟩,_⟩:=u;rw[jE q];rcases h with⟨h1,h2⟩ | ⟨rfl,rfl⟩
 .match k,h1,h2 with
  | 0,_,h2=>exact h2
  | 1,_,h2=>exact h2
  | 2,_,h2=>exact h2
  | 3,_,h2=>exact h2
  | 4,_,h2=>exact h2
 .rfl
def aga(z:RZ)(J:bD)(L:LH)(f:Nat)(T:Mu.Th)(h:T.pc=.own):RN (LZ z f ⟨.put,T,J⟩) 238 [mT ⟨z.X,5,none⟩] L (λY o=>∃u,u<=f/\Y=LZ z u ⟨.idle,{pc:=.out,left:=T.left},J⟩/\o=L):=by
 refine RN.enter Tryz.func238 O O O O λC j a d r=>?_;let⟨p,x,e,wY,t,m,q⟩:=C;obtain rfl:p=_:=j;refine .g O (W.oF (args:=[mT ⟨z.X,5,none⟩]) O O O O (afj z J L f T h) ?_);rintro Y v _ ⟨g,i,rfl,rfl,rfl⟩;refine .g O (W.ahP (r.to _) O (.inl O) ⟨g,i,rfl,rfl⟩)
theorem abV(f:aH)(g:eI)(n:Int):Value.agg (cF f g n).toArray=.agg #[f.getD 0 0,f.getD 1 0,f.getD 2 0,f.getD 3 0,(g.getD 0 ⟨0,0⟩).lo,(g.getD 0 ⟨0,0⟩).hi,(g.getD 1 ⟨0,0⟩).lo,(g.getD 1 ⟨0,0⟩).hi,n]:=rfl
def afn{a b d:Int}(t:Bool)(Q:x6)(H:bC)(R:LH):aP Tryz.prog Q H (Instr.checkKey t 10000 236 (.agg #[a,b,c,d])) R=Q () R:=by
 kernel_rfl
theorem afl(i l f:Nat)(L:LH)(o:l≠0)(k:z.z.keep i=true)(m:∀j,j≠i->py (z.kx j).1≠py (z.kx i).1):
  pL (LZ z.z f ⟨.idle,{pc:=.out,left:=l},some i⟩) 213 [pt z.X,.agg (cF (z.kx i).1 (z.kx i).2 (eo (z.kx i).2)).toArray] L (λY v I=>∃u,u<=f/\Y=LZ z.z u ⟨.idle,{pc:=.out,left:=l - 1},none⟩/\v=.tuple #[]/\I=L):=by
 rw[abV];refine pL.enter Tryz.func213 O O O O λC D a d r=>?_;have F:C.kd≠.early:=lZ
 let⟨p,f0,G,wY,h,S,q⟩:=C;obtain rfl:p=_:=D;refine .g O (W.oF (args:=[mT ⟨z.X,5,none⟩]) O O O O (aht z.z (some i) L l f o i O k) ?_);rintro Y v _ ⟨f2,K,B,rfl,E,rfl,rfl⟩;refine .g O ?_;refine W.HR (args:=[mT ⟨z.X,5,none⟩]) r.ro O O O ?_;refine .t O (.run' [0,1,2,4] O ?_);refine DD.rd 3 (V1 (z:=z) (.inr ⟨rfl,rfl⟩)) O O O O O O O ?_;refine .run' [5,6] O ?_;refine .rest 7 O O O O ?_;have g:z.z.b.ob (K++[i])=.map ((kU (K.map z.kx)).push {key:=.agg (ib (z.kx i).1).toArray,val:=.agg (cF (z.kx i).1 (z.kx i).2 (eo (z.kx i).2)).toArray,born:=K.length}) (K.length+1):=by
  show Obj.map (kU ((K++[i]).map z.kx)) (K++[i]).length=_;rw[iq,List.map_singleton,V4,eT,eX]
  rfl
 have w:∀y∈(kU (K.map z.kx)).toList,∃c:List Int,c.length=4/\y.key=dT c/\c≠py (z.kx i).1:=by
  intro y hy;obtain⟨x,hx,s⟩:=AY (Array.mem_def.2 hy);obtain⟨j,t,rfl⟩:=fK.1 (fZ hx);refine⟨py (z.kx j).1,rfl,by rw[s];rfl,m j λe=>?_⟩;subst e;exact E j O t
 refine W.upd (b:=z.z.b) (T:={pc:=.own,left:=l - 1}) (J:=some i) (i0:=i) (K:=K) (es:=kU (K.map z.kx)) (clk:=K.length) O O k r.ro O O O O O O O Tryz.underlying230 O g (λem Q H R=>afn em Q H R) (λQ H R=>D4 Tryz.underlying236 Tryz.underlying3 wm um O w Q) λf3 u1=>?_;refine .g O ?_;refine W.out r.ro (.inl .nil) ?_;refine WM.aeQ (args:=[mT ⟨z.X,5,none⟩]) (aga z.z none _ f3 {pc:=.own,left:=l - 1} rfl) ?_;rintro Y _ ⟨f4,u2,rfl,rfl⟩;exact WM.mO (r.to _) O O ⟨f4,M,rfl,rfl,rfl⟩
end
end
end Go.Mz
set_option maxRecDepth 100000
namespace Go.Mz
open Go.Conc
variable {P:aV}{α:Type}{n k m:Nat}{L R J:LH}{t e:bh}{w u:World}{h:α->List Value}{c:Int}{B:aX}{x:aW}{Y:Trace}{l:aH}{r:List α}{s:Sw}{q:aU}{Q:bC}{E:cK}{j:aR}{D:bt}{d:bA}{F:Env}{g:aT}{o:bD}{C:bH}{N:Nm}{K:bI}{z:SV}{I:cj}{H:ck}{X:aM Proofs.Tryz.prog}
section
open Go.ConcN Go.RowKit Go.Conc.Lib Go.ConcR.Gen Go.ConcN.Gen
open Go.ConcR (KK wgBlock WgAt stA smA rd wr mk Payload Aside2 DC0)
def G1{P:aV}{q:Bool}{R:Q8}{D:Xh}{i r:Xi}(h:∀g w,i g w->r g w):∀{n:Nat} {g:aT} {w:World},Goes P q R D i n g w->Goes P q R D r n g w
 | 0,_,_,hg=>λw1 u=>h _ _ (hg w1 u)
 | n+1,_,_,.inl hg=>.inl λw1 u=>h _ _ (hg w1 u)
 | n+1,g,_,.inr ⟨hr,hs⟩=>.inr ⟨hr,λw1 u=>by
  have:=hs w1 u
  revert this
  cases stepG P q g w1 <;> simp only[GStep.goes,imp_self];exact λ⟨d,x⟩=>⟨d,G1 h x⟩⟩
def Cz{P:aV}{q:Bool}{R:Q8}{D:Xh}{i r:Xi}(refl:∀w,R w w)(trans:∀a b c,R a b->R b c->R a c)(v:∀g w,i g w->∃l e,stepG P q g w=.go l w #[e]):
  ∀{n m:Nat} {g:aT} {w:World},Goes P q R D i m g w->Goes P q R DC0 r n g w->Goes P q R DC0 (λg w=>r g w/\∃m,Goes P q R D i m g w) n g w
 | 0,m,_,_,j,hB=>λw1 u=>⟨hB w1 u,m,j.rely trans u⟩
 | n+1,m,_,_,j,.inl hB=>.inl λw1 u=>⟨hB w1 u,m,j.rely trans u⟩
 | n+1,m,g,w,j,.inr ⟨hr,hs⟩=>by
  have no:∀w1,R w w1->i g w1->False:=λw1 u y=>by
   obtain⟨l,e,p⟩:=v _ _ y;have:=hs w1 u;rw[p] at this;obtain⟨⟨_,f⟩,_⟩:=this;cases f
  have z:∃t,m=t+1/\∀k,R w k->(stepG P q g k).goes λl o s=>D k o s/\Goes P q R D i t l o:=by
   cases m with
   | zero=>exact(no w (refl w) (j w (refl w))).elim
   | succ m=>
    rcases j with j | ⟨_,j⟩
    .exact(no w (refl w) (j w (refl w))).elim
    .exact⟨m,rfl,j⟩
  obtain⟨t,rfl,z⟩:=z;refine .inr ⟨hr,λw1 u=>?_⟩;have a:=z w1 u;have b:=hs w1 u
  revert a b
  cases stepG P q g w1 <;> simp only[GStep.goes,imp_self,false_implies];exact λ⟨_,a⟩ ⟨d,b⟩=>⟨d,Cz refl trans v a b⟩
def G0{P:aV}{q:Bool}{R:Q8}{D:Xh}{i:Xi}(refl:∀w,R w w):∀{n:Nat} {g:aT} {w:World},Goes P q R D i n g w->∃l c,i l c
 | 0,g,w,h=>⟨g,w,h w (refl w)⟩
 | n+1,g,w,.inl h=>⟨g,w,h w (refl w)⟩
 | n+1,g,w,.inr ⟨_,h⟩=>by
  have:=h w (refl w)
  revert this
  cases stepG P q g w <;> simp only[GStep.goes,false_implies];exact λ⟨_,x⟩=>G0 refl x
def agR(P:aV)(g:aT)(w:World):Prop:=∃g',stepG P false g w=.go g' w #[mk .disable]
def AtRel(P:aV)(R:Q8)(W:Nat)(g:aT)(w:World):Prop:=∃g',stepG P false g w=.go g' w #[mk (.releaseMerge (stA W))]/\∃m,Goes P false R DC0 (agR P) m g' w
def ZV{W C l:Nat}{x s:Nat->Loc->Prop}{v:Value}{N:Nat}(refl:∀w,RW t W C n l (k - 1) w w)(trans:∀a b c,RW t W C n l (k - 1) a b->RW t W C n l (k - 1) b c->RW t W C n l (k - 1) a c)
  (K:Goes P false (RW t W C n l (k - 1)) (DWs W x s C n k) (AtR0 P t W C n l k v) m g w)(d:Goes P false (RW t W C n l (k - 1)) DC0 (AtRel P (RW t W C n l (k - 1)) W) N g w):
  Goes P false (RW t W C n l (k - 1)) DC0 (AtR0 P t W C n l k v) N g w:=by
 let q:∀g w,AtR0 P t W C n l k v g w->∃u e,stepG P false g w=.go u w #[e]:=λg w h=>by
  let⟨_,_,u,D,_⟩:=h;exact⟨u,_,D⟩
 refine G1 ?_ (Cz refl trans q K d);intro g w ⟨⟨u,F,Q,p⟩,i,z⟩;let j:∀f,Goes P false (RW t W C n l (k - 1)) (DWs W x s C n k) (AtR0 P t W C n l k v) f u w->False:=λf G=>by
  let⟨H,o,⟨R,y⟩,I,r⟩:=G0 refl (Cz refl trans q G p);let no:AtR0 P t W C n l k v H o->False:=λh=>by
   let⟨_,_,S,J,_⟩:=h;rw[y] at J;have:=(GStep.go.inj J).2.2;simp[mk] at this
  cases I with
  | zero=>exact no (r o (refl o))
  | succ I=>
   rcases r with r | ⟨_,r⟩
   .exact no (r o (refl o))
   .have:=r o (refl o);rw[y] at this;let⟨⟨_,hd⟩,_⟩:=this;exact(hd (mk .disable) U).2.1 O
 cases i with
 | zero=>exact z w (refl w)
 | succ i=>
  rcases z with z | ⟨_,z⟩
  .exact z w (refl w)
  .have:=z w (refl w);rw[F] at this;exact(j _ this.2).elim
set_option maxRecDepth 100000 in
def ZC{P:aV}{L:WgLink}(H:WgLib P L){m C n l k:Nat}{g:Value}{c:Frame}{i:dX}(w:World)(q:WgLive L.tWg m w/\Has C (k - 1) g w):
  Goes P false (RW L.tWg m C n l (k - 1)) DC0 (AtRel P (RW L.tWg m C n l (k - 1)) m) 40 (G ((baseD L.done).at ⟨#[.pointer (some ⟨m,0,none⟩),undef,undef,undef],[]⟩ [.code (body_done L)]) (c::i)) w:=by
 lib_facts
 simp[body_done,doneFn,zb]
 u_reg kn_rely q
 u_op kn_rely q
 u_in kn_rely q
 refine goes_call O O (by k_ne) O H.f_add (nm_add L) O ⟨by u_nil,?_⟩
 walk_nrmf addFn
 u_c stepG_seq kn_rely q
 u_cond true kn_rely q
 u_c stepG_seq kn_rely q
 u_c stepG_seq kn_rely q
 u_reg kn_rely q
 u_op kn_rely q
 u_op kn_rely q
 u_c stepG_region_end kn_rely q
 u_cond true kn_rely q
 u_reg kn_rely q
 u_op kn_rely q
 u_conv H.underlying_tWgP H.room_tWg (WgLive.cell0 q.1).choose_spec kn_rely q
 refine Goes.stop (λu f=>?_);replace q:=kn_rely q f;exists _,stepG_markAt .releaseMerge U O O (by k_ne) O H.f_relMerge (x_relMerge_n L) (x_relMerge_b L) (x_relMerge_x L) (x_relMerge_f L) (by simp[Act.eval,stA]),10
 walk_nrm
 u_c stepG_region_end kn_rely q
 u_c stepG_seq kn_rely q
 u_reg kn_rely q
 refine Goes.stop (λu f=>⟨_,stepG_mark0 .disable U O O (by k_ne) O H.f_disable (x_disable_n L) (x_disable_b L) (x_disable_x L) (x_disable_f L)⟩)
end
section
open Go.ConcN Go.Proofs
open Go.ConcR (KK wgBlock WgAt stA smA rd wr mk)
noncomputable def vu:Frame:={(default:Frame) with fn:=Tryz.prog.funcs.size,defers:=[],mode:=.panicking [goexitEntry]}
def Wz(f:bO)(T:aK)(k:bI){q:Func}(a:Tryz.prog.funcs[f]?=q)(b:q.results=#[]):QuitsD Tryz.prog 2 0 (G (Fr f T k [] .returning .deferred none) [vu]):=by
 refine QuitsD.ctl (g':=G vu []) O (λw=>?_) ?_
 .simp[G,stepG,unwind,doReturn,results,Fr,vu,a,b,seen,GStep.after,goexitEntry]
 refine QuitsD.ctl (g':={G vu [] with status:=.finished}) O (λw=>?_) ⟨rfl,rfl⟩;simp[G,stepG,unwind,vu,goexitEntry,Frame.catches]
 rfl
def R7{g:bO}{q:Func}{h l:aK}{u:Code}(a:Tryz.prog.funcs[g]?=q)(y:(q.name== "runtime.NumGoroutine")=false)(d:q.body=u)(w:World):
  stepG Tryz.prog false (born Tryz.prog ⟨.fn (.func g) l,h⟩) w=.go (G (Frame.enter Tryz.prog g (h++l) .deferred) [vu]) w:=by
 have x:¬q.name= "runtime.NumGoroutine":=by simpa using y
 simp[born,G,stepG,unwind,callDeferred,invoke,callFunc,a,x,d,GStep.after,seen_none,vu,goexitEntry]
def aeC{z:GZ}(T:aK)(k:bI):z.z.b.vg (G (Fr 210 T k [dcall 153 #[pt z.W]] .returning .deferred none) [vu]):=by
 refine⟨41,λw ⟨u,o⟩=>?_⟩;let q:WgLive 284 z.W w/\Has z.X 0 z.z.b.v0 w:=⟨u,o⟩;refine Goes.step O λv f=>?_;replace q:=Go.ConcN.Gen.kn_rely q f;let j:=@Go.ConcN.Gen.doneN agI lnk Tryz.prog Xm Bt Bt z.W z.X 1 0 1 z.z.b.v0 (Fr 210 T k [] .returning .deferred none) [vu] 2 rfl (Wz 210 T k Tryz.func210 rfl) v q;let d:=@ZC Tryz.prog lnk Xm z.W z.X 1 0 1 z.z.b.v0 (Fr 210 T k [] .returning .deferred none) [vu] v q;let t:=ZV (λw=>RW.refl w) (λa b c m g=>m.trans g) j d;let y:=stepG_unwind_enter (main:=false) (b:=baseD 210) (a:=⟨T,[dcall 153 #[pt z.W]]⟩) (ds:=[]) (todo:=k) (cs:=[vu]) (w:=v) rfl Tryz.func153 aN rfl;let i:stepG Tryz.prog false (G (Fr 210 T k [dcall 153 #[pt z.W]] .returning .deferred none) [vu]) v=_:=y;show(stepG Tryz.prog false _ v).goes _;rw[i];simp only[goes_go];exact⟨⟨rfl,rfl⟩,t⟩
def aeR{z:GZ}(f l:Nat)(J:bD)(L:LH)(g:∀i,J=some i->z.z.keep i=false)(y:z.fl+z.n<1000000000):
  pL (LZ z.z f ⟨.idle,{pc:=.out,left:=l},J⟩) 211 [pt z.N,.int .i64 1] L (λY v w=>w=L/\∃u c:Nat,f=u+1/\v=.int .i64 ((c:Int)+1)/\((c<z.fl/\Y=LZ z.z u ⟨.idle,{pc:=.out,left:=l+1},some c⟩)\/(z.fl<=c/\c<=z.fl+z.n/\Y=LZ z.z u ⟨.done,{pc:=.out,left:=l},none⟩))):=by
 refine pL.enter Tryz.func211 O O O O λC j a s r=>?_;have o:C.kd≠.early:=lZ
 obtain⟨p,x,k,wY,I,K,q⟩:=C;obtain rfl:p=_:=j;refine .g O ?_;refine W.ahf (b:=z.z.b) (T:={pc:=.out,left:=l}) (J:=J) DZ.func DZ.name DZ.body DZ.next DZ.find O g y r.ro o O O O O O (λh c d t=>?_) (λh c d t m=>?_)
 .refine .g O ?_;exact W.mO (r.to _) (.inr ⟨_,rfl⟩) O O ⟨rfl,h,c,d,rfl,.inl ⟨t,rfl⟩⟩
 .refine .g O ?_;exact W.mO (r.to _) (.inr ⟨_,rfl⟩) O O ⟨rfl,h,c,d,rfl,.inr ⟨t,m,rfl⟩⟩
def PO{z:GZ}(i:n<z.fl):(z.kx n).1∈z.fl:=by
 unfold GZ.kx;rw[dL,bX i];exact fY i
def acS{z:GZ}(s:mH z.ro)(i:n<z.fl):∀j,0<=(z.kx n).1.getD j 0/\(z.kx n).1.getD j 0<=3:=λj=>by
 let⟨_,u⟩:=oJ (PO i);rw[dL];cases t:(z.kx n).1[j]? with
 | none=>exact⟨U,U⟩
 | some x=>
  let⟨g,q,r⟩:=u j x t;have:=s.gl g (fZ q);unfold HF at r;simp[zb];omega
def ahs{z:GZ}(s:mH z.ro)(i:n<z.fl):∀j,j≠n->py (z.kx j).1≠py (z.kx n).1:=λj t e=>by
 let x:=s.g4
 by_cases o:j<z.fl
 .let q:=Nz ((oJ (PO o)).1.trans (oJ (PO i)).1.symm) (by rw[(oJ (PO o)).1];exact x) e;unfold GZ.kx at q;simp only at q;rw[dL,bX o,dL,bX i] at q;exact t ((List.getElem_inj (xz _)).1 q)
 .let f:=acS s i 0;let u:(z.kx j).1=[-1]:=by
   unfold GZ.kx;simp only;rw[dL,mh M];rfl
  rw[u] at e;unfold py at e;simp only[List.cons.injEq] at e;let v:(-1:Int)=(z.kx n).1.getD 0 0:=e.1;omega
def ae9{z:GZ}(s:mH z.ro):z.fl.length<=256:=by
 refine lI (xx λg u=>?_) ?_
 .have:=s.gl g u;omega
 .exact Cq (n:=4) V s.g4
structure OW(z:GZ)(ba bx br:Nat)(la:Option Addr)(lc:Nat)(R:LH):Prop where
 h2:R.cell? ⟨ba,0,none⟩=some (.slice la z.fl.length lc)
 la:bz R la 4 ib z.fl
 h3:R.cell? ⟨bx,0,none⟩=some (pt z.X)
 h4:R.cell? ⟨br,4,none⟩=some (.slice z.p.a4 z.ro.aQ.length z.p.c4)
 ro:iG R z.ro z.p
def OW.le{z:GZ}{p:Nat}(h:OW z n k m d p R)(o:Le R L):OW z n k m d p L:=⟨o.cell h.h2,h.la.le o,o.cell h.h3,o.cell h.h4,h.ro.le o⟩
noncomputable def wkC:Code:=match Tryz.f210.body with | some (.seq _ (.block _ (.loop c)))=>c | _=>.skip
def aa5{z:GZ}{C:Cx Tryz.prog}{x:Nat}{Q:Nat}(s:mH z.ro)(hn:z.n<=6)(S:C.f=210)(o:C.kd=.deferred)(y:C.ro=none)(I:C.cs=[vu]):∀(f l:Nat) (J:bD) (L:LH),(∀i,J=some i->z.z.keep i=false)->OW z k m x d Q L->
  W (C.to (LZ z.z f ⟨.idle,{pc:=.out,left:=l},J⟩)) 27 [dcall 153 #[pt z.W]] [.code wkC,.inLoop wkC,.inBlock 0] [(0,pt z.W),(1,pt z.N),(2,pt k),(3,pt m),(4,pt x)] [] L:=by
 let B:=ae9 s;intro f
 induction f using Nat.strongRecOn with
 | _ f ih=>
 intro l J L E u;let t:C.kd≠.early:=by rw[o];decide
 refine .g O ?_;refine W.oF (args:=[pt z.N,.int .i64 1]) O O O O (aeR f l J L E M) ?_;rintro Y v L1 ⟨rfl,h,c,u1,rfl,⟨j,rfl⟩ | ⟨j,u2,rfl⟩⟩
 .let K:IntKind.i64.wrap ((c:Int)+1 - 1)=(c:Int):=by rw[show(c:Int)+1 - 1=(c:Int) by omega];exact wrap64_in _ M M
  let q:=acS s j;let D:z.fl[c]?=(z.kx c).1:=by
   unfold GZ.kx;simp only;rw[dL,bX j];rfl
  refine .G O (Vf.l O (u.h2)) (.g O ?_);rw[K];refine .s O (λw=>?_) (λw=>?_)
  .exfalso;simp at w;omega
  refine .g O ?_;let F:=SU (X:=LZ z.z h ⟨.idle,{pc:=.out,left:=l+1},some c⟩) (b:=z.X) (z.kx c).1 z.p.a4 z.p.c4 z.ro.aQ L1 s ⟨V1 (.inl ⟨V,rfl⟩),V1 (.inl ⟨V,rfl⟩)⟩ u.ro.h0 u.ro.h3 q u.ro.h4 s.si (by have:=s.s8;omega);obtain⟨a,rfl⟩:=u.la.addr j;refine .z (.u 0 O (Vf.l O (u.h3)) (.u 1 O (Vf.l O (u.h2)) (.run' [2] O (.u 3 O (Vf.j O O (j)) (.u 4 O (Vf.q O (u.la.whole D O)) (.run' [5] O ?_))))));refine .u 6 rfl (Vf.l rfl (u.h4)) (.run' [8] rfl (.c 7 rfl rfl F (by rintro _ _ ⟨rfl,hl⟩;exact hl) ?_));rintro _ _ ⟨rfl,g⟩;refine .a 9 rfl (Ef.lG rfl) (by rintro _ _ _ ⟨rfl,rfl,rfl⟩;exact⟨g,rfl,.inr rfl⟩) ?_;rintro _ _ _ ⟨rfl,rfl,rfl⟩;refine .fin O ?_;refine .I O (λG=>?_) (λG=>?_)
  .refine .G O (Vf.l O ((u.le g).h3)) (.g O ?_);refine W.oF (args:=[pt z.X,.agg (cF (z.kx c).1 (z.kx c).2 (eo (z.kx c).2)).toArray]) O O O O (afl c (l+1) h _ M G (ahs s j)) ?_;rintro Y v _ ⟨f2,u3,rfl,rfl,rfl⟩;refine .go 3 O ?_;refine W.fA ?_;refine .a (E':=[(0,.v (pt z.W)),(1,.v (pt z.N)),(2,.v (pt k)),(3,.v (pt m)),(4,.v (pt x))]) (B':=[]) ?_;exact ih f2 M l none _ (λi H=>by cases H) (u.le g)
  .refine .go 3 O ?_;refine W.fA ?_;refine .a (E':=[(0,.v (pt z.W)),(1,.v (pt z.N)),(2,.v (pt k)),(3,.v (pt m)),(4,.v (pt x))]) (B':=[]) ?_;exact ih h M (l+1) (some c) _ (λi H=>by obtain rfl:=bR H;exact G) (u.le g)
 .let K:IntKind.i64.wrap ((c:Int)+1 - 1)=(c:Int):=by rw[show(c:Int)+1 - 1=(c:Int) by omega];exact wrap64_in _ M M
  refine .G O (Vf.l O (u.h2)) (.g O ?_);rw[K];refine .s O (λw=>?_) (λw=>?_)
  .refine .g O ?_;refine W.out y (.inr .ret) ?_;intro T R β e hT hE r;let F:=aeC (z:=z) T e;rw[S,o,y,I];cases h with
   | zero=>exact Way.stop trivial
   | succ h=>exact Way.stop ⟨rfl,F⟩
  .exfalso;simp at w;omega
def UL{z:GZ}{q:Nat}{p:Nat}(s:mH z.ro)(y:z.n<=6)(u:OW z k m q d p R)(f:Nat):Way Tryz.prog false (z.z.b.Φ 353) (vO z.z.b 353 f Xp) (born Tryz.prog ⟨.fn (.func 210) #[pt z.W,pt z.N,pt k,pt m,pt q],#[]⟩) R:=by
 refine(LZ z.z f Xp).quiet O (R7 Tryz.func210 aN O) ?_;refine W.start (n:=27) (args:=[pt z.W,pt z.N,pt k,pt m,pt q]) Tryz.func210 O O O ?_;refine .g O (W.HR O O O O ?_);refine .go 3 O (W.mD ?_);refine .a (aa5 (C:=⟨LZ z.z f Xp,210,.deferred,none,[vu],R,R⟩) s y O O O O f 0 none R (λi a=>by cases a) u)
def Ps(m:Nat):Code->List Code->Option (Code×List Code)
 | .block l b,k=>if Nat.beq l m then some (b,k) else none
 | .seq a b,k=>match Ps m a (b::k) with
  | some r=>some r
  | none=>Ps m b k
 | _,_=>none
def Dm.wk(h:Dm L J){z:GZ}{f:Nat}{p:bA}{q:Nat}(u:OW z n k f p q L):OW z n k f p q J:=⟨h.cell u.h2,h.sl u.la,h.cell u.h3,h.cell u.h4,h.ro u.ro⟩
structure MZ where
 z:GZ
 ba:Nat
 bx:Nat
 br:Nat
 d:Nat
 la:Option Addr
 lc:Nat
 L0:LH
 R0:LH
 kd:CallKind
 c:Frame
 cs:List Frame
 Post:Value->World->Prop
 W0:World
abbrev MZ.wk(m:MZ)(L:LH):Prop:=OW m.z m.ba m.bx m.br m.la m.lc L
def Frz(m:MZ)(b:Nat):Prop:=(m.L0 b=none/\m.R0 b≠none)\/b=m.d
open Classical in
noncomputable def JX (m:MZ)(R:LH):LH:=λb=>if Frz m b then none else R b
def afB(m:MZ)(R:LH):Le (JX m R) R:=λb x u=>by
 unfold JX at u
 split at u
 .cases u
 .exact u
def aaj{m:MZ}{R:LH}(h:Le R L):Le (JX m R) (JX m L):=λb x u=>by
 unfold JX at u ⊢
 split at u
 .cases u
 .rename_i a;rw[A a];exact h b x u
structure Br(m:MZ)(R:LH):Prop where
 at_:m.wk (JX m R)
 keep:∀b x,m.L0 b=none->m.R0 b=some x->R b=some x
 jZ:∀b o wr,m.L0 b=some (o,wr)->∃tj,R b=some (o,tj)
 dd:R m.d=some (.deferred (some []),true)
def Br.le{m:MZ}{R:LH}(h:Br m R)(u:Le R L):Br m L:=
 ⟨(Dm.of_le (aaj u)).wk h.at_,λb x q z=>u _ _ (h.keep b x q z),λb o wr d=>let⟨w1,q⟩:=h.jZ b o wr d;⟨w1,u _ _ q⟩,u _ _ h.dd⟩
def Br.wk{m:MZ}{R:LH}(h:Br m R):m.wk R:=(Dm.of_le (afB m R)).wk h.at_
open Classical in
noncomputable def Iw (m:MZ)(R:LH):LH:=λb=>if Frz m b then R b else(R b).map λx=>(x.1,false)
open Classical in
noncomputable def OM (m:MZ)(R:LH):LH:=λb=>if Frz m b then none else(R b).map λx=>(x.1,false)
section
variable {m:MZ}{R g:LH}
def H0{x:Option (Obj×Bool)}{o:Obj}{j:Bool}(h:(x.map λx=>(x.1,false))=some (o,j)):j=false/\∃b,x=some (o,b):=by
 cases x with
 | none=>cases h
 | some y=>let⟨m,c⟩:=y;cases h;exact⟨rfl,_,rfl⟩
def abp{b:Nat}{o:Obj}{j:Bool}(h:Iw m R b=some (o,j)):∃u,R b=some (o,u)/\(j=true->u=true):=by
 unfold Iw at h
 split at h
 .exact⟨j,h,id⟩
 .obtain⟨rfl,c,p⟩:=H0 h;exact⟨c,p,λe=>by cases e⟩
def abm{b:Nat}{o:Obj}{j:Bool}(h:OM m R b=some (o,j)):∃u,R b=some (o,u)/\(j=true->u=true):=by
 unfold OM at h
 split at h
 .cases h
 .obtain⟨rfl,c,p⟩:=H0 h;exact⟨c,p,λe=>by cases e⟩
def Lz1{b:Nat}{o:Obj}(h:Iw m R b=some (o,true)):OM m R b=none:=by
 unfold Iw at h;unfold OM
 split at h
 .rename_i z;rw[ax z]
 .have:=(H0 h).1;cases this
def Lz2{b:Nat}{o:Obj}(h:OM m R b=some (o,true)):Iw m R b=none:=by
 unfold OM at h
 split at h
 .cases h
 .have:=(H0 h).1;cases this
def aet(u:Le g R):Dm (JX m g) (OM m R):=λb o wr d=>by
 unfold JX at d
 split at d
 .cases d
 .rename_i a;unfold OM;rw[A a,u _ _ d];exact⟨false,rfl⟩
def abo(h:Br m g)(u:Le g R):Br m (Iw m R):=by
 refine⟨Dm.wk (λb o wr d=>?_) h.at_,λb x q z=>?_,λb o wr d=>?_,?_⟩
 .unfold JX at d ⊢
  split at d
  .cases d
  .rename_i a;rw[A a];unfold Iw;rw[A a,u _ _ d];exact⟨false,rfl⟩
 .let r:=h.keep b x q z;unfold Iw;rw[ax (.inl ⟨q,by rw[z];simp⟩)];exact u _ _ r
 .let⟨w1,q⟩:=h.jZ b o wr d;unfold Iw
  split
  .exact⟨w1,u _ _ q⟩
  .rw[u _ _ q];exact⟨false,rfl⟩
 .unfold Iw;rw[ax (.inr rfl)];exact u _ _ h.dd
end
section
variable {b:bH}{H:Nat}{Post:dp}{W0:World}{d:Goroutine->LH->Prop}
def Vk(z:GZ):∀w,z.z.b.Φ 353 w->WgLive 284 z.W w:=λ_ h=>h.1
def abD(z:GZ)(Nx:cg):Xr (z.z.b.Φ 353) z.W (λg L=>g.status=.running/\BKd z.z.b 353 Nx g L) (λg L=>g.status=.running/\aa8 z.z.b 353 Nx g L) (λg L=>g.status=.running/\BSd z.z.b 353 Nx g L) (λg L=>g.status=.running/\BEn z.z.b 353 Nx g L) (λg L=>g.status=.running/\BGo z.z.b 353 Nx g L) where
 h1:=λg g' L h1 h2 h3=>⟨h1,g',h2,h3⟩
 h2:=λg L h1 h2=>⟨h1,h2⟩
 h3:=λg g' L h1 h2 h3=>⟨h1,g',h2,h3⟩
 h4:=λg g' L h1 h2 h3=>⟨h1,g',h2,h3⟩
def abI{s:Bool}{Φ:iF}{g:aT}{R:LH}(h:Rl s Φ n X g R):g.status=.running:=by
 obtain⟨T,kd,c,i,_,_,_,rfl,_⟩:=h
 rfl
noncomputable abbrev Ik (z:GZ)(Post:Value->World->Prop)(W0:World)(hxb:z.X≠z.B):Goroutine->LH->Prop:=Rl true (z.z.b.Φ 353) z.W (LJn z.z.b Post W0 hxb)
def OG(z:GZ)(hxb:z.X≠z.B):yL true (z.z.b.Φ 353) z.W (λg L=>g.status=.running/\Xt z.z.b 353 Post W0 (Ik z Post W0 hxb) g L) (λg L=>g.status=.running/\Y4 z.z.b 353 Post W0 (Ik z Post W0 hxb) g L) (λvs g L=>g.status=.running/\aa9 z.z.b 353 Post W0 (Ik z Post W0 hxb) vs g L)
  (λg L=>g.status=.running/\UQ z.z.b 353 Post W0 g L) (λg L=>g.status=.running/\Xv z.z.b 353 Post W0 g L) (λg L=>g.status=.running/\BL4 z.z.b 353 Post W0 g L) (λg L=>g.status=.running/\Xu z.z.b 353 Post W0 g L) (λg L=>g.status=.running/\Xs z.z.b Post W0 g L) (LJn z.z.b Post W0 hxb) (Ik z Post W0 hxb) where
 h1:=λg g' L h1 h2 h3=>⟨h1,g',h2,h3⟩
 h2:=λg L h1 h2 h3=>⟨h1,h2,h3⟩
 h3:=λvs g L h1 h2 h3=>⟨h1,h2,let⟨g',a,b⟩:=h3;⟨g',a,b.bind λg L ha=>.stop ⟨abI ha,ha⟩⟩⟩
 h4:=λg g' L h1 h2 h3=>⟨h1,g',h2,h3⟩
 h5:=λg L h1 h2 h3 h4=>⟨h1,h1,h2,h3,h4⟩
 h6:=λg L h1 h2=>⟨h1,h2⟩
 h7:=λg g' L h1 h2 h3=>⟨h1,g',h2,h3⟩
 h8:=λg g' L h1 h2 h3=>⟨h1,g',h2,λK st sm hK=>h3 K st sm hK⟩
end
noncomputable def agG:Code×List Code:=((Tryz.f161.body.bind (Ps 2 · [])).getD (.skip,[]))
noncomputable def nrC:Code:=match agG.1 with | .loop c=>c | _=>.skip
noncomputable def nrK:List Item:=.inBlock 2::agG.2.map .code
structure agm(m:MZ):Prop where
 ok:mH m.z.ro
 n4:m.z.n=4
 xb:m.z.X≠m.z.B
 kd:m.kd=.normal\/m.kd=.wrapped
 ret:∀R R' K st sm,m.z.z.b.KOk K->Br m R->R m.z.X=none->R m.z.B=none->Le ((((R.put m.z.X (m.z.z.b.xo st sm)).put m.z.B (m.z.z.b.ob K))).put m.d (.deferred none)) R'->pJ Tryz.prog m.Post m.W0 (G (m.c.finish (pt m.z.X)) m.cs) R'
section
variable {m:MZ}
noncomputable def YrZ (m:MZ)(An:cg):Nat->aM Tryz.prog
 | 0=>iY Tryz.prog true (m.z.z.b.Φ 353) (λg L=>g.status=.running/\Xt m.z.z.b 353 m.Post m.W0 An g L)
 | r+1=>iY Tryz.prog true (m.z.z.b.Φ 353) (λg L=>g.status=.running/\BKd m.z.z.b 353 (B5 m.z.z.b 353 m.Post m.W0 An r) g L)
def XB(m:MZ)(i:cg)(r:Nat):(YrZ m i r).Go=B5 m.z.z.b 353 m.Post m.W0 i r:=by cases r <;> rfl
def eZ(m:MZ)(k:Nat):Env:=[(1,pt m.br),(3,pt m.bx),(4,pt m.ba),(6,pt m.z.N),(7,pt m.z.W),(19,k)]
def adg(p:agm m):∀(r k:Nat),k+r=4->∀R,Br m R->W (⟨YrZ m (Ik m.z m.Post m.W0 p.xb) r,161,m.kd,none,m.c::m.cs,R,R⟩:Cx Tryz.prog) 26 [⟨.collected m.d,#[]⟩] (.code nrC::.inLoop nrC::nrK) (eZ m k) [] R:=by
 have x:m.kd≠.early:=by rcases p.kd with e | e <;> rw[e] <;> decide
 intro r
 induction r with
 | zero=>
  intro k C R l;obtain rfl:k=4:=M
  unfold eZ;refine .K O (.g O ?_);refine W.oF (args:=[mT (stA m.z.W)]) O O O O (UH (Vk m.z) (OG (Post:=m.Post) (W0:=m.W0) m.z p.xb) R) ?_;rintro Y v _ ⟨rfl,rfl,rfl⟩;refine .go 3 O ?_;refine .a (E':=[(3,.v (pt m.bx))]) (B':=[]) ?_;refine W.join (b:=m.z.z.b) (hxb:=p.xb) O O λs K I J t E u G=>?_;let q:=l.le t;let D:m.z.X≠m.z.B:=p.xb;let j:Le s ((s.put m.z.X (m.z.z.b.xo I J)).put m.z.B (m.z.z.b.ob K)):=(Le.put u _).trans (Le.put (by rw[aB _ _ D.symm];exact G) _);refine .G O (Vf.l O (j.cell q.wk.h3)) (.g O ?_);refine W.out O (.inr .ret) (WM.collected O (j _ _ q.dd) ?_);exact WM.ret (Q:=λv S=>v=pt m.z.X/\S=(((s.put m.z.X (m.z.z.b.xo I J)).put m.z.B (m.z.z.b.ob K))).put m.d (.deferred none)) (H:=λ_ _=>False) ⟨Tryz.func161,rfl,p.kd,m.c,m.cs,rfl,λv R' S hq a=>by
   obtain⟨rfl,rfl⟩:=hq;exact p.ret s R' K I J E q u G a.le,λ_ _ _ (h:False) _=>h.elim⟩ O O ⟨rfl,rfl⟩
 | succ r ih=>
  intro k C R l;unfold eZ;refine .I O (λe=>?_) (λe=>ar (Int.ofNat_lt.2 (show k<4 by omega)) (jX e));refine .g O ?_;refine W.oF (args:=[mT (stA m.z.W),.int .i64 1]) O O O O (XC (Vk m.z) (abD m.z (B5 m.z.z.b 353 m.Post m.W0 (Ik m.z m.Post m.W0 p.xb) r)) R) ?_;rintro Y v L1 ⟨rfl,rfl,rfl⟩;refine .g O ?_;refine .a (E':=eZ m k++[(22,.f (.func 210) [] [.v (pt m.z.W),.v (pt m.z.N),.v (pt m.ba),.v (pt m.bx),.v (pt m.br)])]) (B':=[]) ?_;unfold eZ;refine W.Ql (mn:=true) (Φ:=m.z.z.b.Φ 353) (S1:=λg L=>g.status=.running/\BGo m.z.z.b 353 (B5 m.z.z.b 353 m.Post m.W0 (Ik m.z m.Post m.W0 p.xb) r) g L) O O x O O O O O λT i g' y F t n=>?_;refine⟨y,g',_,Iw m T,OM m T,λw _=>F w,λb o wr h=>abp h,λb o wr h=>abm h,λb o h=>Lz1 h,λb o h=>Lz2 h,λf=>UL p.ok (by rw[p.n4];decide) ((aet t).wk l.at_) f,?_⟩;let hL:=abo l t;rw[<-XB];refine n (YrZ m (Ik m.z m.Post m.W0 p.xb) r) _ ?_;refine .g O ?_;refine W.fA (W.again (ih (k+1) M _ hL) ?_ qy);exact⟨rfl,rfl,rfl,rfl,rfl,aJ some (cr M),aE⟩
end
end
section
open Go.Proofs
structure LsK(bb bc:Nat)(ro:Ro)(p:BP)(L:LH):Prop where
 c:L.cell? ⟨bc,0,none⟩=some (pt bb)
 g:L.cell? ⟨bb,0,none⟩=some (.slice p.a0 ro.au.length p.c0)
 at_:bz L p.a0 4 kg ro.au
def LsK.le{t:Ro}{p:BP}(h:LsK n k t p L)(o:Le L R):LsK n k t p R:=⟨o.cell h.c,o.cell h.g,h.at_.le o⟩
abbrev ahg(f:List Int):List Value:=[.agg (ib f).toArray]
def adv{f:aH}{i:Nat}(u:i<f.length)(q:f.length<=4)(x:Int):BR ((ib f).map SV.v) (0+i * 1) [x]=(ib (f.set i x)).map SV.v:=by
 rcases f with _ | ⟨a,_ | ⟨b,_ | ⟨c,_ | ⟨d,_ | ⟨e,f⟩⟩⟩⟩⟩ <;> simp[pR,List.length_nil] at u q <;> rcases i with _ | _ | _ | _ | i <;> first | rfl | omega
def agE(f:aH)(i:n<4):nth ((ib f).map SV.v) (0+n * 1)=f.getD n 0:=by
 match n,i with
 | 0,_=>rfl
 | 1,_=>rfl
 | 2,_=>rfl
 | 3,_=>rfl
def aeU(n:Nat):ib (List.replicate n 0)=ib []:=by
 let h:∀i,(List.replicate n (0:Int)).getD i 0=0:=λi=>by
  rw[dL,IN]
  split <;> rfl
 unfold ib py;rw[h,h,h,h];rfl
theorem JW:∀{l:List Gl} {f:aH},f.length=l.length->(jv l f).length=l.length
 | [],[],_=>rfl
 | g::l,x::f,h=>by
  unfold jv
  split
  ·simpa using h
  ·rw[pR,JW ri,pR]
def NP{bb bc:Nat}{t:Ro}{p:BP}(s:mH t):Iter X 232 [pt bc] ahg (cP t.au) (LsK bb bc t p):=by
 intro yv J ai L z hJ;obtain⟨w,yt,yc,rfl⟩:=z.fn;have q6:=nq.zero hJ;have g1:=s.g1;have g4:=s.g4;have F:=z.inv _ _ hJ;let⟨a0,a1,a2,a3,a4,k0,k1,k2,k3,k4⟩:=p;obtain⟨a,ha⟩:=F.at_.addr (show 0<t.au.length by omega);obtain rfl:a0=some a:=ha;have q:∀i (I:i<t.au.length),(gr t.au)[i]?=some t.au[i].dw.lo:=λi I=>by unfold gr;rw[im,bX I];rfl
 have D:(gr t.au).length=t.au.length:=by unfold gr;simp
 refine Sp.e (n:=63) Tryz.func232 O λC hX z4 r=>?_;refine .G O (Vf.l O (F.c)) (.G O (Vf.l O (F.g)) (.g O ?_));refine .loop (λm' E B L'=>∃i:Nat,m'=t.au.length - i/\i<=t.au.length/\L'=L/\E=[(0,.v (.func w yt yc)),(1,.v (pt bc)),(3,.p 0 0),(13,.v (.slice (some a) t.au.length k0)),(14,.v (.int .i64 t.au.length)),(15,.v (.int .i64 i))]/\B=[some ⟨(ib ((gr t.au).take i++List.replicate (t.au.length - i) 0)).map .v,236⟩]) ⟨0,rfl,M,rfl,rfl,rfl⟩ uU (by rw[show ib ((gr t.au).take 0++List.replicate (t.au.length - 0) 0)=ib [] by rw[List.take_zero,yp];exact aeU _];exact⟨rfl,aE⟩) ?_ O (gV _ _ O)
 rintro _ _ _ L1 ⟨i,rfl,I,rfl,rfl,rfl⟩ again;refine .I O (λd1=>?_) (λd1=>?_)
 .have I:i<t.au.length:=by simpa using d1
  refine .g O ?_;have hx:=bX I;refine .u O (Vf.j O O (I)) (.G O (Vf.q O (F.at_.whole hx O)) (.G O (Vf.qi O O O O O O (show i<4 by omega)) ?_));have o:((gr t.au).take i++List.replicate (t.au.length - i) (0:Int)).length=t.au.length:=bU
  refine .fL O O (Ef.Ur O O O O O Aw QO Aw (by exact(adv (f:=(gr t.au).take i++List.replicate (t.au.length - i) 0) (i:=i) M M _))) ?_;rintro _ _ _ ⟨rfl,rfl,rfl⟩;refine .g O ?_;have hF:((gr t.au).take i++List.replicate (t.au.length - i) (0:Int)).set i t.au[i].dw.lo=(gr t.au).take (i+1)++List.replicate (t.au.length - (i+1)) 0:=by
   refine yU λj=>?_;rw[List.getElem?_set,o,List.getElem?_append,List.getElem?_append,List.getElem?_take,List.getElem?_take,IN,IN,mi,mi,D,yR M,yR M]
   by_cases e:i=j
   .subst e;rw[ax rfl,ax I,ax (by omega:i<i+1),ax (by omega:i<i+1),q i I]
   .rw[A e]
    by_cases h1:j<i
    .rw[ax h1,ax h1,ax (by omega:j<i+1),ax (by omega:j<i+1)]
    .rw[A h1,A (by omega:¬j<i+1)]
     by_cases h2:j<t.au.length
     .rw[ax (by omega:j - i<t.au.length - i),ax (by omega:j - (i+1)<t.au.length - (i+1))]
     .rw[A (by omega:¬j - i<t.au.length - i),A (by omega:¬j - (i+1)<t.au.length - (i+1))]
  exact .again (again _ _ _ _ M ⟨i+1,rfl,M,rfl,rfl,rfl⟩) (by exact⟨rfl,rfl,rfl,rfl,rfl,aJ some (cr M),aE⟩) (by exact⟨aJ (λf=>some (⟨(ib f).map SV.v,236⟩:Bx)) hF,aE⟩) O (gV _ _ O)
 .have u4:i=t.au.length:=by simp at d1;omega
  subst u4;clear again;rw[uu,List.replicate_zero,pf,<-D,lK,D];refine .go 10 O ?_;obtain⟨u9,u,u2⟩:=Jn (l:=t.au) λg hg=>by have:=s.gl g hg;omega
  have q7:=xz t.au;refine W.pt (λm' E B L'=>∃(k:Nat) (f:aH),m'=(cP t.au).length - k/\(cP t.au)[k]?=some f/\nq J vb ((cP t.au).take k) L'/\
    E=[(0,.v (.func w yt yc)),(1,.v (pt bc)),(3,.p 0 0),(6,.p 1 0)]/\B=[some ⟨(ib f).map .v,236⟩,some ⟨(ib (gr t.au)).map .v,236⟩])
   ⟨0,gr t.au,rfl,by rw[<-List.head?_eq_getElem?];exact u,q6,rfl,rfl⟩ LB kO ?_ O (gV _ _ (gV _ _ O))
  rintro _ _ _ L2 ⟨k,f,rfl,hk,q8,rfl,rfl⟩ again;have z5:=(eO.1 hk).1;obtain⟨q0,q9⟩:=oJ (fZ hk);have v0:cP t.au=(cP t.au).take k++f::(cP t.au).drop (k+1):=by
   rw[<-(eO.1 hk).2,List.getElem_cons_drop,List.take_append_drop]
  refine .g O ?_;have q1:=z.frame (λ_ _ o h=>h.le o) vb;have hy:=q1.yl _ _ _ L2 v0 q8;rw[<-hX] at hy;refine .e O (Ef.uz O O O hy) ?_;rintro _ _ _ ⟨_,rfl,rfl,G⟩;rcases G with⟨rfl,G⟩ | ⟨rfl,G⟩
  .have v1:(cP t.au).take k++[f]=(cP t.au).take (k+1):=by
    rw[IS,hk];rfl
   rw[v1] at G;have u5:=(q1.inv _ _ G).1;refine .K O (.G O (Vf.l O (u5.c)) (.G O (Vf.l O (u5.g)) (.g O ?_)));rename_i L3;refine W.Sj (λE' B' L'=>∃f',f'=jv t.au f/\L'=L3/\gR E' [(0,.v (.func w yt yc)),(1,.v (pt bc)),(3,.p 0 0),(6,.p 1 0)]/\mV B' [some ⟨(ib f').map .v,236⟩,some ⟨(ib (gr t.au)).map .v,236⟩]) ?_ ?_
   .rintro E' B' _ ⟨f',rfl,rfl,v2,v4⟩;refine .kI v2 v4 ?_ O (gV _ _ (gV _ _ O));refine .G O (Vf.ZN (xs:=py (jv t.au f)) (ys:=py (gr t.au)) (.inr O) O O O O aN (λn Q H R=>Ns (d:=n+1) Tryz.underlying236 Tryz.underlying3 wm um O O)) ?_;have v5:(jv t.au f).length=t.au.length:=JW q0
    by_cases K:k+1<(cP t.au).length
    .have y:=u9.get k f _ hk (bX K);have v6:jv t.au f≠gr t.au:=λe=>by
      rw[<-y] at e;have h0:(cP t.au)[0]?=some (gr t.au):=by rw[<-List.head?_eq_getElem?];exact u
      obtain⟨v7,v8⟩:=eO.1 h0;have:=(List.getElem_inj q7 (h₀:=K) (h₁:=v7)).1 (e.trans v8.symm);omega
     rw[show zx .neq (decide (py (jv t.au f)=py (gr t.au)))=true by
      rw[mB (λe=>v6 (Nz (v5.trans D.symm) M e))];rfl]
     refine .N O (.go 1 O ?_);refine W.goto O ?_;refine .go 2 O ?_;exact .again (again _ _ _ _ M ⟨k+1,jv t.au f,rfl,by rw[bX K,y],G,rfl,rfl⟩) ⟨rfl,rfl,rfl,rfl,aE⟩ ⟨rfl,rfl,aE⟩ O (gV _ _ (gV _ _ O))
    .have q2:k+1=(cP t.au).length:=by omega
     have v9:f=XZ t.au:=by
      rw[List.getLast?_eq_getElem?,<-q2,Nat.add_sub_cancel,hk] at u2;exact bR u2
     have he:jv t.au f=gr t.au:=by rw[v9];exact JV _
     rw[he];rw[show zx .neq (decide (py (gr t.au)=py (gr t.au)))=false by rw[jY rfl];rfl];refine .K O (.g O ?_);rw[q2,lK] at G;exact W.lM r O O ⟨rfl,.inl G⟩
   .intro b;refine .loop (λm' E B L'=>∃i:Nat,m'=t.au.length - i/\i<=t.au.length/\L'=L3/\jv t.au f=(gr t.au).take i++jv (t.au.drop i) (f.drop i)/\E=[(0,.v (.func w yt yc)),(1,.v (pt bc)),(3,.p 0 0),(6,.p 1 0),(35,.v (.slice (some a) t.au.length k0)),(36,.v (.int .i64 t.au.length)),(37,.v (.int .i64 i))]/\B=[some ⟨(ib ((gr t.au).take i++f.drop i)).map .v,236⟩,some ⟨(ib (gr t.au)).map .v,236⟩]) ⟨0,rfl,M,rfl,U,rfl,rfl⟩ rj kO ?_ O (gV _ _ (gV _ _ O))
    rintro _ _ _ _ ⟨i,rfl,I,rfl,u6,rfl,rfl⟩ S;refine .I O (λd2=>?_) (λd2=>?_)
    .have I:i<t.au.length:=by simpa using d2
     refine .g O ?_;have hx:=bX I;have m:i<f.length:=M
     have z6:=s.gl _ (fY I);have z1:=q9 i _ (bX m);obtain⟨g,q3,z2⟩:=z1;rw[hx] at q3;obtain rfl:=bR q3;unfold HF at z2;have q4:t.au.drop i=t.au[i]::t.au.drop (i+1):=lj I;have T:f.drop i=f[i]::f.drop (i+1):=lj m;have z3:((gr t.au).take i++f.drop i).length=t.au.length:=by rw[eX,mi,yZ,D,q0];omega
     have u1:((gr t.au).take i).length=i:=by rw[mi,D];omega
     have q5:((gr t.au).take i++f.drop i).getD i 0=f[i]:=by
      rw[T,dL,lh M,u1,uu];rfl
     have u3:∀x:Int,((gr t.au).take i++f.drop i).set i x=(gr t.au).take i++x::f.drop (i+1):=λx=>by
      rw[IU _ _ M,u1,uu,T];rfl
     refine .u O (Vf.j O O (I)) (.G O (Vf.q O (u5.at_.whole hx O)) (.G O (Vf.qi O O O O O O (show i<4 by omega)) (.u O (Vf.vZ O O O O (agE ((gr t.au).take i++f.drop i) (show i<4 by omega))) (.g O ?_))));rw[q5,wrap64_in (f[i]+1) M M];refine .u O (Vf.qi O O O O O O (show i<4 by omega)) ?_;refine .fL O O (Ef.Ur O O O O O Aw QO Aw (by exact(adv (f:=(gr t.au).take i++f.drop i) (i:=i) M M _))) ?_;rintro _ _ _ ⟨rfl,rfl,rfl⟩;rw[u3];refine .g O ?_;have z7:((gr t.au).take i++(f[i]+1)::f.drop (i+1)).length=t.au.length:=by rw[<-u3,Fb,z3]
     have u7:((gr t.au).take i++(f[i]+1)::f.drop (i+1)).getD i 0=f[i]+1:=by
      rw[dL,lh M,u1,uu];rfl
     have u8:∀x:Int,((gr t.au).take i++(f[i]+1)::f.drop (i+1)).set i x=(gr t.au).take i++x::f.drop (i+1):=λx=>by
      rw[IU _ _ M,u1,uu];rfl
     refine .z (.run' [0] O (.u 1 O (Vf.qi O O O O O O ((show i<4 by omega))) (.u 2 O (Vf.vZ O O O O ((agE ((gr t.au).take i++(f[i]+1)::f.drop (i+1)) (show i<4 by omega)))) (.run' [3,4,5,6] O (.fin O ?_)))));rw[u7];refine .s O (λd3=>?_) (λd3=>?_)
     .refine .go 2 O ?_;have y:jv t.au f=(gr t.au).take i++(f[i]+1)::f.drop (i+1):=by
       rw[u6,q4,T];show _++(if f[i]+1<=t.au[i].dw.hi then _ else _)=_;rw[ax (by simpa using d3)]
      exact b _ _ _ ⟨_,rfl,rfl,⟨rfl,rfl,rfl,rfl,aE⟩,by rw[y];exact⟨rfl,rfl,aE⟩⟩
     .refine .G O (Vf.qi O O O O O O (show i<4 by omega)) ?_;refine .fL O O (Ef.Ur O O O O O Aw QO Aw (by exact(adv (f:=(gr t.au).take i++(f[i]+1)::f.drop (i+1)) (i:=i) M M _))) ?_;rintro _ _ _ ⟨rfl,rfl,rfl⟩;rw[u8];refine .g O ?_;have y:jv t.au f=(gr t.au).take (i+1)++jv (t.au.drop (i+1)) (f.drop (i+1)):=by
       rw[u6,q4,T];show _++(if f[i]+1<=t.au[i].dw.hi then _ else t.au[i].dw.lo::jv _ _)=_;rw[A (by simpa using d3),IS,q i I];simp
      have hB:(gr t.au).take i++t.au[i].dw.lo::f.drop (i+1)=(gr t.au).take (i+1)++f.drop (i+1):=by
       rw[IS,q i I];simp
      exact .again (S _ _ _ _ M ⟨i+1,rfl,M,rfl,y,rfl,rfl⟩) (by exact⟨rfl,rfl,rfl,rfl,rfl,rfl,aJ some (cr M),aE⟩) (by exact⟨aJ (λf=>some (⟨(ib f).map SV.v,236⟩:Bx)) hB,rfl,aE⟩) O (gV _ _ (gV _ _ O))
    .have u4:i=t.au.length:=by simp at d2;omega
     subst u4;refine .go 2 O ?_;have y:jv t.au f=(gr t.au).take t.au.length++f.drop t.au.length:=by
      rw[u6,nX (dA _),nX M];rfl
     exact b _ _ _ ⟨_,rfl,rfl,⟨rfl,rfl,rfl,rfl,aE⟩,by rw[y];exact⟨rfl,rfl,aE⟩⟩
  .refine .N O (.D r O ?_);exact⟨rfl,.inr G⟩
end
section
set_option maxHeartbeats 1000000
open Go.ConcN Go.Proofs
open Go.ConcR (KK wgBlock WgAt stA smA rd wr mk)
def Nk(f:aH):(ib f).length=4:=rfl
def acd(f:aH):∀u∈ib f,single u=true:=λu q=>by
 obtain⟨z,_,rfl⟩:=fK.1 q;rfl
def Te(b:Nat)(L:LH):Sp X 209 [pt b] L (λv u=>∃a,v=.func (.func 232) #[] #[pt a]/\u a=some (.cells #[pt b] 173 (0,0),true)/\L a=none/\Le L u):=by
 refine Sp.e Tryz.func209 O λC j d r=>(.de [2] 99 O (.cz 1 (.inl ⟨_,rfl⟩) O O ?_));intro a s _;refine .D r O ⟨a,rfl,aj _ _ _,s,Le.put s _⟩
abbrev Yq(ro:Ro)(p:BP)(mb:Nat)(st sm:Int):List Value:=jU ro p++[Value.int .i32 st,Value.int .u32 sm,Value.map (some mb)]
def nr1(L:LH)(ro:Ro)(p:BP)(br:Nat):LH:=L.put br (.cells (jU ro p).toArray 48)
def nr2(L:LH)(ro:Ro)(p:BP)(br mb:Nat):LH:=(nr1 L ro p br).put mb (.map #[] 0)
def nr3(L:LH)(ro:Ro)(p:BP)(br mb bb:Nat):LH:=(nr2 L ro p br mb).put bb (.cells (Yq ro p mb 0 0).toArray 232)
def nr4(L:LH)(ro:Ro)(p:BP)(br mb bb bx:Nat):LH:=(nr3 L ro p br mb bb).put bx (.cells #[pt bb] 173)
def nr5(L:LH)(ro:Ro)(p:BP)(br mb bb bx ba:Nat):LH:=(nr4 L ro p br mb bb bx).put ba (.cells #[.slice none 0 0] 348)
structure NrF(L L5:LH)(ro:Ro)(p:BP)(br mb bb bx ba:Nat):Prop where
 f1:L5 br=some (.cells (jU ro p).toArray 48 (0,0),true)
 f2:L5 mb=some (.map #[] 0,true)
 f3:L5 bb=some (.cells (Yq ro p mb 0 0).toArray 232 (0,0),true)
 f4:L5 bx=some (.cells #[pt bb] 173 (0,0),true)
 f5:L5 ba=some (.cells #[.slice none 0 0] 348 (0,0),true)
 le:Le L L5
 n1:L br=none
 n2:L mb=none
 n3:L bb=none
 n4:L bx=none
 n5:L ba=none
def ahH{ro:Ro}{p:BP}{d z:Nat}(a:L n=none)(o:nr1 L ro p n k=none)(r:nr2 L ro p n k m=none)(x:nr3 L ro p n k m d=none)(t:nr4 L ro p n k m d z=none):NrF L (nr5 L ro p n k m d z) ro p n k m d z:=by
 let v:Le L (nr1 L ro p n):=Le.put a _;let q:Le (nr1 L ro p n) (nr2 L ro p n k):=Le.put o _;let u:Le (nr2 L ro p n k) (nr3 L ro p n k m):=Le.put r _;let i:Le (nr3 L ro p n k m) (nr4 L ro p n k m d):=Le.put x _;let f:Le (nr4 L ro p n k m d) (nr5 L ro p n k m d z):=Le.put t _;exact⟨f _ _ (i _ _ (u _ _ (q _ _ (aj _ _ _)))),f _ _ (i _ _ (u _ _ (aj _ _ _))),f _ _ (i _ _ (aj _ _ _)),f _ _ (aj _ _ _),aj _ _ _,v.trans (q.trans (u.trans (i.trans f))),a,bN v o,bN (v.trans q) r,bN (v.trans (q.trans u)) x,bN (v.trans (q.trans (u.trans i))) t⟩
structure tl(L:LH)(bb mb:Nat)(ro:Ro)(p:BP)(ks:List FG):Prop where
 row:∃st sm,L bb=some (.cells (Yq ro p mb st sm).toArray 232 (0,0),true)
 mp:L mb=some (.map (kU ks) ks.length,true)
 at_:iG L ro p
 pm:ks.Perm (eB ro ro.aQ)
def S6{t:Ro}{s:Nat->FG}(d:∀i,i<(cP t.au).length->s i=((cP t.au).getD i [-1],dx t ((cP t.au).getD i [-1]) t.aQ))(y:q.Nodup)(u:∀i,i∈q↔i<(cP t.au)/\decide (0<eo (s i).2)=true):(q.map s).Perm (eB t t.aQ):=by
 let v:q.Perm ((List.range (cP t.au)).filter λi=>decide (0<eo (s i).2)):=by
  rw[List.perm_ext_iff_of_nodup y (List.nodup_range.filter _)];intro i;rw[u,nH,fo]
 let z:eB t t.aQ=((List.range (cP t.au)).filter λi=>decide (0<eo (s i).2)).map s:=by
  unfold eB;let e:(cP t.au).map (λf=>(f,dx t f t.aQ))=(List.range (cP t.au)).map s:=by
   refine yU λi=>?_;rw[im,im]
   by_cases h:i<(cP t.au)
   .rw[Fj h,bX h];show some _=some _;rw[d i h,dL,bX h];rfl
   .rw[mh M,mh bU];rfl
  rw[e,List.filter_map]
  rfl
 rw[z];exact v.map s
def aai{Post:dp}{W0:World}(t:Ro)(p:BP)(L:LH)(v0:iG L t p)(ok:mH t):Sp (jV Tryz.prog Post W0) 161 [xL t p] L (λv L'=>∃D G ks,v=pt D/\tl L' D G t p ks/\Dm L L'/\L D=none/\L G=none):=by
 let m8:(cP t.au).length<=256:=by
  refine lI (xx λg hg=>?_) (Cq (n:=4) V ok.g4);have:=ok.gl g hg;omega
 refine Sp.enter (n:=26) Tryz.func161 O O O O λC hX _ u6 r=>?_;refine .de [2] 99 O (.cz 1 (.inl ⟨_,rfl⟩) O O ?_);intro br a6 _;refine .G O (Vf.q O (dU (vs:=jU t p) (aj _ _ _) O)) (.e O (Ef.makeMap) ?_);rintro _ _ _ ⟨G,rfl,rfl,z9,rfl⟩;refine .de [3] 99 O (.cz 11 (.inl ⟨_,rfl⟩) O O ?_);intro D d0 _;refine .de [12] 99 O (.cz 3 (.inl ⟨_,rfl⟩) O O ?_);intro bx d4 _;refine .cz 4 (.inl ⟨_,rfl⟩) O O ?_;intro S d5 _;have F:=ahH (ro:=t) (p:=p) a6 z9 d0 d4 d5
 change W _ _ _ _ _ _ (nr5 L t p br G D bx S)
 generalize nr5 L t p br G D bx S=L5 at F ⊢;clear z9 d0 d4 d5;refine .G O (Vf.l O (aF F.f4 O)) (.o O (Te D L5) ?_);rintro _ _ ⟨bc,rfl,g1,n6,g2⟩;rename_i L6;have d6:=g2 _ _ F.f5;have a7:bc≠S:=λe=>by subst e;rw[F.f5] at n6;cases n6
 have u3:D≠S:=λe=>by have H:=F.f3;have I:=F.f5;subst e;rw[H] at I;exact ar I U
 have v5:Le L (L6.bT S):=λb x u=>by rw[bW (λe=>by subst e;rw[F.n5] at u;cases u)];exact g2 _ _ (F.le _ _ u)
 refine .go 3 O ?_;refine W.iter (L6.bT S) (gC _ _) (λm L'=>∃v ob,L' S=some (.cells #[v] 348 (0,0),true)/\dB L' 4 236 v m.length (m.flatMap ib) ob/\∀b,ob=some b->L6.bT S b=none) (λ_ _=>False)
  (NP (bb:=D) (bc:=bc) (p:=p) ok) ⟨_,rfl,rfl,rfl⟩ oO [(13,.v (.func (.func 232) #[] #[pt bc])),(4,.v (pt S))] kO O O O
  ?_ (λ_ _ _ _ h=>h) ?_ ?_ O (λ_=>rfl) ?_ ?_ ?_
 .rintro m L1 L2 hl ⟨v,ob,q1,w,q3⟩;exact⟨v,ob,hl _ _ q1,w.le hl,q3⟩
 .rintro m L' hl _;have u7:=v5.trans hl;exact⟨hl.cell (aF (by rw[bW a7];exact g1) O),hl.cell (aF (by rw[bW u3];exact g2 _ _ F.f3) O),v0.h0.le u7⟩
 .exact⟨.slice none 0 0,none,ia d6,dB.nil,λb Q=>by cases Q⟩
 .rintro d l m x post L' q lb u u4 ⟨v,ob,q1,w,q3⟩ v6 v7 d7 c1 c2 C' d1 d2 d8 v8 -;refine .g O ?_;refine d8 _ _ _ λL2 r1 r0=>?_;have r2:L2 d=some (.deferred (some []),true):=by rw[r0 _ d7.symm];exact c2
  have u7:Le (L6.bT S) L2:=λb o ho=>by rw[r0 _ (λe=>by subst e;rw[v6] at ho;cases ho)];exact u4 _ _ ho
  have d9:l≠S:=λe=>by rw[e,q1] at c1;cases c1
  have u8:L2 S=some (.cells #[v] 348 (0,0),true):=by rw[r0 _ d9.symm];exact q1
  have i0:∀b,ob=some b->b≠l:=λb Q e=>by
   obtain⟨cp,cc,_,w2,_⟩:dB L' 4 236 v m.length (m.flatMap ib) (some b):=Q▸w;rw[e,c1] at w2;cases w2
  have v9:dB L2 4 236 v m.length (m.flatMap ib) ob:=w.keep λb Q=>r0 _ (i0 b Q);have a8:∀b,ob=some b->b≠S:=λb Q e=>by
   obtain⟨cp,cc,_,w2,_⟩:dB L2 4 236 v m.length (m.flatMap ib) (some b):=Q▸v9;rw[e,u8] at w2;exact ar w2 U
  refine .G O (Vf.l O (aF u8 O)) (.g O ?_);have a9:bE (L2.less ob.toList) 4 236 ib L2 v m:=⟨Eg _ _,ob,v9,λb Q=>lT (by rw[Q];simp)⟩;have i2:m.length+1<=1073741824:=by
   have H:=aJ List.length u;rw[eX,pR] at H;omega
  refine .e O (Ef.grow O O O O O O O O O Nk acd a9 (ls:=[x]) (.own O O O O) i2) ?_;rintro _ _ L4 ⟨v',rfl,rfl,hg,m7⟩;obtain⟨u9,i3,z1,o0⟩:=hg;have mz:S∉ob.toList:=λhm=>a8 S (IW.1 hm) rfl;have g4:L4 S=some (.cells #[v] 348 (0,0),true):=u9 _ _ (by rw[gJ mz];exact u8);have o1:∀b,i3=some b->b≠S:=λb Q e=>by
   obtain⟨cp,cc,_,w2,_⟩:dB L4 4 236 v' (m++[x]).length ((m++[x]).flatMap ib) (some b):=Q▸z1;rw[e,g4] at w2;exact ar w2 U
  obtain⟨av,cv,rfl,m9⟩:=z1.slice;refine .fL O O (Ef.eR O ⟨_,rfl,rfl⟩ O g4 O (dA _) (bQ O)) ?_;rintro _ _ _ ⟨rfl,rfl,rfl⟩;refine .g O ?_;have o2:l∉ob.toList:=λhm=>i0 l (IW.1 hm) rfl;have o3:d∉ob.toList:=λhm=>by
   obtain⟨cp,cc,_,w2,_⟩:dB L2 4 236 v m.length (m.flatMap ib) (some d):=(IW.1 hm)▸v9;rw[r2] at w2;cases w2
  have o4:d≠S:=λe=>by rw[e,u8] at r2;cases r2
  have o5:Le (L6.bT S) L4:=λb o ho=>u9 b o (by
   rw[gJ (λhm=>by rw[q3 b (IW.1 hm)] at ho;cases ho)];exact u7 _ _ ho)
  refine v8 _ _ _ _ .nil (by rw[aB _ _ d9];exact u9 _ _ (by rw[gJ o2];exact r1)) (by rw[aB _ _ o4];exact u9 _ _ (by rw[gJ o3];exact r2))
   (aG o5 QM _) ⟨_,i3,ia (aj _ _ _),(z1.keep λb Q=>aB _ _ (o1 b Q)).calm,λb Q=>?_⟩
  have:=o0 b Q;unfold LH.less at this
  split at this
  .rename_i hm;exact q3 b (IW.1 hm)
  .exact bN u7 this
 .rintro d l L' u4 v6 v7 ⟨v,ob,q1,w,q3⟩ hd;obtain⟨la,lc,rfl,g0⟩:=w.slice;refine .de [19] 99 O (.cz 6 (.inl ⟨_,rfl⟩) O O ?_);intro E z2 _;refine .cz 7 (.inl ⟨_,rfl⟩) O O ?_;intro a i6 _;have f6:Le L' (L'.put E (.cells #[.int .i64 0] 353)):=Le.put z2 _;have f7:Le (L'.put E (.cells #[.int .i64 0] 353)) ((L'.put E (.cells #[.int .i64 0] 353)).put a (.cells #[.int .u64 0,.int .u32 0] 284)):=Le.put i6 _;have k6:=f7 _ _ (aj L' E (.cells #[.int .i64 0] 353));have k7:=aj (L'.put E (.cells #[.int .i64 0] 353)) a (.cells #[.int .u64 0,.int .u32 0] 284);have u1:=f6.trans f7;have q8:=bN f6 i6
  change W _ _ _ _ _ _ ((L'.put E (.cells #[.int .i64 0] 353)).put a (.cells #[.int .u64 0,.int .u32 0] 284))
  generalize(L'.put E (.cells #[.int .i64 0] 353)).put a (.cells #[.int .u64 0,.int .u32 0] 284)=L7 at k6 k7 u1 ⊢;clear f6 f7;refine .g O ?_;refine .a (E':=[(1,.v (pt br)),(3,.v (pt bx)),(4,.v (pt S)),(6,.v (pt E)),(7,.v (pt a)),(19,.v (.int .i64 (0:Nat)))]) (B':=[]) ?_
  -- ajy ajO in C4 heap
  have s:∀{b:Nat} {x:Obj×Bool},L5 b=some x->b≠S->L' b=some x:=λh H=>u4 _ _ (by rw[bW H];exact g2 _ _ h);have o6:br≠S:=λe=>by have H:=F.f1;have I:=F.f5;subst e;rw[H] at I;exact ar I U
  have o7:bx≠S:=λe=>by have H:=F.f4;have I:=F.f5;subst e;rw[H] at I;exact ar I U
  have i7:G≠S:=λe=>by have H:=F.f2;have I:=F.f5;subst e;rw[H] at I;cases I
  have xb:D≠G:=λe=>by have H:=F.f3;have I:=F.f2;subst e;rw[H] at I;cases I
  have v1:=s F.f1 o6;have v2:=s F.f2 i7;have v3:=s F.f3 u3;have v4:=s F.f4 o7;have q0:Le L L':=v5.trans u4;have m1:=u1 _ _ v1;have m2:=u1 _ _ v2;have m3:=u1 _ _ v3;have m4:=u1 _ _ v4;have m5:=u1 _ _ q1;have md:=u1 _ _ hd;have o8:a≠E:=λe=>by subst e;rw[k6] at k7;exact ar k7 U
  have ne:∀{b:Nat} {x:Obj×Bool},L' b=some x->b≠a/\b≠E:=λh=>⟨λe=>(by subst e;rw[q8] at h;cases h),λe=>(by subst e;rw[z2] at h;cases h)⟩;have w3:=ne v3;have w2:=ne v2;have wd:=ne hd;have d3:d≠D:=λe=>by subst e;rw[v3] at hd;cases hd
  have d2:d≠G:=λe=>by subst e;rw[v2] at hd;cases hd
  have z3:L d=none:=bN v5 v7;have u5:∀b,b∈[a,D,E,G,d]->L b=none:=λb Q=>by
   simp only[eP,kB,or_false] at Q;rcases Q with rfl | rfl | rfl | rfl | rfl
   .exact bN q0 q8
   .exact F.n3
   .exact bN q0 z2
   .exact F.n2
   .exact z3
  have q4:∀{b:Nat} {x:Obj×Bool},L' b=some x->b≠D->b≠G->b≠d->b∉[a,D,E,G,d]:=λh H I h3 hm=>by
   have:=ne h;simp only[eP,kB,or_false] at hm;rcases hm with e | e | e | e | e
   .exact this.1 e
   .exact H e
   .exact this.2 e
   .exact I e
   .exact h3 e
  have i1:=q4 v1 (λe=>by subst e;rw[v1] at v3;exact ar v3 U) (λe=>by subst e;rw[v1] at v2;cases v2) (λe=>by subst e;rw[v1] at hd;cases hd);have i4:=q4 v4 (λe=>by subst e;rw[v4] at v3;exact ar v3 U) (λe=>by subst e;rw[v4] at v2;cases v2) (λe=>by subst e;rw[v4] at hd;cases hd);have i5:=q4 q1 (λe=>u3 e.symm) (λe=>i7 e.symm) (λe=>by subst e;rw[q1] at hd;cases hd);have o9:dB (L7.less [a,D,E,G,d]) 4 236 (.slice la (cP t.au).length lc) (cP t.au).length ((cP t.au).flatMap ib) ob:=by
   refine w.keep λb Q=>?_;obtain⟨cp,cc,_,u2,_⟩:dB L' 4 236 (.slice la (cP t.au).length lc) (cP t.au).length ((cP t.au).flatMap ib) (some b):=Q▸w;have q5:=q4 u2 (λe=>by subst e;rw[u2] at v3;exact ar v3 U) (λe=>by subst e;rw[u2] at v2;cases v2) (λe=>by subst e;rw[u2] at hd;cases hd);rw[gJ q5,u1 _ _ u2,u2]
  have t0:Le L (L7.less [a,D,E,G,d]):=JG (q0.trans u1) u5
  let z0:Nat->GZ:=λk=>{W:=a,X:=D,N:=E,B:=G,ro:=t,p:=p,n:=4,base:=k}
  have t3:∀k,OW (z0 k) S bx br la lc (L7.less [a,D,E,G,d]):=λk=>by
   refine⟨aF ((gJ i5).trans m5) O,o9.at Nk,aF ((gJ i4).trans m4) O,aF ((gJ i1).trans m1) O,v0.le t0⟩
  intro T R β hT hE hH;have z4:C.f=161:=by assumption
  obtain⟨hf,t4,t5,cf,cs,t6,q9,-⟩:=r;rw[hX] at q9
  let mm:Nat->MZ:=λk=>{z:=z0 k,ba:=S,bx:=bx,br:=br,d:=d,la:=la,lc:=lc,L0:=C.L0,R0:=C.R0,kd:=C.kd,c:=cf,cs:=cs,Post:=Post,W0:=W0}
  have t7:∀k b,L7 b≠none->b≠d->¬Frz (mm k) b:=λk b Q t8 h=>by
   rcases h with⟨H,I⟩ | H
   .exact(hH.fresh b Q).elim (λh=>h H) I
   .exact t8 H
  have nw:∀{b:Nat},L7 b≠none->L b=none->C.R0 b=none:=λh h'=>(hH.fresh _ h).resolve_left (λI=>I (by rw[u6];exact h'));have r3:C.R0 D=none:=nw (by rw[m3];simp) F.n3;have r2:C.R0 G=none:=nw (by rw[m2];simp) F.n2;have t9:C.R0 d=none:=nw (by rw[md];simp) z3;have m0:C.R0 a=none:=nw (by rw[k7];simp) (u5 a U);have rn:C.R0 E=none:=nw (by rw[k6];simp) (u5 E U);obtain⟨Rw,i8⟩:∃Rw:LH,Rw=λy=>if y=a\/y=D\/y=E\/y=G then none else R y:=⟨_,rfl⟩;have q6:∀{b:Nat},b≠a->b≠D->b≠E->b≠G->Rw b=R b:=λH I h3 h4=>by rw[i8];simp only;rw[A (by simp[H,I,h3,h4])]
  have i9:∀k,Le (L7.less [a,D,E,G,d]) (JX (mm k) Rw):=λk b y hy=>by
   have q5:b∉[a,D,E,G,d]:=λh=>by rw[lT h] at hy;cases hy
   have f0:=Eg _ _ _ _ hy;simp only[eP,kB,or_false,not_or] at q5;obtain⟨a1,a2,a3,a4,a5⟩:=q5;unfold JX;rw[A (t7 k b (by rw[f0];simp) a5),q6 a1 a2 a3 a4];exact hH.le _ _ f0
  have f8:∀k,Br (mm k) Rw:=λk=>by
   refine⟨(Dm.of_le (i9 k)).wk (t3 k),λb y H I=>?_,λb o wr Q=>?_,?_⟩
   .have J:∀{b':Nat},C.R0 b'=none->b≠b':=λh e=>by subst e;exact ar (I.symm.trans h) U
    rw[q6 (J m0) (J r3) (J rn) (J r2)];exact hH.keep b y H I
   .have z5:L b=some (o,wr):=by rw[<-u6];exact Q
    have J:∀{b':Nat},L b'=none->b≠b':=λh e=>by subst e;rw[h] at z5;cases z5
    rw[q6 (J (u5 a U)) (J F.n3) (J (u5 E U)) (J F.n2)];exact⟨wr,hH.le _ _ (u1 _ _ (q0 _ _ z5))⟩
   .exact(q6 wd.1 d3 wd.2 d2).trans (hH.le _ _ md)
  have hz:∀k,agm (mm k):=λk=>by
   refine⟨ok,rfl,xb,t5,λR1 R' K st sm hK H u Q z6=>?_⟩
   let Lz:LH:=λb=>open Classical in if C.L0 b≠none\/C.R0 b=none then R' b else none
   have z7:∀{b:Nat},(C.L0 b≠none\/C.R0 b=none)->Lz b=R' b:=λh=>ax h;have m6:Le Lz R':=λb y hy=>by
    have:(open Classical in if C.L0 b≠none\/C.R0 b=none then R' b else none)=some y:=hy
    split at this
    .exact this
    .cases this
   have e3:R' D=some (.cells (Yq t p G st sm).toArray 232 (0,0),true):=z6 _ _ (by
    show(((R1.put D _).put G _).put d _) D=_;rw[aB _ _ (dG d3),aB _ _ xb,aj])
   have e2:R' G=some (.map (kU (K.map (z0 k).kx)) K.length,true):=z6 _ _ (by
    show(((R1.put D _).put G _).put d _) G=_;rw[aB _ _ (dG d2),aj])
   have other:∀{b:Nat} {y:Obj×Bool},b≠D->b≠G->b≠d->R1 b=some y->R' b=some y:=λH I h3 h4=>z6 _ _ (by
    show(((R1.put D _).put G _).put d _) _=_;rw[aB _ _ h3,aB _ _ I,aB _ _ H];exact h4)
   have z8:Dm L Lz:=λb o wr Q=>by
    have f9:C.L0 b=some (o,wr):=by rw[u6];exact Q
    obtain⟨w1,I⟩:=H.jZ b o wr f9;have J:∀{b':Nat},L b'=none->b≠b':=λh e=>by subst e;rw[h] at Q;cases Q
    exact⟨w1,(z7 (.inl (by rw[f9];simp))).trans (other (J F.n3) (J F.n2) (J z3) I)⟩
   refine q9 _ R' Lz ⟨D,G,K.map (z0 k).kx,rfl,⟨⟨st,sm,(z7 (.inr r3)).trans e3⟩,?_,z8.ro v0,S6 (λi hi=>rfl) hK.1 hK.2⟩,z8,F.n3,F.n2⟩ ⟨m6,λb x I h3=>?_,λb q7=>?_,λb q7=>?_⟩
   .rw[eT];exact(z7 (.inr r2)).trans e2
   .have J:∀{b':Nat},C.R0 b'=none->b≠b':=λh e=>by subst e;exact ar (h3.symm.trans h) U
    exact other (J r3) (J r2) (J t9) (H.keep b x I h3)
   .by_cases I:C.L0 b≠none\/C.R0 b=none
    .exact I
    .exact ar (show(open Classical in if C.L0 b≠none\/C.R0 b=none then R' b else none)=none from A I) q7
   .rw[u6] at q7;cases a0:L b with
    | none=>exact ar a0 q7
    | some y=>
     obtain⟨w1,I⟩:=z8 b y.1 y.2 a0;rw[I];simp
  rw[hX,t4,t6,z4];refine pJ.aiA (nt:=353) (Anch:=Ik (z0 0) Post W0 xb) (z0 0).z.b (show 1<=4 by decide) (show 4<=6 by decide) (λS0 H I=>⟨o8,λe=>w3.1 e.symm,λe=>w2.1 e.symm,λe=>w3.2 e.symm,λe=>w2.2 e.symm,xb,rfl,rfl,H,I,λst sm=>⟨_,_,_,rfl,rfl,rfl,rfl,rfl,rfl,show 2<=8 by decide⟩⟩)
   (hH.le _ _ k7) (hH.le _ _ m3) (hH.le _ _ k6) (hH.le _ _ m2) (λk g L h=>?_) (λk q hq=>?_)
  .exact RY (Vk (z0 k)) (OG (z0 k) xb) g L h
  .obtain rfl:4=q:=hq;show B5 (z0 k).z.b 353 Post W0 (Ik (z0 k) Post W0 xb) 4 _ _;have e:(λy=>if y=a\/y=D\/y=E\/y=G then none else R y)=Rw:=i8.symm;show B5 (z0 k).z.b 353 Post W0 (Ik (z0 k) Post W0 xb) 4 _ (λy=>if y=a\/y=D\/y=E\/y=G then none else R y);rw[e,<-XB (mm k)];exact W.mD (adg (hz k) 4 0 O _ (f8 k)) T _ fe hT (hE.adY uU O) (bJ.all _)
 .rintro d l j L' u4 v6 v7 h;exact h.elim
end
section
open Go.Proofs
def MX(ro:Ro):Option Int->Bool
 | some n=>cV n 0 ((ro.samples.length:Int) - 1)
 | none=>true
def abM:Option Int->Bool
 | some n=>cV n 0 60
 | none=>true
def pn(ro:Ro)(x:me)(y:me):Int:=match MX ro x,abM y with
 | false,_=>3
 | true,false=>1
 | true,true=>0
def yu(x:me):List Int:=x.toList
def yrV:Option (Addr×Int)->Value
 | some (a,_)=>.pointer (some a)
 | none=>.pointer none
structure Io(L:LH)(b0 b1 b2 b3 b4:Nat)(ro:Ro)(p:BP)(sa:Option Addr)(sc:Nat)(x:Option Int)(y:Option (Addr×Int)):Prop where
 h0:L.cell? ⟨b0,0,none⟩=some (.slice sa (yu x).length sc)
 h1:L.cell? ⟨b1,0,none⟩=some (.slice none 0 0)
 h2:L.cell? ⟨b2,0,none⟩=some (.slice none 0 0)
 h3:∀(i:Nat) (v:Value),(jU ro p)[i]?=some v->L.cell? ⟨b3,i,none⟩=some v
 h4:L.cell? ⟨b4,0,none⟩=some (yrV y)
 hx:bK L sa (yu x)
 hy:∀a n,y=some (a,n)->L.cell? a=some (.int .i64 n)
def Io.le{u q:Nat}{t:Ro}{p:BP}{z:Nat}{x:me}{y:Q9}(h:Io L n k m u q t p d z x y)(o:Le L R):Io R n k m u q t p d z x y:=
 ⟨o.cell h.h0,o.cell h.h1,o.cell h.h2,λi v g=>o.cell (h.h3 i v g),o.cell h.h4,h.hx.le o,λa c e=>o.cell (h.hy a c e)⟩
def adk{e I:Nat}{t:Ro}{p:BP}{F:Nat}{x:me}{y:Q9}(L:LH)(h:Io L n k m e I t p d F x y)(R:mH t):Sp X 158 [pt n,pt k,pt m,pt e,pt I] L (Vd (pn t x (y.map (·.2))) L) (Vb (pn t x (y.map (·.2))) L):=by
 let S:=R.p2;refine Sp.e Tryz.func158 O λC j T r=>(.G O (Vf.l O (h.h0)) (.G O (Vf.l O (h.h1)) (.G O (Vf.l O (h.h2)) (.g O ?_))));refine W.mD (.N O (.G O (Vf.jN (i:=0) O O O O O O V) (.g O ?_)));refine W.Sj (λG H Q=>MX t x=true/\Le L Q/\
   gR G [(0,.v (pt n)),(1,.v (pt k)),(2,.v (pt m)),(3,.v (pt e)),(4,.v (pt I)),(14,.sl 0 0 3 3),(15,.v (.int .i64 (3:Nat))),(16,.v (.int .i64 0))]/\mV H [some ⟨[.v (.slice d (yu x).length F),.v (.slice none 0 0),.v (.slice none 0 0)],22⟩]) ?_ ?_
 .intro G H Q ⟨u,o,J,K⟩;refine .kI J K ?_ O O;let w:=h.le o;refine .g O (W.fA ?_);refine .N O (.G O (Vf.jN O O O O O O V) (.g O (W.mD ?_)));refine .K O (.g O (W.fA ?_));refine .N O (.G O (Vf.jN O O O O O O V) (.g O (W.mD ?_)));refine .K O (.g O (W.fA ?_));refine .K O (.G O (Vf.l O (w.h4)) ?_);cases y with
  | none=>
   let g:yrV none=.pointer none:=rfl;rw[g];let s:pn t x (Option.map (·.2) (none:Option (Addr×Int)))=0:=by unfold pn;rw[u];rfl
   rw[s] at r;refine .N O (.g O ?_);exact .r r O ⟨rfl,rfl,o⟩
  | some q=>
   obtain⟨l,z⟩:=q;let g:yrV (some (l,z))=.pointer (some l):=rfl;rw[g];let D:=w.hy l z rfl;rw[show Option.map (·.2) (some (l,z))=some z from rfl] at r;refine .g O (.Q O (.G O (Vf.l O (w.h4)) (.G O (Vf.l O (D)) (.g O ?_))));refine .p O (kv _ _ _ _) (.g O ?_);refine W.iy O O O O (jf _ _ _) ?_ ?_
   .rintro _ _ ⟨rfl,f,rfl⟩;let s:pn t x (some z)=0:=by unfold pn;rw[u,show abM (some z)=true from f]
    rw[s] at r;refine .G O (Vf.l O (w.h1)) (.g O ?_);refine W.mD ?_;refine .K O (.g O ?_);exact W.lM r O O ⟨rfl,rfl,o⟩
   .rintro _ _ ⟨f,rfl,rfl⟩;let s:pn t x (some z)=1:=by unfold pn;rw[u,show abM (some z)=false from f]
    rw[s] at r;exact WM.raise r ⟨V,rfl,o⟩
 .intro b;cases x with
  | none=>
   refine W.mD ?_;refine .K O (.go 2 O ?_);exact b _ _ _ ⟨rfl,Le.refl _,⟨rfl,rfl,rfl,rfl,rfl,rfl,rfl,rfl,aE⟩,⟨rfl,aE⟩⟩
  | some c=>
   refine W.mD ?_;refine .g O (.R O (.g O ?_));obtain⟨a,rfl⟩:=h.hx.addr (show 0<(yu (some c)).length by exact Nat.one_pos);refine .u rfl (Vf.b rfl rfl ((show 0<(yu (some c)).length by exact Nat.one_pos))) (.g rfl (.u rfl (Vf.l rfl (h.hx.int (show(yu (some c))[0]?=some c from rfl))) (.g rfl (.u rfl (Vf.l rfl (h.h3 3 _ rfl)) (.g rfl (.u rfl (Vf.l rfl (h.h3 0 _ rfl)) ?_))))));refine .G O (Vf.l O (h.h3 2 _ O)) (.G O (Vf.index (i:=0) O O O Tryz.underlying142 wm um V O) (.g O ?_));rw[w1 (show t.samples.length<=1000000 by omega)];refine .p O (kv _ _ _ _) (.g O ?_);refine W.iy O O O O (jf _ _ _) ?_ ?_
   .rintro _ _ ⟨rfl,f,rfl⟩;refine .g O ?_;refine W.fA ?_;refine .g O (.Q O (.go 2 O ?_));exact b _ _ _ ⟨f,Le.refl _,⟨rfl,rfl,rfl,rfl,rfl,rfl,rfl,rfl,aE⟩,⟨rfl,aE⟩⟩
   .rintro _ _ ⟨f,rfl,rfl⟩;let s:pn t (some c) (y.map (·.2))=3:=by unfold pn;rw[show MX t (some c)=false from f]
    rw[s] at r;exact WM.raise r ⟨V,rfl,Le.refl _⟩
def FO(ro:Ro)(x y:me):Int:=if ic ro≠0 then ic ro else pn ro x y
def OpQ(ro:Ro)(p:BP)(e:Int)(L:LH)(v:Value)(L':LH):Prop:=
 (e≠0/\v=.tuple #[.pointer none,e]/\Le L L')\/(e=0/\mH ro/\∃bb mb ks,v=.tuple #[pt bb,.int .i64 0]/\tl L' bb mb ro p ks/\Dm L L')
def ajd{o s:Nat}{o1 o2 o3 o4 o5:Obj}(i:L n=none)(z:(L.put n o1) k=none)(r:((L.put n o1).put k o2) m=none)(x:(((L.put n o1).put k o2).put m o3) o=none)(f:((((L.put n o1).put k o2).put m o3).put o o4) s=none):
  ∃p,p=((((L.put n o1).put k o2).put m o3).put o o4).put s o5/\p n=some (o1,true)/\p k=some (o2,true)/\p m=some (o3,true)/\p o=some (o4,true)/\p s=some (o5,true)/\Le L p:=by
 have a:Le L (L.put n o1):=Le.put i _;have q:Le (L.put n o1) ((L.put n o1).put k o2):=Le.put z _;have u:Le ((L.put n o1).put k o2) (((L.put n o1).put k o2).put m o3):=Le.put r _;have d:Le (((L.put n o1).put k o2).put m o3) ((((L.put n o1).put k o2).put m o3).put o o4):=Le.put x _;have v:Le ((((L.put n o1).put k o2).put m o3).put o o4) (((((L.put n o1).put k o2).put m o3).put o o4).put s o5):=Le.put f _;exact⟨_,rfl,v _ _ (d _ _ (u _ _ (q _ _ (aj _ _ _)))),v _ _ (d _ _ (u _ _ (aj _ _ _))),v _ _ (d _ _ (aj _ _ _)),v _ _ (aj _ _ _),aj _ _ _,a.trans (q.trans (u.trans (d.trans v)))⟩
def Yc{Post:dp}{W0:World}(t:Ro)(p:BP)(g:bA)(F:Nat)(x:me)(y:Q9)(L:LH)(k:iG L t p)(hx:bK L g (yu x))(hy:∀a n,y=some (a,n)->L.cell? a=some (.int .i64 n)):
  Sp (jV Tryz.prog Post W0) 120 [xL t p,.slice g (yu x) F,.slice none 0 0,.slice none 0 0,yrV y] L (OpQ t p (FO t x (y.map (·.2))) L):=by
 let⟨c,l⟩:∃c,yrV y=.pointer c:=by
  cases y with
  | none=>exact⟨_,rfl⟩
  | some q=>let⟨a,n⟩:=q;exact⟨_,rfl⟩
 rw[l];refine Sp.e Tryz.func120 O λC hX d r=>(.de [14] 99 O (.cz 5 (.inl ⟨_,rfl⟩) O O ?_));intro s h5 _;refine .cz 6 (.inl ⟨_,rfl⟩) O O λG h6 _=>?_;refine .cz 7 (.inl ⟨_,rfl⟩) O O λH u _=>?_;refine .cz 8 (.inl ⟨_,rfl⟩) O O ?_;intro w h8 _;refine .cz 9 (.inl ⟨_,rfl⟩) O O ?_;intro Q h9 _;obtain⟨L5,b,R,k6,o,k8,k9,K⟩:=ajd (o1:=.cells (jU t p).toArray 48) (o2:=.cells #[.slice g (yu x).length F] 22) (o3:=.cells #[.slice none 0 0] 22) (o4:=.cells #[.slice none 0 0] 22) (o5:=.cells #[.pointer c] 176) h5 h6 u h8 h9
 change W _ _ _ _ _ _ (((((L.put s (.cells (jU t p).toArray 48)).put G (.cells #[.slice g (yu x) F] 22)).put H (.cells #[.slice none 0 0] 22)).put w (.cells #[.slice none 0 0] 22)).put Q (.cells #[.pointer c] 176))
 rw[<-b];clear h5 h6 u h8 h9 b;refine .u O (Vf.q O (dU (vs:=jU t p) R O)) (.c O (Gx t p _ (k.le K)) ?_);rintro _ _ ⟨rfl,j⟩;rename_i L6;have m:=K.trans j;have S:Io L6 G H w s Q t p g F x y:=⟨aF (j _ _ k6) rfl,aF (j _ _ o) rfl,aF (j _ _ k8) rfl,λi v hv=>aF (j _ _ R) (by rw[gq];exact hv),by rw[l];exact aF (j _ _ k9) rfl,hx.le m,λa n e=>m.cell (hy a n e)⟩;refine .g O ?_
 by_cases f:ic t=0
 .have T:=Kz f;have J:FO t x (y.map (·.2))=pn t x (y.map (·.2)):=by unfold FO;rw[A Lj]
  rw[J] at r;rw[f];refine .Q O (.o O (Jl 158 [pt G,pt H,pt w,pt s,pt Q] (pn t x (y.map (·.2))) L6 (λh hl=>adk h (S.le hl) T)) ?_);rintro _ _ ⟨rfl,I⟩;rename_i L7;refine .g O ?_
  by_cases X:pn t x (y.map (·.2))=0
  .rw[X] at r ⊢;refine .Q O (.G O (Vf.q O (dU (vs:=jU t p) (I _ _ (j _ _ R)) O)) ?_);have D:=aai (Post:=Post) (W0:=W0) t p L7 (k.le (m.trans I)) T;rw[<-hX] at D;refine .c O D ?_;rintro _ _ ⟨bb,mb,z,rfl,B,E,-,-⟩;refine .D r O ?_;exact .inr ⟨rfl,T,bb,mb,z,rfl,B,(Dm.of_le (m.trans I)).trans E⟩
  .refine .T O ?_ (by simpa using X);refine .D r O ?_;exact .inl ⟨X,rfl,m.trans I⟩
 .have J:FO t x (y.map (·.2))=ic t:=by unfold FO;rw[ax f]
  rw[J] at r;refine .T O ?_ Lj;refine .D r O ?_;exact .inl ⟨f,rfl,m⟩
def tl.len{t:Ro}{p:BP}{z:nQ}(h:tl L n k t p z):z.length=0↔eB t t.aQ=[]:=by
 rw[h.pm.length_eq,Dt]
def tl.m7{t:Ro}{p:BP}{z:nQ}(h:tl L n k t p z):L.cell? ⟨n,7,none⟩=some (.map k):=by
 obtain⟨r,w,q⟩:=h.row;exact aF q O
def tl.fld{t:Ro}{p:BP}{z:nQ}(h:tl L n k t p z)(i:Nat)(v:Value)(u:i<5)(g:(jU t p)[i]?=v):L.cell? ⟨n,i,none⟩=v:=by
 obtain⟨r,w,q⟩:=h.row;refine aF q ?_
 match i,u,g with
 | 0,_,g=>exact g
 | 1,_,g=>exact g
 | 2,_,g=>exact g
 | 3,_,g=>exact g
 | 4,_,g=>exact g
def tl.le{t:Ro}{p:BP}{z:nQ}(h:tl L n k t p z)(o:Le L R):tl R n k t p z:=⟨let⟨r,w,q⟩:=h.row;⟨r,w,o _ _ q⟩,o _ _ h.mp,h.at_.le o,h.pm⟩
def JD(ro:Ro)(x y:me):Int:=if FO ro x y≠0 then FO ro x y else if eB ro ro.aQ=[] then 9 else 0
def KnQ(ro:Ro)(p:BP)(e:Int)(L:LH)(v:Value)(L':LH):Prop:=
 (e≠0/\v=.tuple #[.pointer none,e]/\Dm L L')\/(e=0/\mH ro/\eB ro ro.aQ≠[]/\∃bb mb ks,v=.tuple #[pt bb,.int .i64 0]/\tl L' bb mb ro p ks/\Dm L L')
def acQ{Post:dp}{W0:World}(t:Ro)(p:BP)(g:bA)(o:Nat)(x:me)(y:Q9)(L:LH)(k:iG L t p)(u:bK L g (yu x))(m:∀a n,y=some (a,n)->L.cell? a=some (.int .i64 n)):
  Sp (jV Tryz.prog Post W0) 83 [xL t p,.slice g (yu x) o,.slice none 0 0,.slice none 0 0,yrV y] L (KnQ t p (JD t x (y.map (·.2))) L):=by
 have q:=Yc (Post:=Post) (W0:=W0) t p g o x y L k u m;refine Sp.e (n:=35) Tryz.func83 O λC j d r=>?_;refine .g O ?_;rw[<-j] at q;refine .c O q ?_;rintro _ _ c;rcases c with⟨he,rfl,hl⟩ | ⟨he,ok,bb,mb,ks,rfl,FB,PF⟩
 .have v:JD t x (y.map (·.2))=FO t x (y.map (·.2)):=by unfold JD;rw[ax he]
  rw[v] at r;generalize FO t x (y.map (·.2))=e at he r;refine .g O ?_;have f:(e==0)=false:=LD
  rw[f];refine .di 25 (p:=false) O O ?_;refine .D r O ?_;exact .inl ⟨he,rfl,Dm.of_le hl⟩
 .have v:JD t x (y.map (·.2))=if eB t t.aQ=[] then 9 else 0:=by unfold JD;rw[A LD]
  rw[v] at r;refine .g O (.di 25 (p:=true) O O (.G O (Vf.l O (FB.m7)) (.G O (Vf.HX O Tryz.underlying230 FB.mp) ?_)));have z:(kU ks).size=ks:=by unfold kU;simp
  rw[z];refine .g O ?_
  by_cases f:ks.length=0
  .have i:(((ks:Nat):Int)==0)=true:=by simp[f]
   rw[i];refine .R O (.g O ?_);rw[ax (FB.len.1 f)] at r;refine .r r O ?_;exact .inl ⟨V,rfl,PF⟩
  .have i:(((ks:Nat):Int)==0)=false:=by simpa using λe=>f (by rw[e];rfl)
   rw[i];refine .Q O (.g O ?_);rw[A (λe=>f (FB.len.2 e))] at r;refine .r r O ?_;exact .inr ⟨rfl,ok,λe=>f (FB.len.2 e),bb,mb,ks,rfl,FB,PF⟩
def acB{t:Ro}(s:mH t)(a:l∈cP t.au):∀j,0<=l.getD j 0/\l.getD j 0<=3:=λj=>by
 obtain⟨_,z⟩:=oJ a;rw[dL];cases u:l[j]? with
 | none=>exact⟨U,U⟩
 | some x=>
  let⟨g,n,r⟩:=z j x u;have:=s.gl g (fZ n);unfold HF at r;simp[zb];omega
end
def bE.Bb{I:LH}{c:aK}{q:km}{v:Bool}{o:Nat}(g:bE I k e h L (.slice d m o) r)(f:∀x,(h x)=k)(a:L n=some (.cells c t q,v))(i:t≠e):m=r/\bz (L.bT n) d k h r:=by
 obtain⟨p,w,j,y⟩:=g;refine bE.at ⟨λ_ _ g=>by(cases g),w,j.keep λb u=>?_,λ_ _=>rfl⟩ f;subst u;let⟨_,l,_,z,_⟩:=j;exact bW λe=>by subst e;rw[a] at z;cases z;exact i O
section
open Go.Proofs
def RoQ(r:Ro)(e:Int)(L:LH)(v:Value)(L':LH):Prop:=∃p,v=.tuple #[xL r p,e]/\Dm L L'/\iG L' r p
def rW(h:Le L R)(d:L n=none):Le L (R.bT n):=λy x u=>by rw[bW (λe=>by subst e;rw[d] at u;cases u)];exact h _ _ u
def tU(H:LH)(b:Nat):H.bT b b=none:=Q3
def abH{t:Ro}{p:BP}{z:nQ}(c:Nat)(L:LH)(h:tl L k m t p z)(i:mH t)(f:c<=t.steps):Sp X 310 [pt k,c] L (λv w=>v=HL (fq t c)/\L=w):=by
 let J:=i.t3;let q:=h.fld 1 _ V rfl;let y:=h.at_.h1;obtain⟨K,a1,D,F,x,G,b,H,Q,j⟩:=p;obtain⟨a,s⟩:=y.addr (show 0<t.steps.length by have:=i.t1;omega);obtain rfl:a1=a:=s;refine Sp.e (n:=38) Tryz.func310 O λC R e r=>?_;refine .g O ?_
 by_cases u:0<c
 .let I:IntKind.i64.wrap ((c:Int) - 1)=((c - 1:Nat):Int):=by rw[wrap64_in _ M M];omega
  let g:t.steps[c - 1]?=t.steps.getD (c - 1) 0:=by rw[dL,bX (show c - 1<t.steps.length by omega)];rfl
  rw[jY (show(0:Int)<(c:Int) by omega)];refine .T O (.G O (Vf.l O (q)) (.g O ?_));rw[I];refine .u O (Vf.b O O ((show c - 1<t.steps.length by omega))) (.G O (Vf.l O (y.int g)) (.G O (Vf.l O (q)) (.g O ?_)))
  by_cases d:c<t.steps
  .let l:t.steps[c]?=t.steps.getD c 0:=by rw[dL,bX d];rfl
   let o:=i.st _ (fZ l);rw[jY (show(c:Int)<(t.steps:Int) by omega)];refine .T O (.G O (Vf.l O (q)) (.G O (Vf.b O O (d)) (.G O (Vf.l O (y.int l)) ?_)));refine .g O ?_;rw[wrap64_in (t.steps.getD c 0 - 1) M M];let s:fq t c=⟨t.steps.getD (c - 1) 0,t.steps.getD c 0 - 1⟩:=by unfold fq;rw[ax u,ax d]
   rw[s] at r;exact .r r O ⟨rfl,rfl⟩
  .rw[mB (show¬(c:Int)<(t.steps:Int) by omega)];refine .F O (.g O ?_);let s:fq t c=⟨t.steps.getD (c - 1) 0,40⟩:=by unfold fq;rw[ax u,A d]
   rw[s] at r;exact .r r O ⟨rfl,rfl⟩
 .rw[mB (show¬(0:Int)<(c:Int) by omega)];refine .F O (.G O (Vf.l O (q)) (.g O ?_))
  by_cases d:c<t.steps
  .let l:t.steps[c]?=t.steps.getD c 0:=by rw[dL,bX d];rfl
   let o:=i.st _ (fZ l);rw[jY (show(c:Int)<(t.steps:Int) by omega)];refine .T O (.G O (Vf.l O (q)) (.G O (Vf.b O O (d)) (.G O (Vf.l O (y.int l)) ?_)));refine .g O ?_;rw[wrap64_in (t.steps.getD c 0 - 1) M M];let s:fq t c=⟨0,t.steps.getD c 0 - 1⟩:=by unfold fq;rw[A u,ax d]
   rw[s] at r;exact .r r O ⟨rfl,rfl⟩
  .rw[mB (show¬(c:Int)<(t.steps:Int) by omega)];refine .F O (.g O ?_);let s:fq t c=⟨0,40⟩:=by unfold fq;rw[A u,A d]
   rw[s] at r;exact .r r O ⟨rfl,rfl⟩
def aaV(f:aH)(g:eI)(k:Nat)(s:ei)(L:LH)(l:g.length<=2)(y:k<g.length)(w:∀x∈g,EC x)(e:-1000<=s.lo/\s.lo<=1000/\-1000<=s.hi/\s.hi<=1000)(h:0<dM (g.getD k ⟨0,0⟩))(p:0<=eo g/\eo g<=1681):
  Sp X 309 [.agg (cF f g (eo g)).toArray,k,HL s] L (λv b=>v=iv g k s/\L=b):=by
 rw[abV];let i:g[k]?=g.getD k ⟨0,0⟩:=by rw[dL,bX y];rfl
 let o:=w _ (fZ i);unfold EC at o;let c:0<=dM (iD (g.getD k ⟨0,0⟩) s)/\dM (iD (g.getD k ⟨0,0⟩) s)<=41:=by unfold dM iD;simp only;omega
 let t:=zZ (w _ (fZ i));let a:0<=(eo g).tdiv (dM (g.getD k ⟨0,0⟩)):=Int.tdiv_nonneg p.1 M;let m:(eo g).tdiv (dM (g.getD k ⟨0,0⟩))<=1681:=by
  let q:(eo g).tdiv (dM (g.getD k ⟨0,0⟩))<=eo g:=by
   rw[OY p.1];exact Int.ediv_le_self _ p.1
  omega
 let u:IntKind.i64.wrap ((eo g).tdiv (dM (g.getD k ⟨0,0⟩)) *dM (iD (g.getD k ⟨0,0⟩) s))=iv g k s:=by
  let q:=BA a c.1;let z:(eo g).tdiv (dM (g.getD k ⟨0,0⟩)) *dM (iD (g.getD k ⟨0,0⟩) s)<=1681 * 41:=Dx m c.2 c.1 V;exact wrap64_in _ M M
 rcases(show k=0\/k=1 by omega) with rfl | rfl
 .refine Sp.e (n:=23) Tryz.func309 O λC j d r=>?_;refine .g rfl (.z (.run' [0,1,2,3,8,9,12] rfl (.u 4 rfl (Vf.qi rfl rfl rfl rfl rfl rfl (V)) (.u 10 rfl (Vf.qi rfl rfl rfl rfl rfl rfl (V)) (.run' [5,11] rfl (.c 6 rfl rfl (uJ (g.getD 0 ⟨0,0⟩) _ M) jw ?_))))));rintro _ _ ⟨rfl,rfl⟩;refine .u 7 O (Vf.quo O O M) ?_;rw[wrap64_in _ M M];refine .c 13 rfl rfl (PW (g.getD 0 ⟨0,0⟩) s _) jw ?_;rintro _ _ ⟨rfl,rfl⟩;refine .c 14 rfl rfl (uJ (iD (g.getD 0 ⟨0,0⟩) s) _ (by unfold iD;simp only;omega)) jw ?_;rintro _ _ ⟨rfl,rfl⟩;refine .run' [15,16] O (.fin O (.g O ?_));rw[u];exact .r r O ⟨rfl,rfl⟩
 .refine Sp.e (n:=23) Tryz.func309 O λC j d r=>?_;refine .g rfl (.z (.run' [0,1,2,3,8,9,12] rfl (.u 4 rfl (Vf.qi rfl rfl rfl rfl rfl rfl (V)) (.u 10 rfl (Vf.qi rfl rfl rfl rfl rfl rfl (V)) (.run' [5,11] rfl (.c 6 rfl rfl (uJ (g.getD 1 ⟨0,0⟩) _ M) jw ?_))))));rintro _ _ ⟨rfl,rfl⟩;refine .u 7 O (Vf.quo O O M) ?_;rw[wrap64_in _ M M];refine .c 13 rfl rfl (PW (g.getD 1 ⟨0,0⟩) s _) jw ?_;rintro _ _ ⟨rfl,rfl⟩;refine .c 14 rfl rfl (uJ (iD (g.getD 1 ⟨0,0⟩) s) _ (by unfold iD;simp only;omega)) jw ?_;rintro _ _ ⟨rfl,rfl⟩;refine .run' [15,16] O (.fin O (.g O ?_));rw[u];exact .r r O ⟨rfl,rfl⟩
def NS{w:nQ}{x:FG}(h:w[n]?=x):(kU w)[n]?=Nr x n:=by
 unfold kU;rw[gq,im,List.getElem?_zipIdx,h];simp
def V3{xs:nQ}{e:MapEntry}(h:e∈kU xs):(kU xs).find? (λx=>x.born==e.born)=e:=by
 let⟨x,v,i⟩:=AY h;have f:=(eO.1 v).1;have n:=NS v;rw[<-i] at n;have d:∀(j:Nat) (y:MapEntry),(kU xs)[j]?=y->y.born=j:=λj y g=>by
  unfold kU at g;rw[gq,im,List.getElem?_zipIdx] at g;obtain⟨z,p,rfl⟩:=il.1 g;obtain⟨u,_,rfl⟩:=il.1 p;simp[Nr]
 have o:(kU xs).toList[e.born]?=e:=by rw[iN];exact n
 rw[<-GJ (xs:=kU xs),List.find?_toArray,List.find?_eq_some_iff_getElem];obtain⟨q,a⟩:=eO.1 o;refine⟨U,e.born,q,a,λj t=>?_⟩;have:=d j (kU xs).toList[j] (by rw[<-iN,bX]);rw[this];simp;omega
def pF(a:Int)(l:aH):bu (a::l)=a+bu l:=by
 let j:∀(l:aH) (b c:Int),l.foldl (·+·) (b+c)=b+l.foldl (·+·) c:=λl=>by
  induction l with
  | nil=>intro b c;rfl
  | cons x l u=>intro b c;rw[lJ,lJ,Int.add_assoc,u]
 unfold bu;rw[lJ];have:=j l a 0;rw[Int.zero_add]
 rwa [Int.add_zero] at this
def Lg{m:aH}(h:l.Perm m):bu l=bu m:=by
 induction h with
 | nil=>rfl
 | cons x _ u=>rw[pF,pF,u]
 | swap x y l=>rw[pF,pF,pF,pF];omega
 | trans _ _ q z=>rw[q,z]
def xd(F:FG->Int)(xs:nQ)(seen:aU):Int:=bu (seen.map λj=>(xs[j]?.map F).getD 0)
def W2{F:FG->Int}{w:nQ}{x:FG}(h:w[n]?=x):xd F w (q++[n])=xd F w q+F x:=by
 unfold xd;rw[iq,List.map_singleton,lz,h];rfl
def aaS{F:FG->Int}{w:nQ}(y:q.Nodup)(u:∀j∈q,j<w.length)(z:∀j,j<w.length->j∈q):xd F w q=bu (w.map F):=by
 let a:=(List.perm_ext_iff_of_nodup y List.nodup_range).2 λj=>by rw[fo];exact⟨u j,z j⟩
 unfold xd;rw[Lg (a.map _)]
 congr 1
 refine yU λi=>?_;rw[im,im]
 by_cases h:i<w
 .rw[Fj h,bX h];show some ((Option.map F w[i]?).getD 0)=_;rw[bX h];rfl
 .rw[mh bU,mh M];rfl
def G7{t:Ro}(v:mH t){x:FG}(h:x∈eB t t.aQ):x.2=t.samples.length/\(∀s∈x.2,EC s)/\0<eo x.2/\eo x.2<=1681/\(∀s∈x.2,0<dM s)/\x.1∈cP t.au:=by
 let⟨q,z⟩:=nH.1 h;obtain⟨f,a,rfl⟩:=fK.1 q;have z:=Ly
 have w:=Ju v (acB v a) v.si;have o:(dx t f t.aQ).length=t.samples.length:=zE _ _ _;have i:=v.p2;refine⟨o,w,z,?_,λs d=>?_,a⟩
 .exact(Ot (l:=(dx t f t.aQ).map dM) (by rw[eT];omega) (λx u=>by
   obtain⟨y,g,rfl⟩:=fK.1 u;exact zZ (w y g))).2
 .exact aat z (λx u=>by
   obtain⟨y,g,rfl⟩:=fK.1 u;exact(zZ (w y g)).1) _ (fK.2 ⟨s,d,rfl⟩)
def Zm{t:Ro}(s:mH t)(k:Nat):0<=(fq t k).lo/\(fq t k).lo<=40/\0<=(fq t k).hi/\(fq t k).hi<=40:=by
 let hd:∀i,0<=t.steps.getD i 0/\t.steps.getD i 0<=40:=λi=>by
  rw[dL];cases h:t.steps[i]? with
  | none=>exact⟨U,U⟩
  | some x=>have:=s.st x (fZ h);simp only[zb];omega
 let q:=hd (k - 1);unfold fq;refine⟨?_,?_,?_,?_⟩ <;> simp only <;> split <;> first | omega | skip
 .rename_i f;let o:=s.st (t.steps.getD k 0) (by rw[dL,bX f];exact fY f);omega
 .have:=hd k;omega
def Xb{t:Ro}(u:mH t){x:FG}(h:x∈eB t t.aQ)(f:k<t.samples)(s:ei)(i:0<=s.lo/\s.lo<=40/\0<=s.hi/\s.hi<=40):0<=iv x.2 k s/\iv x.2 k s<=68921:=by
 let⟨q,z,g,j,v,_⟩:=G7 u h;have r:x.2[k]?=some (x.2.getD k ⟨0,0⟩):=by rw[dL,bX (by omega)];rfl
 have o:=z _ (fZ r);have y:=v _ (fZ r);have c:0<=dM (iD (x.2.getD k ⟨0,0⟩) s)/\dM (iD (x.2.getD k ⟨0,0⟩) s)<=41:=by unfold dM iD;simp only;omega
 have a:0<=(eo x.2).tdiv (dM (x.2.getD k ⟨0,0⟩)):=Int.tdiv_nonneg M M;have m:(eo x.2).tdiv (dM (x.2.getD k ⟨0,0⟩))<=1681:=by
  have q:(eo x.2).tdiv (dM (x.2.getD k ⟨0,0⟩))<=eo x.2:=by
   rw[OY M];exact Int.ediv_le_self _ M
  omega
 have p:=BA a c.1;have d:(eo x.2).tdiv (dM (x.2.getD k ⟨0,0⟩)) *dM (iD (x.2.getD k ⟨0,0⟩) s)<=1681 * 41:=Dx m c.2 c.1 V;exact⟨p,d⟩
def Vp{t:Ro}{p:BP}{l:nQ}(w c:Nat)(L:LH)(h:tl L k m t p l)(F:mH t)(u4:w<t.samples)(f:c<=t.steps):Sp X 308 [pt k,.int .i64 w,.int .i64 c] L (λv L'=>v=.int .i64 (po t w c)/\Le L L'):=by
 have u5:(cP t.au).length<=256:=by
  refine lI (xx λg hg=>?_) (Cq (n:=4) V F.g4);have:=F.gl g hg;omega
 have q5:l.length<=256:=by
  rw[h.pm.length_eq];unfold eB;refine lI (BB _ _) ?_;rw[eT];exact u5
 have i:∀x∈l,x∈eB t t.aQ:=λx u=>h.pm.mem_iff.1 u;have u6:=Zm F c;have hF:∀x∈l,0<=iv x.2 w (fq t c)/\iv x.2 w (fq t c)<=68921:=λx u=>Xb F (i x u) u4 _ u6;have p2:=F.p2;refine Sp.e (n:=28) Tryz.func308 O λC hX d r=>?_;refine .G O (Vf.l O (h.m7)) (.v O (Ef.range O Tryz.underlying230 h.mp) ?_);rintro _ _ _ ⟨q,rfl,rfl,hq,rfl⟩;have q6:m≠q:=λe=>by subst e;rw[h.mp] at hq;cases hq
 have q4:(kU l).size=l.length:=by unfold kU;simp
 refine .g O ?_;refine .l (λm' E B L'=>∃(seen:Array Nat),m'=l.length - seen.size/\seen.toList.Nodup/\(∀j∈seen.toList,j<l.length)/\Le L L'/\L' q=some (.mapIter (some m) l.length seen l.length,true)/\E=[(0,.v (pt k)),(1,.v (.int .i64 w)),(2,.v (.int .i64 c)),(7,.v (.int .i64 (xd (λx=>iv x.2 w (fq t c)) l seen.toList))),(14,.v (.pointer (some ⟨q,0,none⟩)))]/\B=[]) ⟨#[],rfl,U,(λj K=>by simp at K),Le.put hq _,aj _ _ _,rfl,rfl⟩ ?_
 rintro _ _ _ L2 ⟨seen,rfl,R,S,G,u7,rfl,rfl⟩ again;have H:∀e∈kU l,e.born<l.length/\e.born<l.length:=λe he=>by
  obtain⟨x,u,_⟩:=AY he;have:=(eO.1 u).1;exact⟨this,this⟩
 have h2:=h.le G;refine .v O (Ef.next O u7 h2.mp H) ?_;rintro _ _ _ ⟨rfl,Q⟩;rcases Q with⟨rfl,oe,rfl⟩ | ⟨e,he,VR,rfl,rfl⟩
 .have T:xd (λx=>iv x.2 w (fq t c)) l seen.toList=po t w c:=by
   rw[aaS R S (λj K=>?_)]
   .exact Lg (h.pm.map _)
   .have:=oe _ (Array.mem_of_getElem? (NS (bX K)))
    simpa [Nr] using this
  rw[T];refine .K O (.D r O ?_);exact⟨rfl,G⟩
 .obtain⟨x,u,u8⟩:=AY he;have W:=V3 he;obtain⟨ek,ev,J⟩:=e;obtain⟨rfl,rfl⟩:ek=.agg (ib x.1).toArray/\ev=.agg (cF x.1 x.2 (eo x.2)).toArray:=by cases u8;exact⟨rfl,rfl⟩
  dsimp only at u W VR;have u9:=(eO.1 u).1;have u1:=fZ u;obtain⟨m1,m2,m3,m4,m5,_⟩:=G7 F (i x u1);have u2:J∉seen.toList:=λo=>by
   have:seen.contains J=true:=by simpa using o
   rw[this] at VR;cases VR
  have D:(seen.push J).toList.Nodup:=by
   rw[za,List.nodup_append];exact⟨R,U,λa ha b hb=>by rw[dJ.1 hb];exact λe=>u2 (e▸ha)⟩
  have s:∀j∈(seen.push J).toList,j<l.length:=λj K=>by
   rw[za] at K;rcases fg.1 K with h | h
   .exact S j h
   .rw[dJ.1 h];exact u9
  have q0:=TV D s;rw[za,eX,mW,GH] at q0;have q1:l.length - (seen.push J).size<l.length - seen.size:=by rw[Array.size_push];omega
  have I:Le L (L2.put q (.mapIter (some m) l.length (seen.push J) l.length)):=aG G hq _;have h3:=h.le I;have q7:=hF x u1;have u3:=kH 68921 (seen.toList.map λj=>((l[j]?.map λx=>iv x.2 w (fq t c)).getD 0)) (λy hy=>by
   obtain⟨j,_,rfl⟩:=fK.1 hy;cases K:l[j]? with
   | none=>exact⟨U,U⟩
   | some z=>exact hF z (fZ K))
  rw[eT,GH] at u3;have q2:xd (λx=>iv x.2 w (fq t c)) l (seen.push J).toList=xd (λx=>iv x.2 w (fq t c)) l seen.toList+iv x.2 w (fq t c):=by
   rw[za,W2 u]
  have q3:IntKind.i64.wrap (xd (λx=>iv x.2 w (fq t c)) l seen.toList+iv x.2 w (fq t c))=xd (λx=>iv x.2 w (fq t c)) l (seen.push J).toList:=by
   rw[q2];have:0<=xd (λx=>iv x.2 w (fq t c)) l seen.toList/\xd (λx=>iv x.2 w (fq t c)) l seen.toList<=((68921:Nat):Int) * (seen.size:Int):=u3;exact wrap64_in _ M M
  refine .N O (.G O (Vf.entry (e:=⟨.agg (ib x.1).toArray,.agg (cF x.1 x.2 (eo x.2)).toArray,J⟩) O (aj _ _ _) (I _ _ h.mp) U W) ?_);rw[abV];refine .g rfl (.z (.run' [0,1,2,3,4] rfl (.c 5 rfl rfl (abH c _ h3 F f) jw ?_)));rintro _ _ ⟨rfl,rfl⟩;refine .c 6 rfl rfl (aaV x.1 x.2 w (fq t c) _ M M m2 M (m5 _ (by rw[dL,bX (show w<x.2.length by omega)];exact fY _)) M) jw ?_;rintro _ _ ⟨rfl,rfl⟩;refine .run' [7,8] O (.fin O (.g O ?_));rw[q3];exact .a (again _ _ _ _ q1 ⟨seen.push J,rfl,D,s,I,aj _ _ _,rfl,rfl⟩)
abbrev wM(ro:Ro)(sm n:Nat):List Int:=((List.range n).filter λk=>decide (0<po ro sm k)).map λ(k:Nat)=>(k:Int)
def Vs(t:Ro)(w n:Nat):wM t w (n+1)=if 0<po t w n then wM t w n++[(n:Int)] else wM t w n:=by
 unfold wM;rw[nI,yY]
 by_cases h:0<po t w n
 .rw[ax h,List.filter_cons_of_pos ri];simp
 .rw[A h,List.filter_cons_of_neg ri];simp
def Nb(t:Ro)(w n:Nat):(wM t w n)<=n:=by
 unfold wM;rw[eT];have:=BB (λk=>decide (0<po t w k)) (List.range n)
 rwa [vt] at this
def Vq{t:Ro}{p:BP}{z:nQ}(w:Nat)(L:LH)(h:tl L k m t p z)(s:mH t)(u:w<t.samples):Sp X 306 [pt k,w] L (λv a=>bE L 1 3 bL a v (wM t w t.be)):=by
 have F:=s.t3;have G:=s.d1;refine Sp.e (n:=27) Tryz.func306 O λC j d r=>?_;refine .G O (Vf.l O (h.fld 2 _ V O)) (.g O ?_);refine .l (λJ E B a=>∃(i:Nat) (v:Value),J=t.be - i/\i<=t.be/\bE L 1 3 bL a v (wM t w i)/\E=[(0,.v (pt k)),(1,.v (.int .i64 w)),(5,.v v),(12,.v (.int .i64 t.be.length)),(13,.v (.int .i64 i))]/\B=[]) ⟨0,.slice none 0 0,rfl,M,bE.nil (Le.refl _),rfl,rfl⟩ ?_
 rintro _ _ _ K ⟨i,v,rfl,y,l,rfl,rfl⟩ again;have q:=h.le l.1;refine .I O (λI=>?_) (λI=>?_)
 .have y:i<t.be:=by simpa using I
  refine .o O (Vp w i K q s u M) ?_;rintro _ _ ⟨rfl,o⟩;rename_i H;have f:=l.le o;have e:=Vs t w i;have D:=Nb t w i;refine .g O ?_
  by_cases b:0<po t w i
  .rw[ax b] at e;rw[jY b];refine .T O (.v O (Ef.grow O O O O O O O O O aY gf f (ls:=[(i:Int)]) (.own O O O O) (QP)) ?_);rintro _ _ _ ⟨c,rfl,rfl,g,_⟩;refine .g O ?_;exact .a (again _ _ _ _ M ⟨i+1,_,rfl,y,by rw[e];exact g,rfl,rfl⟩)
  .rw[A b] at e;rw[mB b];refine .F O (.g O ?_);exact .a (again _ _ _ _ M ⟨i+1,_,rfl,y,by rw[e];exact f,rfl,rfl⟩)
 .have x:i=t.be:=by simp at I;omega
  subst x;refine .D r O ?_;exact l
def DG(l:aH):List Value:=[rI l,wh l,↑(!l.isEmpty)]
def G9(h:l≠[])(x:Int):rI (l++[x])=min (rI l) x:=by
 cases l with
 | nil=>exact ar rfl h
 | cons a l=>unfold rI;simp[zi]
def JR(h:l≠[])(x:Int):wh (l++[x])=max (wh l) x:=by
 cases l with
 | nil=>exact ar rfl h
 | cons a l=>unfold wh;simp[zi]
def se(L:LH)(b:Nat)(r m:Obj):(L.put b r).put b m=L.put b m:=by
 funext y
 by_cases e:y=b
 .subst e;rw[aj,aj]
 .rw[aB _ _ e,aB _ _ e,aB _ _ e]
def af7(b:Nat)(l:aH)(x:Int)(a:Addr)(c:Nat)(L:LH)(d:L b=some (.cells (DG l).toArray 447 (0,0),true))(u:bK (L.bT b) a [x]):Sp X 307 [pt b,.slice a 1 c] L (λv q=>v=.tuple #[]/\q=L.put b (.cells (DG (l++[x])).toArray 447)):=by
 have h:=u.le (gC _ _);refine Sp.e Tryz.func307 O λC j z r=>(.g O ?_);refine W.mD (.g rfl (.T rfl (.g rfl (.u rfl (Vf.b rfl rfl (Nat.one_pos)) (.g rfl (.u rfl (Vf.l rfl (h.int (show[x][0]?=some x from rfl))) (.g rfl ?_)))))));refine .u O (Vf.l O (aF d O)) (.g O ?_);cases l with
 | nil=>
  refine .R O (.g O (.fL O O (Ef.eR O ⟨_,rfl,rfl⟩ O d O V (bQ O)) ?_));rintro _ _ _ ⟨rfl,rfl,rfl⟩;refine .g O (.fL O O (Ef.eR O ⟨_,rfl,rfl⟩ O (aj _ _ _) O (show 1+1<=3 by decide) (bQ O)) ?_);rintro _ _ _ ⟨rfl,rfl,rfl⟩;refine .g O (.fL O O (Ef.eR O ⟨_,rfl,rfl⟩ O (aj _ _ _) O (show 2+1<=3 by decide) (bQ O)) ?_);rintro _ _ _ ⟨rfl,rfl,rfl⟩;refine .g O ?_;rw[se,se];let m:=aj L b (.cells #[x,x,true] 447)
  change W _ _ _ _ _ _ (L.put b (.cells #[x,x,true] 447))
  refine .f (.run' [0,1,2,3,4,6,8,9,10,12] O (DD.IG 5 11 rfl rfl rfl rfl rfl rfl rfl rfl (Ef.val rfl (Vf.l rfl (aF m rfl))) (Ef.val rfl (Vf.l rfl (aF m rfl))) dV dV ?_ ?_))
  .rintro _ _ _ ⟨rfl,rfl,rfl⟩;refine .run' [7] rfl (.x 11 rfl (Ef.val rfl (Vf.l rfl (aF m rfl))) dV ?_);refine .run' [13,14,15] rfl (.x 16 rfl (Ef.eR rfl ⟨_,rfl,rfl⟩ rfl m rfl (show 0+1<=3 by decide) (bQ rfl)) dV ?_);refine .run' [17,18] rfl (.x 19 rfl (Ef.eR rfl ⟨_,rfl,rfl⟩ rfl (aj _ _ _) rfl (show 1+1<=3 by decide) (bQ rfl)) dV ?_);refine .fin O (.g O ?_);refine W.fA (.g O (.Q O (.g O ?_)));refine W.lM r O O ⟨rfl,?_⟩;rw[se,se];rw[ite_self];rfl
  .rintro _ _ _ ⟨rfl,rfl,rfl⟩;refine .run' [13] rfl (.x 5 rfl (Ef.val rfl (Vf.l rfl (aF m rfl))) dV ?_);refine .run' [7,14,15] rfl (.x 16 rfl (Ef.eR rfl ⟨_,rfl,rfl⟩ rfl m rfl (show 0+1<=3 by decide) (bQ rfl)) dV ?_);refine .run' [17,18] rfl (.x 19 rfl (Ef.eR rfl ⟨_,rfl,rfl⟩ rfl (aj _ _ _) rfl (show 1+1<=3 by decide) (bQ rfl)) dV ?_);refine .fin O (.g O ?_);refine W.fA (.g O (.Q O (.g O ?_)));refine W.lM r O O ⟨rfl,?_⟩;rw[se,se];rw[ite_self];rfl
 | cons y l=>
  refine .Q O (.g O (.f (.run' [0,1,2,3,4,6,8,9,10,12] O (DD.IG 5 11 rfl rfl rfl rfl rfl rfl rfl rfl (Ef.val rfl (Vf.l rfl (aF d rfl))) (Ef.val rfl (Vf.l rfl (aF d rfl))) dV dV ?_ ?_))))
  .rintro _ _ _ ⟨rfl,rfl,rfl⟩;refine .run' [7] rfl (.x 11 rfl (Ef.val rfl (Vf.l rfl (aF d rfl))) dV ?_);refine .run' [13,14,15] rfl (.x 16 rfl (Ef.eR rfl ⟨_,rfl,rfl⟩ rfl d rfl (show 0+1<=3 by decide) (bQ rfl)) dV ?_);refine .run' [17,18] rfl (.x 19 rfl (Ef.eR rfl ⟨_,rfl,rfl⟩ rfl (aj _ _ _) rfl (show 1+1<=3 by decide) (bQ rfl)) dV ?_);refine .fin O (.g O ?_);refine W.fA (.g O (.Q O (.g O ?_)));refine W.lM r O O ⟨rfl,?_⟩;rw[se];exact aJ (λc=>LH.put _ b (Obj.cells c 447)) (show#[Value.int .i64 (if x<rI (y::l) then x else rI (y::l)),.int .i64 (if x>wh (y::l) then x else wh (y::l)),true]=(DG (y::l++[x])).toArray by rw[PX,PV,<-G9 U,<-JR U];rfl)
  .rintro _ _ _ ⟨rfl,rfl,rfl⟩;refine .run' [13] rfl (.x 5 rfl (Ef.val rfl (Vf.l rfl (aF d rfl))) dV ?_);refine .run' [7,14,15] rfl (.x 16 rfl (Ef.eR rfl ⟨_,rfl,rfl⟩ rfl d rfl (show 0+1<=3 by decide) (bQ rfl)) dV ?_);refine .run' [17,18] rfl (.x 19 rfl (Ef.eR rfl ⟨_,rfl,rfl⟩ rfl (aj _ _ _) rfl (show 1+1<=3 by decide) (bQ rfl)) dV ?_);refine .fin O (.g O ?_);refine W.fA (.g O (.Q O (.g O ?_)));refine W.lM r O O ⟨rfl,?_⟩;rw[se];exact aJ (λc=>LH.put _ b (Obj.cells c 447)) (show#[Value.int .i64 (if x<rI (y::l) then x else rI (y::l)),.int .i64 (if x>wh (y::l) then x else wh (y::l)),true]=(DG (y::l++[x])).toArray by rw[PX,PV,<-G9 U,<-JR U];rfl)
end
end Go.Mz
