/- Lemmas for the claim. -/
import Derived.Test.YtjhpkghkgaekcaaGreatDoorMzAh
import Derived.Laws.Strings2
set_option linter.defProp false
set_option maxRecDepth 100000
namespace Go.Mz
open Go.Conc
variable {α:Type}{n k m:Nat}{L R J:LH}{t e:bh}{w u:World}{h:α->List Value}{c:Int}{B:aX}{x:aW}{Y:Trace}{l:aH}{r:List α}{q:aU}{Q:bC}{E:cK}{j:aR}{D:bt}{d:bA}{F:Env}{g:aT}{o:bD}{N:Nm}{K:bI}{z:SV}{I:cj}{H:ck}
def dB(L:LH)(k:Nat)(e:bh)(v:Value)(len:Nat)(cs:aR):Option Nat->Prop
 | none=>(∃cap,v=.slice none 0 cap/\cap=0)/\len=0/\cs=[]
 | some b=>∃(cap:Nat) (c:aK),v=.slice (some ⟨b,0,none⟩) len cap/\L b=some (.cells c e (0,0),true)/\c.size=cap *k/\len<=cap/\cs.length=len *k/\∀(i:Nat) (x:Value),cs[i]?=some x->c[i]?=some x
def dB.nil:dB L k e (.slice none 0 0) 0 [] none:=⟨⟨0,rfl,rfl⟩,rfl,rfl⟩
def dB.len{v:Value}(h:dB L k e v n j o):j.length=n *k:=by
 cases o with
 | none=>obtain⟨_,rfl,rfl⟩:=h;simp
 | some b=>let⟨_,_,_,_,_,_,h,_⟩:=h;exact h
def dB.le{v:Value}(h:dB L k e v n j o)(u:Le L R):dB R k e v n j o:=by
 cases o with
 | none=>exact h
 | some b=>obtain⟨m,c,q,z,r⟩:=h;exact⟨m,c,q,u _ _ z,r⟩
def dB.keep{L':LH}{v:Value}(h:dB L k e v n j o)(u:∀b,o=some b->L' b=L b):dB L' k e v n j o:=by
 cases o with
 | none=>exact h
 | some b=>let⟨m,c,q,z,r⟩:=h;exact⟨m,c,q,(u b rfl).trans z,r⟩
def dB.slice{v:Value}(h:dB L k e v n j o):∃l m,v=.slice l n m/\n<=m:=by
 cases o with
 | none=>let⟨⟨m,q,f⟩,z,_⟩:=h;subst z f;exact⟨none,0,q,dA _⟩
 | some b=>let⟨m,c,q,_,_,z,_⟩:=h;exact⟨_,m,q,z⟩
def dB.blk{L:LH}{k:Nat}{e:bh}{v:Value}{n:Nat}{j:aR}{m:Nat}(h:dB L k e v n j (some m)):L m≠none:=by
 let⟨u,c,_,q,_⟩:=h;rw[q];simp
def tX{α:Type}{h:α->List Value}{k:Nat}(f:∀x,(h x).length=k):∀{l:List α} {i j:Nat} {x:α} {v:Value},l[i]?=x->(h x)[j]?=v->(l.flatMap h)[i *k+j]?=v
 | [],_,_,_,_,hx,_=>by simp at hx
 | y::l,0,j,x,v,hx,hv=>by
  have t:j<k:=by
   have:=(eO.1 hv).1;rw[f] at this;exact this
  simp[zc,kR] at hx;subst hx;rwa[rT,yO,jJ,kS (by rw[f];exact t)]
 | y::l,i+1,j,x,v,hx,hv=>by
  rw[rT,lh (by rw[f,Nat.succ_mul];omega),f,Nat.succ_mul,show i *k+k+j - k=i *k+j by omega];exact tX f (by simpa using hx) hv
def dB.at{len:Nat}{ob:bD}{cap:Nat}(g:dB L k e (.slice d len cap) r (r.flatMap h) ob)(f:∀x,(h x)=k):bz L d k h r:=by
 intro i x u;cases ob with
 | none=>
  let⟨_,z,_⟩:=g;let o:=(eO.1 u).1;omega
 | some b=>
  let⟨a,c,q,z,y,n,p,t⟩:=g;cases q;refine⟨_,rfl,λj v m=>?_⟩;rw[bM];refine aF z ?_;rw[jJ];exact t _ _ (tX f u m)
section
variable {P:Program}
def sx{q:Question}{c:LO}:aP P c Q (choose q) R=∀n,pN q n->c n R:=rfl
def qB{c:x6}(h:c () R):aP P c Q (askRoom n) R:=by
 unfold askRoom
 split
 .exact⟨.inl rfl,h⟩
 .exact h
def Jv(m:Nat):∀(r c:Nat),c<m->r<=4->Builtin.growBy m r c<=2 *m+1024
 | 0,c,h,_=>by unfold Builtin.growBy;omega
 | r+1,c,h,hr=>by
  unfold Builtin.growBy
  split
  .omega
  .by_cases z:c+(c+768) / 4<m
   .exact Jv m r _ z M
   .have:∀r c,m<=c->Builtin.growBy m r c=c:=by
     intro r c b;cases r with
     | zero=>rfl
     | succ r=>unfold Builtin.growBy;rw[ax M]
    rw[this r _ M];omega
def Hd{need old:Nat}(h:old<need):Builtin.nextslicecap need old<=2 *need+1024:=by
 unfold Builtin.nextslicecap
 split
 .omega
 .split
  .omega
  .exact Jv _ _ _ h (dA _)
def gH(P:aV)(R:LH)(k m:Nat)(yv:Value)(vs:aR):Prop:=vs=m *k/\(∀(Q:LO) (H:bC),aP P Q H (Builtin.lenOf yv) R=Q m R)/\∀(Q:Array Value->LH->Prop) (H:bC),Q vs.toArray R->aP P Q H (Builtin.firstCells k m yv) R
def gH.at{l:Addr}{cap:Nat}(h:cD R l (m *k) j):gH P R k m (.slice (some l) m cap) j:=
 ⟨h.1,λ_ _=>rfl,λQ H c=>by unfold Builtin.firstCells;rwa[AH h]⟩
def gH.nil:gH P R k 0 (.slice none 0 n) []:=⟨U,λ_ _=>rfl,λQ H c=>c⟩
def uy(b:UInt8):Value:=.int .u8 (b.toNat:Int)
def gH.str{l:ko}:gH P R 1 l (.string ⟨⟨l⟩⟩) (l.map uy):=⟨U,λ_ _=>rfl,λQ H c=>by
 let e:(ByteArray.extract ⟨⟨l⟩⟩ 0 l).data.map (λb=>Value.int .u8 (b.toNat:Int))=(l.map uy).toArray:=by
  rw[ByteArray.extract_mk];simp[uy]
 show aP P Q H (pure ((ByteArray.extract ⟨⟨l⟩⟩ 0 l.length).data.map λb=>Value.int .u8 (b.toNat:Int))) R;rwa[e]⟩
def aby(P:aV)(tx:bh):Prop:=(∃e,P.underlying tx=some (.slice e))\/P.underlying tx=some .string
def Yt:TD->Bool
 | .slice _=>true
 | .text=>true
 | _=>false
def Xc{d:TD}(h:EJ P t d)(a:Yt d=true):aby P t:=by
 cases d <;> first | cases a;done | exact .inl ⟨_,h⟩ | exact .inr h
def dB.first{v:Value}(h:dB R k e v n j o):gH P R k n v j:=by
 cases o with
 | none=>obtain⟨⟨m,rfl,f⟩,rfl,rfl⟩:=h;exact gH.nil
 | some b=>
  obtain⟨m,c,rfl,q,z,r,x,u⟩:=h;exact gH.at ⟨x,λi v g=>by rw[bM];exact aF q (by rw[jJ];exact u i v g)⟩
structure aib(k:Nat)(e:TypeId)(len:Nat)(cs:List Value)(ob:Option Nat)(m:Nat)(vs:List Value)(R:LH)(v:Value)(R':LH):Prop where
 own:∃Wq,dB R' k e v (len+m) (cs++vs) Wq/\((R'=R/\Wq=none/\ob=none)\/∃b c,Wq=some b/\R'=R.put b (.cells c e)/\((ob=some b/\∃c0,R b=some (.cells c0 e (0,0),true)/\c.size=c0.size)\/R b=none))
def rZ(u:aR):∀(c:aK) (i j:Nat),(bY c i u)[j]?=if j<i then c[j]? else if h:j - i<u/\j<c.size then (u[j - i]'h.1) else c[j]?:=by
 induction u with
 | nil=>intro c i j;simp[bY]
 | cons v u l=>
  intro c i j;rw[bY,l]
  by_cases q:j<i
  .rw[ax M,ax q,jI M]
  .rw[A q]
   by_cases z:j=i
   .subst z;rw[ax M]
    by_cases r:j<c.size
    .rw[sC ⟨U,r⟩];simp[Array.getElem?_setIfInBounds,r]
    .rw[dif_neg M];simp[Array.getElem?_setIfInBounds,r]
   .rw[A M]
    by_cases r:j - (i+1)<u/\j<c.size
    .rw[sC ⟨r.1,by simpa using r.2⟩,sC ⟨bU,r.2⟩]
     congr 1
     let e:j - i=(j - (i+1))+1:=M
     simp[e,List.getElem_cons_succ]
    .rw[dif_neg (by simpa using r),jI M];rw[dif_neg];intro x;apply r;simp at x;omega
def Hz{H:bC}{tx:bh}{w:Nat}{G:aR}{v l z:Value}{ty:bh}(E:P.underlying t=some (.slice e))(hk:(P.info? e).map (·.size)=k)(q:(P.info? e).map (·.bytes)=n)(hz:(P.info? e).bind (·.zero)=z)(u1:z.cells.size=k)(PL:aby P tx)
  (T:dB R k e v w j o)(g:gH P R k m l G)(hs:∀u∈G,single u=true)(h0:0<n)(hb:(2 * (w+m)+1024) *n<=2 ^ 48)(hq:∀v' R',aib k e w j o m G R v' R'->Q v' R'):aP P Q H (Builtin.append_ #[t,tx] ty #[v,l]) R:=by
 let⟨I,W,p⟩:=g;unfold Builtin.append_;simp only[gq,zc,IL];rw[Z,aD E];simp only;obtain⟨ad,J,rfl,u9⟩:=T.slice;simp only;rcases PL with⟨e2,PL⟩ | PL
 all_goals
  rw[Z,cQ hk,Z,aD PL,Z,aI];simp only[iM,if_false,Cl,if_true];rw[Z,W]
  by_cases h:w+m<=J
  .rw[ax h,Z];refine p _ _ ?_;cases o with
   | none=>
    obtain⟨⟨u7,h1,u2⟩,B,X⟩:=T;cases h1;clear B;subst X u2;have hm:m=0:=M
    subst hm;have u3:G=[]:=by cases G with | nil=>rfl | cons _ _=>simp at I
    subst u3;refine hq _ _ ⟨none,⟨⟨0,rfl,rfl⟩,rfl,rfl⟩,.inl ⟨rfl,rfl,rfl⟩⟩
   | some b=>
    obtain⟨_,c,h1,B,X,h4,h5,h6⟩:=T;cases h1;simp only;rw[Z];rw[bM,jJ];have u8:w *k+m *k<=J *k:=by rw[<-yP];exact Nat.mul_le_mul_right _ h
    refine ky (e:=e) G 0 c R B (by rw[I,X];omega) hs (λR' g1 g2=>?_);rw[aI];rw[pT] at g1;refine hq _ _ ⟨b,⟨J,_,rfl,g1,by rw[xJ,X],h,by rw[eX,h5,I,yP],λi x K=>?_⟩,.inr ⟨b,bY c (w *k) G,rfl,?_,.inl ⟨rfl,c,B,xJ _ _ _⟩⟩⟩
    .rw[rZ]
     by_cases hi:i<w *k
     .rw[ax hi];rw[kS M] at K;exact h6 i x K
     .rw[lh M,h5] at K;have D:=(eO.1 K).1;rw[A hi,sC ⟨D,by rw[X];omega⟩];rw[<-bX D];exact K
    .funext b'
     by_cases e':b'=b
     .subst e';rw[g1,aj]
     .rw[g2 b' e',aB _ _ e']
  .rw[A h];obtain⟨y,f,u4⟩:∃y,P.info? e=some y/\y.bytes=n:=by
    cases K:P.info? e with
    | none=>rw[K] at q;cases q
    | some i=>rw[K] at q;cases q;exact⟨i,rfl,rfl⟩
   have u5:¬(y.bytes=0):=M
   rw[Z,gz f,A (by simp[u5]),Z,gz f];have C:=Hd (need:=w+m) (old:=J) M;have q0:Builtin.nextslicecap (w+m) J *y.bytes<=2 ^ 48:=lI (by rw[u4];exact Nat.mul_le_mul_right _ C) hb;rw[A M,Z,sx];intro F S;obtain⟨r,rfl⟩:∃r,F=w+m+r:=by
    unfold pN at S;simp only[Question.forced,iM,if_false,Question.cut] at S;obtain⟨d,s⟩:=S;exact⟨_,s⟩
   rw[Z,gz f,Z];refine qB ?_;rw[Z];refine(T.first (P:=P)).2.2 _ _ ?_;rw[Z];refine p _ _ ?_;rw[Z,gA hz,Z,jD];intro b u6;rw[aI];have a:=T.len;refine hq _ _ ⟨b,⟨w+m+r,_,rfl,aj _ _ _,?_,M,by rw[eX,a,I,yP],λi x K=>?_⟩,.inr ⟨b,_,rfl,rfl,.inr u6⟩⟩
   .simp only[Builtin.zeroCells,Cm,wG,Array.size_map,Array.size_range,a,I,u1];rw[show w+m+r - (w+m)=r by omega,yP,yP]
   .have D:=(eO.1 K).1;rw[<-iN,Array.toList_append,Array.toList_append,kS F3];exact K
end
inductive YC(E:cK)(B:List (Option Bx))(L:LH)(k:Nat)(y:Operand):Nat->List Value->Prop
 | own {kk off m cap:Nat} {bx:Bx} {svs:List SV} {vs:List Value} (hy:bZ E y=some (.sl kk off m cap)) (hb:nth B kk=some (some bx)) (hp:part bx.cells off (m *k)=some svs) (hd:cW fe svs=some vs):YC E B L k y m vs
 | Pp {a:Addr} {m cap:Nat} {vs:List Value} (hy:bZ E y=some (.v (.slice (some a) m cap))) (hc:cD L a (m *k) vs):YC E B L k y m vs
 | nil {cap:Nat} (hy:bZ E y=some (.v (.slice none 0 cap))):YC E B L k y 0 []
 | str {l:List UInt8} (h1:k=1) (hy:bZ E y=some (.v (.string ⟨⟨l⟩⟩))):YC E B L k y l.length (l.map uy)
theorem gY{α:Type}{h:α->List Value}{k:Nat}(f:∀x,(h x).length=k):∀l:List α,(l.flatMap h).length=l.length *k
 | []=>by simp
 | x::l=>by rw[rT,eX,f,gY f l,pR,Nat.succ_mul];omega
def VJ(f:∀x,(h x)=k)(q:0<k){v:Value}(c:(r.flatMap h)[n]?=v):∃i j x,n=i *k+j/\r[i]?=some x/\(h x)[j]?=v:=by
 let e:=(eO.1 c).1;rw[gY f] at e;let u:=Nat.div_lt_of_lt_mul (by rwa[Nat.mul_comm]);exists n / k,n % k,r[n / k],by rw[Nat.mul_comm];exact(Nat.div_add_mod n k).symm,bX u;let t:n % k<(h r[n / k]):=by rw[f];exact Nat.mod_lt _ q
 have:=tX f (bX u) (bX t);rw[show n / k *k+n % k=n by rw[Nat.mul_comm];exact Nat.div_add_mod n k,c] at this;rw[bX t];exact this.symm
def bz.cells{a:Addr}(c:bz L (some a) k h r)(f:∀x,(h x)=k):cD L a (r *k) (r.flatMap h):=by
 refine⟨gY f r,λn v g=>?_⟩;rcases pU k with rfl | q
 .let e:=(eO.1 g).1;rw[gY f] at e;omega
 .obtain⟨i,j,x,rfl,u,t⟩:=VJ f q g;exact c.get u t
def YC.sl{cap:Nat}(c:bz L d k h r)(f:∀e,(h e)=k)(g:bZ E x=some (.v (.slice d r cap))):YC E B L k x r (r.flatMap h):=by
 cases d with
 | none=>
  cases r with
  | nil=>exact .nil g
  | cons e r=>let⟨a,q⟩:=c.addr (i:=0) U;cases q
 | some a=>exact .Pp g (c.cells f)
def bE(I:LH)(k:Nat)(e:bh)(enc:α->List Value)(L:LH)(v:Value)(l:List α):Prop:=Le I L/\∃ob,dB L k e v l (l.flatMap enc) ob/\∀b,ob=some b->I b=none
def bE.nil(c:Le R L):bE R k e h L (.slice none 0 0) []:=⟨c,none,dB.nil,λb d=>by cases d⟩
def bE.new(c:Le R L)(d:L n=some (.cells #[] e (0,0),true))(y:R n=none):bE R k e h L (.slice (some ⟨n,0,none⟩) 0 0) []:=⟨c,some n,⟨0,#[],rfl,d,U,dA _,U,λi x u=>by simp at u⟩,λb q=>by cases q;exact y⟩
def bE.le{v:Value}(c:bE R k e h L v r)(o:Le L J):bE R k e h J v r:=let⟨q,d,z,u⟩:=c;⟨q.trans o,d,z.le o,u⟩
def bE.slice{v:Value}(c:bE R k e h L v r):∃l m,v=.slice l r m/\r<=m:=let⟨_,_,z,_⟩:=c;z.slice
def bE.at{I:LH}{len cap:Nat}(c:bE I k e h L (.slice d len cap) r)(f:∀x,(h x)=k):len=r/\bz L d k h r:=by
 let⟨_,i,z,_⟩:=c;let⟨q,v,u,_⟩:=z.slice;cases u;exact⟨rfl,z.at f⟩
section
variable {P:aV}[S:Seat P]{C:Cx P}
omit S in
def YC.first(h:YC E B L k x m j){T:aK}(u:bS N E T)(d:vM N B R)(o:Le L R):gH P R k m (ev T x) j:=by
 cases h with
 | own hy hb hp hd=>
  rename_i t off c y r;let g:=u.val hy;unfold den at g;cases f:N t with
  | none=>rw[f] at g;cases g
  | some b=>
   rw[f] at g;let z:=(bR g).symm;rw[z];let⟨w,a,l⟩:=d t b y f (by rwa[<-dF]);let⟨n,q,p⟩:=Cw a hp;rw[qQ hd N] at q;cases q;refine gH.at ⟨by rw[lO hd,xG hp],λi v g=>?_⟩;rw[bM];exact aF l (by rw[gq];exact p i v g)
 | Pp hy a=>
  let g:=(bR (u.val hy)).symm;rw[g];exact gH.at (o.cD a)
 | nil hy=>
  let g:=(bR (u.val hy)).symm;rw[g];exact gH.nil
 | str q hy=>
  subst q;let g:=(bR (u.val hy)).symm;rw[g];exact gH.str
def agT(B:aX)(L:LH)(I:LH)(k:Nat)(e:bh)(enc:α->List Value)(l:List α)(sv:SV)(B':aX)(L':LH):Prop:=∃v,sv=.v v/\B'=B/\bE I k e enc L' v l/\(∀b,L b≠none->L' b≠none)
def Ef.grow{w:fD}{l:cR}{gd:cZ}{ls:List α}{ts tx:bh}{ti k s:TI}{v:Value}{y:aW}(G:bZ E x=v)(X:S.τ.find ts=ti)(hd:ti.d=.slice e)(he:S.τ.find e=k)(u1:S.τ.find tx=s)(u2:Yt s.d=true)(hz:k.z.cells.size=k.size)
  (h0:Nat.blt 0 k.bytes=true)(q:Nat.ble k.bytes 1024=true)(hk:∀x,(h x)=k.size)(hs:∀x,∀u∈h x,single u=true)(n:bE R k.size e h L v r)(hy:YC E B L k.size y ls (ls.flatMap h))(f:r+ls.length<=1073741824):
  Ef C ⟨w,.call {callee:=.builtin .append,args:=#[x,y],argTypes:=#[ts,tx]},t,H,l,gd⟩ E B L (agT B L R k.size e h (r++ls)):=by
 intro T g β hE K;let⟨p,ob,ho,hn⟩:=n;have ex:ev T x=v:=(bR (hE.val G)).symm;have fy:=hy.first (P:=P) hE K.boxes K.le;have i1:=(TT.bj S.ok X).d;rw[hd] at i1;have i2:=Xc (TT.bj S.ok u1).d u2;have ie:=TT.bj S.ok he;refine⟨rfl,?_⟩;simp only[execOp,resolve,oY,iH,nG,ex,pure,Sem.bind,bind,invoke,builtin];show aP P _ _ (Builtin.append_ _ _ _>>= λu=>pure (Next.value u)) g;rw[Z];refine Hz i1 ie.size ie.bytes ie.zero hz i2 (ho.le K.le) fy (λu hu=>?_) (qE h0) ?_ λD R' hr=>?_
 .obtain⟨a,_,hu⟩:=tp.1 hu;exact hs a u hu
 .have:=qE q;have h2:2 * (r+ls.length)+1024<=2147484672:=by omega
  exact lI (E9 h2 this) V
 .rw[aI];obtain⟨u4,g1,g2⟩:=hr;rcases g2 with⟨rfl,rfl,rfl⟩ | ⟨b,c,rfl,rfl,g3⟩
  .refine⟨D,B,L,⟨D,rfl,rfl,⟨p,none,?_,hn⟩,λ_ j=>j⟩,rfl,K,λ_ _=>rfl⟩;rw[eX,ze];exact g1
  .have J:∀L',L' b=some (.cells c e (0,0),true)->dB L' k.size e D ↑(r++ls) ((r++ls).flatMap h) b:=λL' u3=>by
    rw[eX,ze];exact g1.keep λI m=>by cases m;rw[u3,aj]
   rcases g3 with⟨rfl,_⟩ | g3
   .have F:∃o,L b=some (o,true):=by
     obtain⟨_,c',_,h2,_⟩:=ho;exact⟨_,h2⟩
    obtain⟨o,F⟩:=F;have Q:=hn b rfl;refine⟨D,B,L.put b (.cells c e),⟨D,rfl,rfl,⟨λI x G=>?_,b,J _ (aj _ _ _),λI m=>by cases m;exact Q⟩,λI m=>?_⟩,rfl,K.wZ F (aj _ _ _) (λI m=>aB _ _ m),λ_ _=>rfl⟩
    .rw[aB _ _ (λe=>by subst e;rw[Q] at G;cases G)];exact p I x G
    .by_cases i:I=b
     .subst i;rw[aj];simp
     .rw[aB _ _ i];exact m
   .have W:=(K.free g3).1;refine⟨D,B,L.put b (.cells c e),⟨D,rfl,rfl,⟨p.trans (Le.put W _),b,J _ (aj _ _ _),λI m=>by cases m;exact bN p W⟩,λI m=>?_⟩,rfl,K.zY g3 _,λ_ _=>rfl⟩
    by_cases i:I=b
    .subst i;rw[aj];simp
    .rw[aB _ _ i];exact m
def UP(B:aX)(L:LH)(k:Nat)(e:bh)(len:Nat)(cs:aR)(ob:bD)(sv:SV)(B':aX)(L':LH):Prop:=∃v Wq,sv=.v v/\B'=B/\dB L' k e v len cs Wq/\
 ((L'=L/\Wq=none/\ob=none)\/∃b c,Wq=some b/\L'=L.put b (.cells c e)/\((ob=b/\∃c0,L b=some (.cells c0 e (0,0),true)/\c.size=c0.size)\/L b=none))
def Ef.nc{w:fD}{l:cR}{gd:cZ}{len:Nat}{cs vs:aR}{W X:bh}{ti n s:TI}{v:Value}{y:aW}(hx:bZ E x=v)(D:S.τ.find W=ti)(a:ti.d=.slice e)(he:S.τ.find e=n)(i:S.τ.find X=s)(F:Yt s.d=true)(p:n.z.cells.size=n.size)
  (h0:Nat.blt 0 n.bytes=true)(q:Nat.ble n.bytes 1024=true)(hs:∀u∈vs,single u=true)(j:dB L n.size e v len cs o)(hy:YC E B L n.size y m vs)(f:len+m<=1073741824):
  Ef C ⟨w,.call {callee:=.builtin .append,args:=#[x,y],argTypes:=#[W,X]},t,H,l,gd⟩ E B L (UP B L n.size e (len+m) (cs++vs) o):=by
 intro T R β h r;let ex:=(bR (h.val hx)).symm;let fy:=hy.first (P:=P) h r.boxes r.le;let i1:=(TT.bj S.ok D).d;rw[a] at i1;let i2:=Xc (TT.bj S.ok i).d F;let G:=TT.bj S.ok he;exists rfl;simp[execOp,resolve,oY,iH,nG,ex,pure,Sem.bind,bind,invoke,builtin];show aP P _ _ (Builtin.append_ _ _ _>>= λu=>pure (Next.value u)) R;rw[Z];refine Hz i1 G.size G.bytes G.zero p i2 (j.le r.le) fy hs (qE h0) ?_ λk R' hr=>?_
 .have:=qE q;let K:2 * (len+m)+1024<=2147484672:=by omega
  exact lI (E9 K this) V
 .rw[aI];let⟨u1,g1,g2⟩:=hr;rcases g2 with⟨rfl,rfl,rfl⟩ | ⟨b,c,rfl,rfl,g3⟩
  .exact⟨k,B,L,⟨k,none,rfl,rfl,g1,.inl ⟨rfl,rfl,rfl⟩⟩,rfl,r,λ_ _=>rfl⟩
  .let g:dB (L.put b (.cells c e)) n.size e k (len+m) (cs++vs) (some b):=g1.keep λb' I=>by cases I;rw[aj,aj]
   rcases g3 with⟨rfl,c0,g4,g5⟩ | g3
   .let J:L b=some (.cells c0 e (0,0),true):=by
     obtain⟨_,c',_,K,_⟩:=id j;have:=r.le _ _ K;rw[g4] at this;cases this;exact K
    exact⟨k,B,L.put b (.cells c e),⟨k,b,rfl,rfl,g,.inr ⟨b,c,rfl,rfl,.inl ⟨rfl,c0,J,g5⟩⟩⟩,rfl,r.wZ J (aj _ _ _) (λb' I=>aB _ _ I),λ_ _=>rfl⟩
   .let Q:=(r.free g3).1;exact⟨k,B,L.put b (.cells c e),⟨k,b,rfl,rfl,g,.inr ⟨b,c,rfl,rfl,.inr Q⟩⟩,rfl,r.zY g3 _,λ_ _=>rfl⟩
end
end Go.Mz
set_option maxRecDepth 100000
namespace Go.Proofs
end Go.Proofs
namespace Go.Mz
open Go.Conc Go.Proofs
def AS{P:aV}{Q:bC}{L:LH}{n:Nat}{t:bh}{k:fE}{a c:Int}{e:mc}(u:P.underlying t=some (.int k)):aP P e Q (Op.equalIn (n+1) t (.int k a) (.int k c)) L=e (a==c) L:=by
 rw[Op.equalIn,Z,aD u];simp only[if_true]
 rfl
def kQ{P:aV}{H:bC}{L:LH}{t:bh}{i:aK}{n:Nat}{v:Value}{Q:bC}(s:iZ P t=false)(h:i[n]?=v):aP P Q H (Go.part t i n) L=Q v L:=by
 unfold Go.part;rw[Z,ye s];simp[iM,if_false,h]
 rfl
def Mc{P:aV}{H:bC}{L:LH}{t:bh}{i:aK}{k n:Nat}{Q:bC}(s:iZ P t=true)(y:(P.info? t).map (·.size)=n):aP P Q H (Go.part t i k) L=Q (.agg (i.extract k (k+n))) L:=by
 unfold Go.part;rw[Z,ye s];simp only[if_true];rw[Z,cQ y]
 rfl
def dT(xs:aH):Value:=.agg (xs.map (Value.int .i64)).toArray
def Vf.ZN{P:aV}{E:cK}{B:aX}{L:LH}{t e:bh}{k:BinOp}{x y:aW}{z a:SV}{xs ys:aH}{c:Bool}(d:k=.eql\/k=.neq)(u:bZ E x=z)(g:den fe z=dT xs)(I:bZ E y=a)(J:den fe a=dT ys)(K:P.eqGuardType P.depth t=false)
  (m:∀(n:Nat) (Q:mc) (H:bC) (R:LH),aP P Q H (Op.equalIn (n+3) t (dT xs) (dT ys)) R=Q c R):Vf P (.binOp k t x y e) E B L (zx k c):=λT R β h _ _=>by
 let q:=bR ((h.val u).symm.trans (fw g β));let j:=bR ((h.val I).symm.trans (fw J β));refine⟨_,rfl,λp w s l o Q H r=>?_⟩;simp only[execOp,q,j];rw[Z,Z];let f:aP P (λ_ i=>aP P (λb i=>aP P Q H (pure (Next.value b)) i) H (binOp k t (dT xs) (dT ys)) i) H (eqGuard k t x y (dT xs) (dT ys)) R=aP P (λb i=>aP P Q H (pure (Next.value b)) i) H (binOp k t (dT xs) (dT ys)) R:=by
  rcases d with rfl | rfl <;> (show aP P _ H (program>>= _) R=_;rw[Z,gG,Z,gG,K];rfl)
 rw[f];rcases d with rfl | rfl
 .show aP P _ H (do pure (Value.bool (<-Op.equal t (dT xs) (dT ys)))) R;unfold Op.equal;simp only[Z,aI];rw[show Op.maxDepth=9997+3 from rfl,m];exact r
 .show aP P _ H (do pure (Value.bool (!(<-Op.equal t (dT xs) (dT ys))))) R;unfold Op.equal;simp only[Z,aI];rw[show Op.maxDepth=9997+3 from rfl,m];exact r
end Go.Mz
set_option maxRecDepth 100000
namespace Go.Mz
open Go.Conc
variable {α:Type}{n k m:Nat}{L R J:LH}{t e:bh}{w u:World}{h:α->List Value}{c:Int}{B:aX}{x:aW}{Y:Trace}{l:aH}{r:List α}{q:aU}{Q:bC}{E:cK}{j:aR}{D:bt}{d:bA}{F:Env}{g:aT}{o:bD}{N:Nm}{K:bI}{z:SV}{I:cj}{H:ck}
section
open Go.Proofs
section
variable {P:Program}
def pH{q:x8}{j:Bool}{c:Obj->LH->Prop}(h:L n=some (.map q k,j)):aP P c Q (getObj n) L=c (.map q k) L:=by
 show aP P c Q (.getObj n .pure) L=_;unfold aP;rw[h]
 rfl
variable {C:Cx P}
def Ef.afy{w:fD}{l:cR}{I:cZ}{m f:bh}{y u:aW}{j:SV}{i p:Value}{q:x8}(J:bZ E x=some (.v (.map n)))(g:bZ E y=z)(K:den fe z=i)(D:bZ E u=j)(F:den fe j=p)(G:P.underlying t=some (.map m f))(o:L n=some (.map q k,true))
  (b:∀(d:Bool) (Q:x6) (c:bC) (R:LH),aP P Q c (Instr.checkKey d 10000 m i) R=Q () R)(a:∀(Q:Q6) (c:bC) (R:LH),aP P Q c (Instr.findKey m i q.toList) R=Q none R):
  Ef C ⟨w,.mapUpdate t x y u,e,H,l,I⟩ E B L (IE (L.put n (.map (q.push {key:=i,val:=p,born:=k}) (k+1))) B):=by
 intro T R β h r;let S:=(bR (h.val J)).symm;let W:=bR ((h.val g).symm.trans (fw K β));let X:=bR ((h.val D).symm.trans (fw F β));exists rfl;simp only[execOp,S,W,X];rw[Z];unfold Instr.mapUpdate;rw[Z,aD G];rw[Z,pH (r.le _ _ o)];rw[Z,b,Z,a];rw[lN (r.le _ _ o) rfl rfl];exact⟨undef,B,_,⟨rfl,rfl,rfl⟩,rfl,r.wZ o (aj _ _ _) (λb' s=>aB R _ s),λ_ _=>rfl⟩
end
section
variable {P:aV}[S:Seat P]{C:Cx P}
def Ef.Hv{dst:fD}{ty:bh}{pos:ck}{af:cR}{gd:cZ}{y:aW}{z:TI}{l q:aR}{v:Value}(f:bZ E x=some (.v (.pointer (some ⟨n,k,none⟩))))(g:∃s,bZ E y=some s/\den fe s=v)(m:S.τ.find t=z)(d:L n=some (.cells j.toArray e (0,0),true))(i:v.cells=q.toArray)(c:Nat.beq q z.size=true)(o:Nat.ble (k+z.size) j=true)
  (a:q.all single=true)(b:wW j k q=l):Ef C ⟨dst,.store t x y,ty,pos,af,gd⟩ E B L (IE (L.put n (.cells l.toArray e)) B):=by
 have:=Ef.eR (C:=C) (B:=B) (dst:=dst) (ty:=ty) (pos:=pos) (af:=af) (gd:=gd) f g m d (by rw[i,wG];exact uq c) (by rw[wG];exact qE o) (by rw[i];intro u h;exact mK.1 a u ri);have p:bY j.toArray k v.cells.toList=l.toArray:=by
  apply Array.toList_inj.1;rw[qt,i,b]
 rw[p] at this;exact this
end
section
variable {P:Program}
def Vf.index{y:aW}{v:Value}{i:Nat}{k:fE}(u:bZ E x=z)(g:den fe z=some (.agg j.toArray))(d:bZ E y=some (.v (.int k i)))(f:P.underlying t=some (.array n e))(a:(P.info? e).map (·.size)=some 1)(s:iZ P e=false)(I:i<n)(m:j[i]?=v):
  Vf P (.index t x y) E B L v:=λT R β h _ _=>by
 let q:=bR ((h.val u).symm.trans (fw g β));let r:=(bR (h.val d)).symm;refine⟨_,rfl,λp w b l o Q H c=>?_⟩;simp only[execOp,q,r];rw[Z];unfold Instr.index;rw[Z];show aP P _ H (underlying t>>= _) R;rw[Z,aD f];simp only;rwa[ax M,Z,cQ a,kQ s (v:=v) (by rw[kT,vq,gq];exact m)]
end
def LH.bT(L:LH)(b:Nat):LH:=λb'=>if b'=b then none else L b'
def gC(L:LH)(b:Nat):Le (L.bT b) L:=λq x u=>by
 unfold LH.bT at u
 split at u
 .cases u
 .exact u
def bW{b:Nat}(h:n≠b):L.bT b n=L n:=by unfold LH.bT;rw[A h]
def AK{a:Addr}{v:Value}(h:L.cell? a=v)(d:a.block≠n):(L.bT n).cell? a=v:=by
 unfold LH.cell? at h ⊢;rwa[bW d]
def wL{o:Obj}:Le (L.bT n) (L.put n o):=λb x u=>by
 unfold LH.bT at u
 split at u
 .cases u
 .rename_i e;rw[aB _ _ e];exact u
section
variable {P:Program}
def eC{k:fE}{y:BoundsCode}{d:LO}(h:0<=c/\c<=n):aP P d Q (Instr.sliceBound (.int k c) n y) L=d c.toNat L:=by
 unfold Instr.sliceBound;rw[Z];show aP P d Q (if 0<=c/\c<=n then _ else _) L=_;rw[ax h];rfl
def Vf.af3{y:aW}{l:Addr}{c:fE}(u:bZ E x=l)(g:bZ E y=some (.v (.int c k)))(z:P.underlying t=some (.array n e))(a:(P.info? e).map (·.size)=m)(f:k<=n)(r:n≠0):
  Vf P (.slice t x none (some y) none) E B L (.v (.slice l k n)):=λT R β h _ _=>by
 let q:=(bR (h.val u)).symm;let j:=(bR (h.val g)).symm;refine⟨_,rfl,λp w s b o Q H d=>?_⟩;simp only[execOp,q,mg,Cg,j];rw[Z];unfold Instr.sliceAt;rw[Z,aD z];rw[Z];show aP P _ H (Instr.sliceBounds false n n none (some (.int c k)) none>>= _) R;rw[Z];unfold Instr.sliceBounds;simp only;show aP P _ H (Instr.sliceBound (.int c k) n _>>= _) R;rw[Z,eC M];show aP P _ H (sizeOf e>>= _) R;rw[Z,cQ a];rw[A M];let i:l.add (0 *m)=l:=by rw[yO];rfl
 rw[i,kT];exact d
def Vf.Ie{l:Addr}(u:bZ E x=l)(z:P.underlying t=some (.array n e))(a:(P.info? e).map (·.size)=m)(y:n≠0):
  Vf P (.slice t x none none none) E B L (.v (.slice l n n)):=λT R β h _ _=>by
 let q:=(bR (h.val u)).symm;refine⟨_,rfl,λp w s i o Q H c=>?_⟩;simp only[execOp,q,Cg];rw[Z];unfold Instr.sliceAt;rw[Z,aD z];rw[Z];show aP P _ H (sizeOf e>>= _) R;rw[Z,cQ a,A M];let d:l.add (0 *m)=l:=by rw[yO];rfl
 rwa[d]
def Vf.slice3{y u:aW}{j c:Nat}{g i:fE}(f:bZ E x=some (.v (.slice d n k)))(r:bZ E y=some (.v (.int g j)))(I:bZ E u=some (.v (.int i c)))(z:P.underlying t=some (.slice e))(J:(P.info? e).map (·.size)=m)(S:j<=c)(b:c<=k):
  Vf P (.slice t x none (some y) (some u)) E B L (.v (.slice d j c)):=λT R β h _ _=>by
 let q:=(bR (h.val f)).symm;let K:=(bR (h.val r)).symm;let D:=(bR (h.val I)).symm;refine⟨_,rfl,λp w s l o Q H F=>?_⟩;simp only[execOp,q,mg,Cg,K,D];rw[Z];unfold Instr.sliceAt;rw[Z,aD z];unfold Instr.slice;rw[Z,aD z];simp only;rw[Z];unfold Instr.sliceBounds;simp only;rw[Z,eC M,Z,kT,eC M,kT];show aP P _ H (sizeOf e>>= _) R;rw[Z,cQ J];let G:(if c=0 then d else d.map λx=>x.add (0 *m))=d:=by
  split
  .rfl
  .cases d with
   | none=>rfl
   | some a=>rw[yO];rfl
 rw[G];exact F
end
end
def dB.calm{v:Value}(h:dB L k e v n j o):dB L.calm k e v n j o:=by
 cases o with
 | none=>exact h
 | some b=>obtain⟨m,c,q,z,r⟩:=h;exact⟨m,c,q,ia z,r⟩
def LH.less(L:LH)(bs:aU):LH:=λb=>if b∈bs then none else L b
def Eg(L:LH)(v:aU):Le (L.less v) L:=λb x u=>by
 unfold LH.less at u
 split at u
 .cases u
 .exact u
def gJ(h:n∉q):L.less q n=L n:=by unfold LH.less;rw[A h]
def JG(h:Le R L)(d:∀b∈q,R b=none):Le R (L.less q):=λb x u=>by
 rw[gJ (λo=>by rw[d b o] at u;cases u)];exact h b x u
def lT(h:n∈q):L.less q n=none:=by unfold LH.less;rw[ax h]
section
variable {P:aV}{C:Cx P}
def Ef.makeMap{w:fD}{l:cR}{o:cZ}:Ef C ⟨w,.makeMap t none,e,H,l,o⟩ E B L (λy q z=>∃r,y=.v (.map (some r))/\q=B/\L r=none/\z=L.put r (.map #[] 0)):=by
 intro T R β h u;refine⟨rfl,Df.makeMap _ _ _ _ _ _ ?_⟩;intro b d;exact⟨_,B,_,⟨b,rfl,rfl,(u.free d).1,rfl⟩,rfl,u.zY d _,λ_ _=>rfl⟩
end
section
variable {P:aV}{C:Cx P}
def MH.mono{o:Oper}{X:aM P}{T:aK}{a:bC}(f:∀v d,Q v d->a v d)(h:MH X o T L Q):MH X o T L a:=by
 let⟨q,z⟩:=h;refine⟨q,lF (λk d u=>?_) (λ_ _ h=>h) _ _ z⟩;cases k <;> first | exact f _ _ u | (let⟨c,t,m⟩:=u;exact⟨c,t,λv i g=>f _ _ (m v i g)⟩) | exact u
def Ef.cz{o:Oper}{E:cK}{B:aX}{L:LH}(s:Nat){n:Nat}{x:Bx}{j:aR}{Q:Nat->SV->List (Option Bx)->LH->Prop}(a:(∃off,E s=some (.p n off))\/(∃off m t,E s=some (.sl n off m t)))(G:nth B n=x)(H:cW fe x.cells=j)
  (h:∀b,L b=none->C.R0 b=none->Ef C o (λs=>(E s).map (oo n b)) (B.set n none) (L.put b (.cells j.toArray x.ty)) (Q b)):Ef C o E B L (λw l k=>∃b,L b=none/\C.R0 b=none/\Q b w l k):=by
 intro T R β I r;let d:∃b,β n=some b:=by
  rcases a with⟨off,a⟩ | ⟨off,m,t,a⟩
  .let⟨b,d,_⟩:=sH (I s _ a);exact⟨b,d⟩
  .have:=I s _ a;unfold den at this;cases f:β n with
   | none=>rw[f] at this;cases this
   | some b=>exact⟨b,rfl⟩
 let⟨b,d⟩:=d;let c:B[n]?=x:=by rwa[<-dF]
 let⟨D,z⟩:=r.cz d c H;let F:=(r.box n b x d c).2.1;let J:bS β (λs=>(E s).map (oo n b)) T:=λs y g=>by
  rw[il] at g;obtain⟨u,K,rfl⟩:=g;rw[rh d];exact I s u K
 refine MH.mono ?_ (h b D F T R β J z);rintro v R' ⟨w,l,k,q,K,S,W⟩;refine⟨w,l,k,⟨b,D,F,q⟩,K,S,λX i=>?_⟩;rw[W X i,GG (λe=>by subst e;rw[d] at i;cases i)]
end
section
variable {P:aV}{C:Cx P}
def sj{l:Addr}{c:Addr->LH->Prop}:aP P c Q (asAddr (.pointer (some l))) R=c l R:=rfl
def WM.ajf{q:Func}{H:kP}{f u:Value}{a b:Tmp}{w y:Addr}(r:Rt C q Q H)(x:q.results=#[.cell a t,.cell b e])(g:get F a=w)(k:get F b=y)
  (s:∀(R:LH) (Q:bC) (H:bC),Le L R->aP P Q H (loadVar t w) R=Q f R)(d:∀(R:LH) (Q:bC) (H:bC),Le L R->aP P Q H (loadVar e y) R=Q u R)(c:Q (.tuple #[f,u]) L):WM C n [] .returning F B L:=by
 refine WM.Ym r (λT R β h _ o=>?_) c;let p:=(bR (h _ _ g)).symm;let z:=(bR (h _ _ k)).symm;unfold results;rw[x,Z,GD];simp only[Ch,List.mapM_nil];rw[ES,Z];simp only[p,z];rw[Z,sj,s _ _ _ o,Z,Z,Z,sj,d _ _ _ o];exact⟨rfl,rfl⟩
def Ei{a:Addr}{v:Value}(n:iZ P t=false)(h:L.cell? a=v)(R:LH)(Q:bC)(H:bC)(o:Le L R):aP P Q H (loadVar t a) R=Q v R:=rM n (o.cell h)
def HY{a:Addr}(n:iZ P t=true)(y:(P.info? t).map (·.size)=m)(h:cD L a m j)(R:LH)(Q:bC)(H:bC)(o:Le L R):aP P Q H (loadVar t a) R=Q (.agg j.toArray) R:=rN n y (o.cD h)
end
section
variable {P:aV}[S:Seat P]{C:Cx P}
def Ef.copy{w:fD}{l:cR}{o:cZ}{s D q:bh}{I b:TI}{y:aW}{a:Nat}{c:aK}(F:bZ E x=some (.v (.slice (some ⟨n,0,none⟩) k a)))(z:S.τ.find s=I)(G:I.d=.slice e)(Q:S.τ.find e=b)(g:YC E B L b.size y m j)(W:m<=k)
  (J:L n=some (.cells c q (0,0),true))(hl:j<=c.size)(X:∀u∈j,single u=true):
  Ef C ⟨w,.call {callee:=.builtin .copy,args:=#[x,y],argTypes:=#[s,D]},t,H,l,o⟩ E B L (λsv B' L'=>sv=m/\B'=B/\L'=L.put n (.cells (bY c 0 j) q)):=by
 intro T R β h r;let ex:=(bR (h.val F)).symm;let⟨u1,f,p⟩:=g.first (P:=P) h r.boxes r.le;let i:=(TT.bj S.ok z).d;rw[G] at i;exists rfl;simp[execOp,resolve,oY,iH,nG,ex,pure,Sem.bind,bind,invoke,builtin];show aP P _ _ (Builtin.copy_ _ _ _>>= λu=>pure (Next.value u)) R;rw[Z];unfold Builtin.copy_;simp only[gq,zc,IL];rw[Z,aD i];simp only;rw[Z,f,Z,cQ (TT.bj S.ok Q).size,Z];rw[show Nat.min m k=m from yR W];refine p _ _ ?_;simp only;rw[Z];refine ky (e:=q) j 0 c R (r.le _ _ J) M X (λR' K h2=>?_);rw[pT] at K;exact⟨m,B,_,⟨rfl,rfl,rfl⟩,rfl,r.wZ J K h2,λ_ _=>rfl⟩
end
end Go.Mz
