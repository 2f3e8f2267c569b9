/- Lemmas for the claim. -/
import Derived.Test.YtjhpkghkgaekcaaGreatDoorMzLd
import Derived.Lib.Bytealg
set_option linter.defProp false
set_option maxRecDepth 100000
namespace Go.Mz
open Go.Conc
variable {P:aV}{α:Type}{n k m:Nat}{L R J:LH}{t e:bh}{w u:World}{h:α->List Value}{c:Int}{B:aX}{x:aW}{Y:Trace}{l:aH}{r:List α}{s:Sw}{q:aU}{Q:bC}{E:cK}{j:aR}{D:bt}{d:bA}{F:Env}{g:aT}{o:bD}{C:bH}{N:Nm}{K:bI}{z:SV}{I:cj}{H:ck}{X:aM Proofs.Tryz.prog}
section
open Go.Proofs
def aeS:Array Value->Sem Value:=Extern.BytealgCount.count
def aiH:Array Value->Sem Value:=Extern.BytealgIndexByte.indexByte
def ZT:Ext Tryz.prog 173 Tryz.f173 aeS:=⟨Tryz.func173,aN,rfl,aN,aN⟩
def ae6:Ext Tryz.prog 261 Tryz.f261 aiH:=⟨Tryz.func261,aN,rfl,aN,aN⟩
def fF(l:ko)(c:UInt8):Nat:=l.count c
abbrev zH(l:List UInt8)(c:UInt8):Int:=Lib.indexByte l c
def UC(c:UInt8):((c.toNat:Int)).toNat.toUInt8=c:=U
def Zz(l:ko)(c:UInt8)(L:LH):pK Tryz.prog 173 [str l,uy c] L (λu v=>u=.int .i64 (fF l c:Nat)/\L=v):=
 pK.pure ZT λQ H R=>by
  show aP Tryz.prog Q H (pure (goInt ((ByteArray.mk ⟨l⟩).foldl (λn x=>if x==((c.toNat:Int)).toNat.toUInt8 then n+1 else n) (0:Nat)))) R=_;rw[Lib.foldl_data,aI,UC];let e:∀(l:ko) (n:Int),l.foldl (λn x=>if x==c then n+1 else n) n=n+(fF l c:Nat):=λl n=>Lib.count_foldl c l n;have:=e l 0;rw[Int.zero_add] at this;show Q (.int .i64 (l.foldl (λ(n:Int) x=>if x==c then n+1 else n) 0)) R=_;rw[this]
def afg(l:ko)(c:UInt8)(L:LH):pK Tryz.prog 261 [str l,uy c] L (λu v=>u=zH l c/\L=v):=
 pK.pure ae6 λQ H R=>by
  show aP Tryz.prog Q H (match(List.range (ByteArray.mk ⟨l⟩).size).find? λi=>(ByteArray.mk ⟨l⟩)[i]! ==((c.toNat:Int)).toNat.toUInt8 with
   | some i=>pure (goInt i)
   | none=>pure (goInt (-1))) R=_
  rw[UC];let h:=Lib.firstIdx_eq ⟨⟨l⟩⟩ c;let a:=h.symm;unfold zH;rw[a];unfold firstIdx;cases(List.range (ByteArray.mk ⟨l⟩).size).find? λi=>(ByteArray.mk ⟨l⟩)[i]! ==c <;> rfl
def yG(l:ko)(k:UInt8)(L:LH):Sp X 131 [str l,str [k]] L (λv u=>v=.int .i64 (fF l k:Nat)/\L=u):=by
 refine Sp.e Tryz.func131 O λC j d r=>(.I O (λh=>ar h U) (λ_=>W.go 99 O (.s O (λ_=>W.go 99 O ?_) (λh=>ar h U))));refine .u rfl (Vf.adW rfl rfl rfl rfl rfl (show[k][0]?=k from rfl)) (.g rfl (.e rfl (Ef.ext rfl (Zz l k _)) ?_));rintro _ _ _ ⟨_,rfl,rfl,rfl,rfl⟩;refine .g O (.r r O ⟨rfl,rfl⟩)
def OL(l:ko)(k:UInt8)(L:LH):Sp X 245 [str l,uy k] L (λv u=>v=zH l k/\L=u):=by
 refine Sp.e Tryz.func245 O λC j d r=>(.v O (Ef.ext O (afg l k _)) ?_);rintro _ _ _ ⟨_,rfl,rfl,rfl,rfl⟩;refine .g O (.r r O ⟨rfl,rfl⟩)
def Zf(l:ko)(k:UInt8)(L:LH):Sp X 222 [str l,str [k]] L (λv u=>v=zH l k/\L=u):=by
 refine Sp.e Tryz.func222 O λC j d r=>(.I O (λh=>ar h U) (λ_=>W.go 99 O (.s O (λc1=>?_) (λc1=>?_))))
 .have e:l=[k]:=by
   rw[tC] at c1;have:[k]=l:=mw
   exact this.symm
  subst e;refine .g O (.r r O ⟨by simp[zH,Lib.indexByte,lv],rfl⟩)
 .refine .I O (λ_=>W.go 99 O ?_) (λh=>ar h U);refine .u rfl (Vf.adW rfl rfl rfl rfl rfl (show[k][0]?=k from rfl)) (.g rfl (.p rfl (OL l k _) (.g rfl (.r r O ⟨rfl,rfl⟩))))
def abg(l:ko)(k:UInt8)(L:LH):Sp X 174 [str l,str [k]] L (λv u=>v=zH l k/\L=u):=by
 refine Sp.e Tryz.func174 O λC j d r=>(.y O (Zf l k _) (.g O ?_));exact .r r O ⟨rfl,rfl⟩
end
section
variable {P:aV}[S:Seat P]
omit S in
def EV{s u:Option Value}{i j:Nat}{d:Nat×Nat×Nat->LH->Prop}(q:(u=none/\n=j)\/∃c,u=some (.int c (j:Int)))(z:(s=none/\i=0)\/∃c,s=some (.int c (i:Int)))(t:i<=j)(v:j<=k):aP P d Q (Instr.sliceBounds true n k s u none) R=d (i,j,k) R:=by
 unfold Instr.sliceBounds;rcases q with⟨rfl,rfl⟩ | ⟨k1,rfl⟩ <;> rcases z with⟨rfl,rfl⟩ | ⟨k2,rfl⟩
 .rw[Z,aI,Z,aI,Z,aI,aI]
 .rw[Z,aI,Z,aI,Z,eC M,kT,aI]
 .rw[Z,aI,Z,eC M,kT,Z,aI,aI]
 .rw[Z,aI,Z,eC M,kT,Z,eC M,kT,aI]
omit S in
def Vf.EB{K D:LR}{i j:Nat}{s:Int}(G:bZ E x=some (.v (.slice d n k)))(u:P.underlying t=some (.slice e))(S:(P.info? e).map (·.size)=m)(r:R6 E K 0=c)(b:R6 E D n=s)(f:c=(i:Int))(W:s=(j:Int))(I:i<=j)(X:j<=k):
  Vf P (.slice t x K D none) E B L (.v (.slice (if k=i then d else d.map λa=>a.add (i *m)) (j - i) (k - i))):=λT R β F _ _=>by
 let C:=(bR (F.val G)).symm;subst f W;refine⟨_,rfl,λty w u1 af gd Q H hq=>?_⟩;simp only[execOp,C,Cg];rw[Z];unfold Instr.sliceAt;rw[Z,aD u];simp only;unfold Instr.slice;rw[Z,aD u];simp only;rw[Z];let y:∀(o:LR) (l s:Int) (g:Nat),R6 E o l=s->s=(g:Int)->(o.map (ev T)=none/\l=g)\/∃J,o.map (ev T)=some (.int J (g:Int)):=by
  intro o l s g h e;subst e;cases o with
  | none=>exact .inl ⟨rfl,bR h⟩
  | some z=>
   unfold R6 at h;simp only at h
   split at h
   .rename_i J q p;cases h;exact .inr ⟨J,by rw[mg,(bR (F.val p)).symm]⟩
   .cases h
 rw[EV (i:=i) (j:=j) ((y _ _ _ _ b rfl).imp (λh=>⟨h.1,M⟩) id) ((y _ _ _ _ r rfl).imp (λh=>⟨h.1,M⟩) id) I X];simp only;rw[Z,cQ S];exact hq
end
def Ef.makeChan{C:Cx P}{w:fD}{p:bh}{l:cR}{a:cZ}{c:ChanDir}(u:bZ E x=some (.v (.int .i64 0)))(m:P.underlying t=some (.chan c e))(d:(P.info? e).map (·.bytes)=n):
  Ef C ⟨w,.makeChan t x,p,H,l,a⟩ E B L (λg j s=>∃r,g=.v (.chan (some r))/\j=B/\L r=none/\s=L.put r (.chan 0 #[] false 0 0 false)):=by
 intro T R β h z;let q:ev T x=.int .i64 0:=(bR (h.val u)).symm;obtain⟨y,f,k⟩:∃y,P.info? e=some y/\y.bytes=n:=by
  cases u:P.info? e with
  | none=>rw[u] at d;cases d
  | some i=>rw[u] at d;cases d;exact⟨i,rfl,rfl⟩
 refine⟨rfl,?_⟩;simp only[execOp,q];rw[Z];unfold Instr.makeChan;rw[Z];show aP P _ _ (underlying t>>= _) R;rw[Z,aD m];simp only;rw[Z,gz f];let o:(0:Int)<=IntKind.i64.max:=V
 rw[A (by simp[o])];intro b d;exact⟨_,B,_,⟨b,rfl,rfl,(z.free d).1,rfl⟩,rfl,z.zY d _,λ_ _=>rfl⟩
def Ef.makeSlice{C:Cx P}{w:fD}{p:bh}{l:cR}{o:cZ}{z:Value}(u:bZ E x=n)(F:n<=1000000)(G:P.underlying t=some (.slice e))(Q:(P.info? e).map (·.size)=some 1)(q:(P.info? e).map (·.bytes)=k)(S:(P.info? e).bind (·.zero)=z)(d:k<=1024)(s:z.cells=#[z]):
  Ef C ⟨w,.makeSlice t x x,p,H,l,o⟩ E B L (λg a j=>∃b,g=.v (.slice (some ⟨b,0,none⟩) n n)/\a=B/\L b=none/\j=L.put b (.cells (Array.replicate n z) e)):=by
 intro T R β h r;let W:ev T x=.int .i64 n:=(bR (h.val u)).symm;obtain⟨y,f,I⟩:∃y,P.info? e=some y/\y.bytes=k:=by
  cases u:P.info? e with
  | none=>rw[u] at q;cases q
  | some i=>rw[u] at q;cases q;exact⟨i,rfl,rfl⟩
 let X:IntKind.i64.wrap (n:Int)=n:=wrap64_in _ M M;refine⟨rfl,?_⟩;simp only[execOp,W];rw[Z];unfold Instr.makeSlice;rw[Z,aD G];simp only;rw[Z];show aP P _ _ (asInt (.int .i64 n)>>= _) R;rw[Z];show aP P _ _ (typeInfo e>>= _) R;rw[Z,gz f];simp only[X];let K:k *n<=1024 * 1000000:=E9 d F;let J:(y.bytes:Int) * (n:Int)<=281474976710656:=by
  rw[I];have:((k *n:Nat):Int)<=1024000000:=M
  rw[Int.natCast_mul] at this;omega
 rw[A (by simp[J])];rw[Z];refine qB ?_;rw[Z,cQ Q];simp only[kT,vq];let fin:∀c:Array Value,c=Array.replicate n z->∀b,R b=none->∃g a j,(∃b,g=.v (.slice (some ⟨b,0,none⟩) n n)/\a=B/\L b=none/\j=L.put b (.cells (Array.replicate n z) e))/\den β g=some (.slice (some ⟨b,0,none⟩) n n)/\bJ C.L0 C.R0 β a j (R.put b (.cells c e))/\∀m,β m=none->a[m]?=B[m]?:=λc hc b d=>by
  subst hc;exact⟨_,B,_,⟨b,rfl,rfl,(r.free d).1,rfl⟩,rfl,r.zY d _,λ_ _=>rfl⟩
 by_cases D:n=0
 .subst D;rw[ax rfl,Z,aI,Z,jD];intro b d;exact fin _ U b d
 .rw[A D,Z,gA S,Z,aI,Z,jD];intro b d;refine fin _ ?_ b d;rw[s]
  ext i h1 h2
  .simp
  .simp[Nat.mod_one]
structure Gl where
 made:Int
 jR:Int
 dw:ei
deriving DecidableEq
structure Sg where
 gU:Int
 iR:Int
 year:Int
 found:Int
deriving DecidableEq
abbrev sX:=List Sg
structure Ro where
 au:List Gl
 steps:List Int
 be:List Int
 samples:List ei
 aQ:List Sg
deriving DecidableEq
def mM(g:Gl):Int:=if !cV g.made 0 60||!cV g.jR 0 40 then 1 else iE g.dw 3
def fR:List Gl->Int
 | []=>0
 | g::l=>if mM g≠0 then mM g else fR l
def fW:Option Int->List Int->Int
 | _,[]=>0
 | p,n::l=>if !cV n 1 40 then 1 else if(match p with | some q=>decide (n<=q) | none=>false) then 5 else fW (some n) l
def ik(r:Ro)(s:Sg):Int:=
 if !cV s.gU 0 ((r.samples:Int) - 1)||!cV s.iR 0 ((r.au:Int) - 1) then 3 else
 if !cV s.year 0 60 then 1 else
 if s.year<(r.au.getD s.iR.toNat ⟨0,0,⟨0,0⟩⟩).made then 12 else
 if !cV s.found 0 2 then 8 else 0
def mo(r:Ro):List Sg->Int
 | []=>0
 | s::l=>if ik r s≠0 then ik r s else mo r l
def ic(r:Ro):Int:=
 if cI r.au 1 4≠0 then cI r.au 1 4 else
 if fR r.au≠0 then fR r.au else
 if cI r.steps 1 3≠0 then cI r.steps 1 3 else
 if fW none r.steps≠0 then fW none r.steps else
 if r.be≠r.steps.length+1 then 9 else
 if !(r.be.all λn=>cV n 0 99) then 1 else
 if ep r.samples 2 40≠0 then ep r.samples 2 40 else
 if 8<r.aQ.length then 6 else mo r r.aQ
def mj(r:Ro)(f:aH)(iR:Nat)(year:Int):Int:=
 let g:=r.au.getD iR ⟨0,0,⟨0,0⟩⟩
 max 0 (g.jR - f.getD iR 0 * (year - g.made))
def vx(n iR:Int):ei:=if n=0 then⟨iR+1,40⟩ else if n=1 then⟨iR,iR⟩ else⟨0,iR - 1⟩
def dx(r:Ro)(f:aH)(ss:sX):List ei:=
 ss.foldl (λg s=>g.modify s.gU.toNat λx=>iD x (vx s.found (mj r f s.iR.toNat s.year))) r.samples
def cP:List Gl->List (List Int)
 | []=>[[]]
 | g::l=>(cP l).flatMap λt=>(nN g.dw).map (·::t)
def eB(r:Ro)(ss:sX):List (List Int×List ei):=
 ((cP r.au).map λf=>(f,dx r f ss)).filter λx=>decide (0<eo x.2)
def fq(r:Ro)(k:Nat):ei:=⟨if 0<k then r.steps.getD (k - 1) 0 else 0,if k<r.steps then r.steps.getD k 0 - 1 else 40⟩
def iv(g:eI)(gU:Nat)(s:ei):Int:=(eo g).tdiv (dM (g.getD gU ⟨0,0⟩)) *dM (iD (g.getD gU ⟨0,0⟩) s)
def po(r:Ro)(gU k:Nat):Int:=bu ((eB r r.aQ).map λx=>iv x.2 gU (fq r k))
def eg(r:Ro)(gU:Nat):List Nat:=(List.range r.be).filter λk=>decide (0<po r gU k)
def rI:List Int->Int
 | []=>0
 | x::l=>l.foldl min x
def wh:List Int->Int
 | []=>0
 | x::l=>l.foldl max x
def jh(r:Ro)(gU:Int):ei×Int:=
 if ic r≠0 then(⟨0,0⟩,ic r) else
 if !cV gU 0 ((r.samples:Int) - 1) then(⟨0,0⟩,3) else
 if eB r r.aQ=[] then(⟨0,0⟩,9) else
 let l:=(eg r gU.toNat).map λk=>r.be.getD k 0
 (⟨rI l,wh l⟩,0)
def wY:Ro:=⟨[],[],[],[],[]⟩
def oA(r:Ro)(s:Sg):Ro×Int:=
 if ic r≠0 then(wY,ic r) else
 if r.aQ.length=8 then(wY,6) else
 if ik r s≠0 then(wY,ik r s) else
 if eB r r.aQ≠[]/\eB r (r.aQ++[s])=[] then(wY,9) else({r with aQ:=r.aQ++[s]},0)
def ir:Ro:=⟨[⟨0,20,⟨0,1⟩⟩,⟨0,30,⟨1,2⟩⟩,⟨5,12,⟨0,0⟩⟩,⟨5,18,⟨0,0⟩⟩],[10,18],[3,5,8],[⟨8,24⟩,⟨5,15⟩],[⟨0,0,4,2⟩,⟨0,2,5,0⟩]⟩
abbrev Bs:=List UInt8
abbrev iW:=List Bs
def fI:Bs->List Bs
 | []=>[[]]
 | c::l=>match c==32,fI l with
  | true,r=>[]::r
  | false,w::r=>(c::w)::r
  | false,[]=>[[c]]
def ql:List Bs->Bs
 | []=>[]
 | [w]=>w
 | w::l=>w++32::ql l
def Ii:List Bs:=[[112,114,111,111,102],[115,105,103,104,116],[119,97,110,116],[118,111,105,100],[119,104,101,110],[100,117,116,121],[98,101,115,116]]
def lE(v:Nat):Bs:=Ii.getD v []
def jQ(v:Nat):Nat:=[3,4,4,1,1,1,0].getD v 0
def yq:Bs:=[97,110,121]
def okB:Bs:=[111,107]
def agC:Bs:=[101,114,114,111,114]
def N0:Bs->Option Nat
 | [a]=>if 48<=a/\a<=57 then some (a.toNat - 48) else none
 | [a,b]=>if 49<=a/\a<=57/\48<=b/\b<=57 then some (10 * (a.toNat - 48)+(b.toNat - 48)) else none
 | _=>none
def sE(v:Nat):Nat->List Bs->Option (List Int)
 | _,[]=>some []
 | i,w::l=>
  match(if v=2/\i=1/\w=yq then some (-1:Int) else(N0 w).map Int.ofNat),sE v (i+1) l with
  | some n,some r=>some (n::r)
  | _,_=>none
def kV(l:Bs):Option (Nat×List Int):=
 match fI l with
 | []=>none
 | w::r=>match Ii.idxOf? w with
  | none=>none
  | some v=>if r≠jQ v then none else(sE v 0 r).map λa=>(v,a)
def cu(n:Nat):Bs:=(Nat.toDigits 10 n).map λc=>c.toNat.toUInt8
def qk(n:Int):Bs:=if n<0 then 45::cu n.natAbs else cu n.toNat
def ly(l:aH):Bs:=ql (l.map qk)
def tE(e:Int):Bs:=agC++32::qk e
section
open Go.Proofs
abbrev dv(w:Bs):List Value:=[str w]
def dR(w:Bs):(dv w).length=1:=rfl
def kE(w:Bs):∀u∈dv w,single u=true:=λu q=>by rw[dJ.1 q];rfl
def VD(l:iW):l.flatMap dv=l.map str:=by
 induction l with
 | nil=>rfl
 | cons a l u=>rw[rT,u];rfl
def CE:∀l:Bs,(zH l 32=-1/\fF l 32=0/\fI l=[l])\/∃m:Nat,zH l 32=m/\m<l/\fI l=l.take m::fI (l.drop (m+1))/\fF l 32=fF (l.drop (m+1)) 32+1
 | []=>.inl ⟨rfl,rfl,rfl⟩
 | c::l=>by
  by_cases b:c=32
  .subst b;refine .inr ⟨0,rfl,U,?_,?_⟩
   .rw[fI];rfl
   .simp[fF]
  .have u:(c==32)=false:=by simpa using b
   let i:zH (c::l) 32=if zH l 32==-1 then -1 else zH l 32+1:=by
    show(if(c==32)=true then _ else _)=_;rw[u];rfl
   let y:fF (c::l) 32=fF l 32:=by unfold fF;rw[List.count_cons,u];rfl
   rcases CE l with⟨h1,h2,h3⟩ | ⟨m,h1,h2,h3,h4⟩
   .refine .inl ⟨by rw[i,h1];rfl,by rw[y,h2],?_⟩;rw[fI,u,h3]
   .refine .inr ⟨m+1,by rw[i,h1,A U];omega,bU,?_,by rw[y,h4];simp⟩;rw[fI,u,h3];simp[List.take_succ_cons]
def aeP(l:Bs)(c:UInt8):fF l c<=l:=List.count_le_length
def Ua(a b:List α)(x y:α):(a++x::b).set a y=a++y::b:=U
def TN(c:aR)(i:Nat)(v:Value):bY c.toArray i [v]=(c.set i v).toArray:=by
 show c.toArray.setIfInBounds i v=_;simp
def abw(l:Bs)(L:LH)(S:l.length<=1000):Sp X 156 [str l,str [32],.int .i64 0,.int .i64 (-1)] L (λv z=>∃b,L b=none/\Le L z/\v=.slice (some ⟨b,0,none⟩) (fI l) (fI l)/\bz z (some ⟨b,0,none⟩) 1 dv (fI l)):=by
 have K:=aeP l 32;refine Sp.e (n:=66) Tryz.func156 O λC T D r=>?_;refine .I O (λh=>ar h U) (λ_=>W.go 99 O (.F O (.I O (λ_=>W.go 99 O ?_) (λh=>ar h U))));refine .p O (yG l 32 _) (.g O ?_);have o:(if IntKind.i64.wrap ((l:Int)+1)<IntKind.i64.wrap ((fF l 32:Nat)+1) then IntKind.i64.wrap ((l:Int)+1) else IntKind.i64.wrap ((fF l 32:Nat)+1))=((fF l 32+1:Nat):Int):=by
  rw[wrap64_in _ M M,wrap64_in _ M M,A M];rfl
 rw[o];refine .e O (Ef.makeSlice O M Tryz.underlying33 KW aeF ah7 V O) ?_;rintro _ _ _ ⟨u,rfl,rfl,q,rfl⟩;refine .de [] 99 O ?_;have I:IntKind.i64.wrap (((fF l 32+1:Nat):Int) - 1)=(fF l 32:Nat):=by rw[wrap64_in _ M M];omega
 rw[I];have g:=aj L u (.cells (Array.replicate (fF l 32+1) (str [])) 9);have t:(Array.replicate (fF l 32+1) (str []))=(List.replicate (fF l 32+1) (str [])).toArray:=U
 rw[t] at g;refine .l (λF E B z=>∃(i:Nat) (done:iW) (s:Bs),F=fF l 32 - i/\done=i/\fI l=done++fI s/\fF s 32+i=fF l 32/\s<=l.length/\Le L z/\z u=some (.cells (done.map str++List.replicate (fF l 32+1 - i) (str [])).toArray 9 (0,0),true)/\E=[(0,.v (str s)),(1,.v (str [32])),(2,.v (.int .i64 0)),(3,.v (.int .i64 (fF l 32:Nat))),(9,.v (.slice (some ⟨u,0,none⟩) (fF l 32+1) (fF l 32+1))),(10,.v (.int .i64 i))]/\B=[]) ⟨0,[],l,rfl,rfl,rfl,M,dA _,Le.put q _,g,rfl,rfl⟩ ?_
 rintro _ _ _ G ⟨i,done,s,rfl,hd,d,H,Q,p,w,rfl,rfl⟩ again;refine .I O (λe=>W.go 99 O ?_) (λe=>W.go 99 O ?_)
 .have hi:i<fF l 32:=by simpa using e
  rcases CE s with⟨_,h2,_⟩ | ⟨m,h1,h2,h3,h4⟩
  .omega
  refine .p O (abg s 32 _) ?_;rw[h1];refine .g O ?_;refine .F O ?_ U;refine .G O (Vf.CZ (i:=0) (j:=m) O O O O O O (show IntKind.i64.wrap ((m:Int)+0)=(m:Int) by rw[wrap64_in _ M M];omega) (fj _) M) ?_;rw[List.drop_zero,wH];refine .u O (Vf.b O O (show i<fF l 32+1 by omega)) ?_;refine .fL O O (Ef.BX (b:=u) (off:=i) O ⟨_,rfl,rfl⟩ O QY w O YG (kE _)) ?_;rintro _ _ _ ⟨rfl,rfl,rfl⟩;refine .g O ?_;have y:bY (done.map str++List.replicate (fF l 32+1 - i) (str [])).toArray i [str (s.take m)]=((done++[s.take m]).map str++List.replicate (fF l 32+1 - (i+1)) (str [])).toArray:=by
   rw[TN,show fF l 32+1 - i=(fF l 32+1 - (i+1))+1 by omega,List.replicate_succ];have:i=(done.map str):=by rw[eT,hd]
   conv=>lhs;rw[this]
   rw[Ua];simp[hd]
  refine .u O (Vf.CZ (i:=m+1) (j:=s.length) O O O O O (show IntKind.i64.wrap ((m:Int)+1)=((m+1:Nat):Int) by rw[wrap64_in _ M M];omega) O M (dA _)) ?_;rw[qG (by rw[yZ];omega)];refine .g O ?_;exact .a (again _ _ _ _ M ⟨i+1,done++[s.take m],s.drop (m+1),rfl,by simp[hd],by rw[d,h3];simp,M,by rw[yZ];omega,aG p q _,by rw[aj];exact aJ (λc=>some (Obj.cells c 9 (0,0),true)) y,rfl,rfl⟩)
 .have x:i=fF l 32:=by simp at e;omega
  have h0:fF s 32=0:=M
  have k:fI s=[s]:=by
   rcases CE s with⟨_,_,h3⟩ | ⟨m,_,_,_,h4⟩
   .exact h3
   .omega
  have f:(fI l)=fF l 32+1:=by rw[d,k,eX,hd];simp[x]
  clear again;refine .u O (Vf.b O O (show i<fF l 32+1 by omega)) ?_;refine .fL O O (Ef.BX (b:=u) (off:=i) O ⟨_,rfl,rfl⟩ O QY w O YG (kE _)) ?_;rintro _ _ _ ⟨rfl,rfl,rfl⟩;refine .g O ?_;have y:bY (done.map str++List.replicate (fF l 32+1 - i) (str [])).toArray i [str s]=((fI l).map str).toArray:=by
   rw[TN,show fF l 32+1 - i=0+1 by omega,List.replicate_succ];have:i=(done.map str):=by rw[eT,hd]
   conv=>lhs;rw[this]
   rw[Ua,d,k];simp
  have R:IntKind.i64.wrap ((i:Int)+1)=((fF l 32+1:Nat):Int):=by rw[x,wrap64_in _ M M];rfl
  refine .u O (Vf.EB (i:=0) (j:=fF l 32+1) O Tryz.underlying33 KW O O O R (fj _) (dA _)) ?_;rw[A M,wH];rw[show Option.map (λa:Addr=>a.add (0 * 1)) (some ⟨u,0,none⟩)=some ⟨u,0,none⟩ from rfl];refine .D r O ?_;rw[f];refine⟨u,q,aG p q _,rfl,?_⟩;have J:(G.put u (.cells (bY (done.map str++List.replicate (fF l 32+1 - i) (str [])).toArray i [str s]) 9)) u=some (.cells ((fI l).flatMap dv).toArray 9 (0,0),true):=by
   rw[aj,y,VD]
  exact cY dR J
def Zi(l:Bs)(L:LH)(q:l.length<=1000):Sp X 115 [str l,str [32]] L (λv u=>∃b,L b=none/\Le L u/\v=.slice (some ⟨b,0,none⟩) (fI l).length (fI l)/\bz u (some ⟨b,0,none⟩) 1 dv (fI l)):=by
 refine Sp.e Tryz.func115 O λC j d r=>(.o O (abw l _ q) ?_);rintro _ _ ⟨b,z,m,rfl,y⟩;refine .D r O ⟨b,z,m,rfl,y⟩
def i32_in(x:Int)(q:-2147483648<=x)(z:x<=2147483647):IntKind.i32.wrap x=x:=by
 unfold IntKind.wrap;simp only[IntKind.bits,IntKind.signed];simp;omega
def XO{a:UInt8}(q:48<=a)(z:a<=57):48<=a.toNat/\a.toNat<=57:=⟨UInt8.le_iff_toNat_le.1 q,UInt8.le_iff_toNat_le.1 z⟩
def Wn(a:UInt8)(L:LH)(t:48<=a.toNat)(z:a.toNat<=57):Sp X 118 [str [a]] L (λv f=>v=.int .i64 ((a.toNat:Int) - 48)/\Le L f):=by
 refine Sp.e Tryz.func118 O λC j d r=>(.v O (Ef.Yh O O O) ?_);rintro _ _ _ ⟨q,rfl,rfl,i,rfl⟩;refine .g O (W.mD ?_);refine .v O (Ef.FL O (aj _ _ _)) ?_;rintro _ _ _ ⟨rfl,c⟩;rcases c with⟨_,rfl,rfl⟩ | ⟨hp,_,_⟩
 rotate_left
 .exact ar hp (by show¬(1<=0);omega)
 rw[Cv (show[a][0]?=some a from rfl) M];refine .I O (λ_=>W.go 99 O ?_) (λh=>ar h U);refine .F O ?_ bU;refine .g O (.F O ?_ bU);refine .K O (.K O (.K O (.g O ?_)));refine .s O (λo=>?_) (λo=>?_)
 .refine .g O ?_;have u:IntKind.i64.wrap (IntKind.i64.wrap (10 * 0)+IntKind.i64.wrap (IntKind.i32.wrap (((a.toNat,1).1:Int) - 48)))=(a.toNat:Int) - 48:=by
   show IntKind.i64.wrap (IntKind.i64.wrap (10 * 0)+IntKind.i64.wrap (IntKind.i32.wrap ((a.toNat:Int) - 48)))=_;rw[i32_in _ M M,wrap64_in (10 * 0) M M,wrap64_in ((a.toNat:Int) - 48) M M,wrap64_in _ M M];omega
  refine W.fA ?_;refine .v O (Ef.FL O (aj _ _ _)) ?_;rintro _ _ _ ⟨rfl,c⟩;rcases c with⟨hp,_,_⟩ | ⟨_,rfl,rfl⟩
  .exact ar hp (by show¬(0+1<1);omega)
  refine .K O (.K O (.D r O ?_));exact⟨aJ (Value.int .i64) u,aG (Le.put i _) i _⟩
 .refine .g O ?_;have u:IntKind.i64.wrap (IntKind.i64.wrap (10 * 0)+IntKind.i64.wrap (IntKind.i32.wrap (((a.toNat,1).1:Int) - 48)))=(a.toNat:Int) - 48:=by
   show IntKind.i64.wrap (IntKind.i64.wrap (10 * 0)+IntKind.i64.wrap (IntKind.i32.wrap ((a.toNat:Int) - 48)))=_;rw[i32_in _ M M,wrap64_in (10 * 0) M M,wrap64_in ((a.toNat:Int) - 48) M M,wrap64_in _ M M];omega
  refine W.fA ?_;refine .v O (Ef.FL O (aj _ _ _)) ?_;rintro _ _ _ ⟨rfl,c⟩;rcases c with⟨hp,_,_⟩ | ⟨_,rfl,rfl⟩
  .exact ar hp (by show¬(0+1<1);omega)
  refine .K O (.K O (.D r O ?_));exact⟨aJ (Value.int .i64) u,aG (Le.put i _) i _⟩
def Wo(a b:UInt8)(L:LH)(f:49<=a.toNat)(z:a.toNat<=57)(o:48<=b.toNat)(x:b.toNat<=57):Sp X 118 [str [a,b]] L (λv i=>v=.int .i64 (10 * ((a.toNat:Int) - 48)+((b.toNat:Int) - 48))/\Le L i):=by
 refine Sp.e Tryz.func118 O λC j d r=>(.v O (Ef.Yh O O O) ?_);rintro _ _ _ ⟨q,rfl,rfl,u,rfl⟩;refine .g O (W.mD ?_);refine .v O (Ef.FL O (aj _ _ _)) ?_;rintro _ _ _ ⟨rfl,c⟩;rcases c with⟨_,rfl,rfl⟩ | ⟨hp,_,_⟩
 rotate_left
 .exact ar hp (by show¬(2<=0);omega)
 rw[Cv (show[a,b][0]?=some a from rfl) M];refine .I O (λ_=>W.go 99 O ?_) (λh=>ar h U);refine .F O ?_ bU;refine .g O (.F O ?_ bU);refine .K O (.K O (.K O (.g O (.F O ?_ bU))));refine .g O ?_;refine W.fA ?_;refine .v O (Ef.FL O (aj _ _ _)) ?_;rintro _ _ _ ⟨rfl,c⟩;rcases c with⟨_,rfl,rfl⟩ | ⟨hp,_,_⟩
 rotate_left
 .exact ar hp (by show¬(2<=0+1);omega)
 rw[Cv (show[a,b][0+1]?=some b from rfl) M];refine .I O (λ_=>W.go 99 O ?_) (λh=>ar h U);refine .F O ?_ bU;refine .g O ?_;refine .F O ?_ bU;refine .K O (.K O (.N O (.g O ?_)));refine W.fA ?_;refine .v O (Ef.FL O (aj _ _ _)) ?_;rintro _ _ _ ⟨rfl,c⟩;rcases c with⟨hp,_,_⟩ | ⟨_,rfl,rfl⟩
 .exact ar hp (by show¬(0+1+1<2);omega)
 refine .K O (.K O (.D r O ?_));refine⟨aJ (Value.int .i64) ?_,aG (aG (Le.put u _) u _) u _⟩;show IntKind.i64.wrap (IntKind.i64.wrap (10 *IntKind.i64.wrap (IntKind.i64.wrap (10 * 0)+IntKind.i64.wrap (IntKind.i32.wrap ((a.toNat:Int) - 48))))+IntKind.i64.wrap (IntKind.i32.wrap ((b.toNat:Int) - 48)))=_;rw[i32_in ((a.toNat:Int) - 48) M M,i32_in ((b.toNat:Int) - 48) M M,wrap64_in (10 * 0) M M,wrap64_in ((a.toNat:Int) - 48) M M,wrap64_in ((b.toNat:Int) - 48) M M,wrap64_in (10 * 0+((a.toNat:Int) - 48)) M M,wrap64_in (10 * (10 * 0+((a.toNat:Int) - 48))) M M,wrap64_in _ M M];omega
def aal(l:Bs)(n:Nat)(L:LH)(h:N0 l=n):Sp X 118 [str l] L (λv d=>v=n/\Le L d):=by
 match l,h with
 | [],h=>cases h
 | [a],h=>
  let h:(if 48<=a/\a<=57 then some (a.toNat - 48) else none)=some n:=h
  by_cases c:48<=a/\a<=57
  .rw[ax c] at h;let⟨q,z⟩:=XO c.1 c.2;refine(Wn a L q z).mono (λv d u=>⟨?_,u.2⟩) (λ_ _ h=>h);rw[u.1];cases h
   congr 1;omega
  .rw[A c] at h;cases h
 | [a,b],h=>
  let h:(if 49<=a/\a<=57/\48<=b/\b<=57 then some (10 * (a.toNat - 48)+(b.toNat - 48)) else none)=some n:=h
  by_cases c:49<=a/\a<=57/\48<=b/\b<=57
  .rw[ax c] at h;let q:49<=a.toNat:=UInt8.le_iff_toNat_le.1 c.1;let z:a.toNat<=57:=UInt8.le_iff_toNat_le.1 c.2.1;obtain⟨r,x⟩:=XO c.2.2.1 c.2.2.2;refine(Wo a b L q z r x).mono (λv d u=>⟨?_,u.2⟩) (λ_ _ h=>h);rw[u.1];cases h
   congr 1;omega
  .rw[A c] at h;cases h
 | _::_::_::_,h=>cases h
def af2(v:Nat)(L:LH)(g:v<7):Sp X 117 [v] L (λu q=>u=.int .i64 (jQ v:Nat)/\L=q):=by
 have:v=0\/v=1\/v=2\/v=3\/v=4\/v=5\/v=6:=M
 rcases this with rfl | rfl | rfl | rfl | rfl | rfl | rfl
 all_goals
  refine Sp.e Tryz.func117 O λC j d r=>(.g O ?_)
  repeat (first | (refine .split O O O (λc=>ar c V) (λ_=>?_);refine .go 99 O ?_) | (refine .split O O O (λ_=>?_) (λc=>ar c V);refine .go 99 O ?_))
  exact .r r O ⟨rfl,rfl⟩
def age(v:Nat)(L:LH)(g:v<7):Sp X 116 [v] L (λu q=>u=str (lE v)/\L=q):=by
 have:v=0\/v=1\/v=2\/v=3\/v=4\/v=5\/v=6:=M
 rcases this with rfl | rfl | rfl | rfl | rfl | rfl | rfl
 all_goals
  refine Sp.e Tryz.func116 O λC j d r=>(.G O (Vf.index O O O Tryz.underlying289 KW air V O) (.g O ?_));exact .r r O ⟨rfl,rfl⟩
end
def W.DK{C:Cx P}{d:cU}{g:bO}{v1 v2:aR}{e:jk}{E:fX}{l:cR}{o:cZ}{c:kP}(D:nth d.toList k=some ⟨some m,.call {callee:=.value x,args:=e,argTypes:=E},t,H,l,o⟩)(hg:bG (get F) d.toList o=true)(p:Nat.blt m n=true)
  (hv:bZ (get F) x=z)(a:den fe z=some (.func (.func g) v1.toArray v2.toArray))(s:nJ (get F) e.toList=j)(hs:Sp C.X g (v1++j++v2) L Q c)(w:∀v i,Q v i->W C n I (.inRegion d q::K) ((m,v)::F) B i)(wp:∀b i,c b i->WM C n I (.panicking b) F B i):W C n I (.inRegion d (k::q)::K) F B L:=by
 refine W.oper D hg O λT R β G h r=>?_;let u:e.map (ev T)=j.toArray:=Lp
 let J:ev T x=.func (.func g) v1.toArray v2.toArray:=bR ((h.val hv).symm.trans (fw a β));obtain⟨⟨fn,f,y,h3⟩,hf⟩:=hs;exact Mj.value f y h3 J u (ws:=(v1++j++v2).toArray) U _ _ _ _ _ _ (hf R r.le .normal _ _ (.inl O) (λv S ⟨i,f,y⟩=>W.iB D O (eH p) G h (r.call y) O (w v i f)) (λb S ⟨i,f,y⟩=>wp b i f T S β _ G h (r.call y)))
def WM.Yi{C:Cx P}{q:Func}{H:kP}{f:Value}{a:Tmp}{w:Addr}(r:Rt C q Q H)(x:q.results=#[.cell a t])(g:get F a=w)
  (s:∀(R:LH) (Q:bC) (H:bC),Le L R->aP P Q H (loadVar t w) R=Q f R)(c:Q f L):WM C n [] .returning F B L:=by
 refine WM.Ym r (λT R β h _ o=>?_) c;let p:=(bR (h _ _ g)).symm;unfold results;rw[x,Z,GD];simp only[Ch,List.mapM_nil];rw[ES,Z];simp only[p];rw[Z,sj,s _ _ _ o];exact⟨rfl,rfl⟩
section
open Go.Proofs
def ox{a:Addr}{l:iW}{w:Bs}(h:bz L a 1 dv l)(u:l[n]?=w):L.cell? (a.add n)=str w:=by
 have:=h.get u (j:=0) rfl
 simpa using this
def Uf{a:Addr}{cap:Nat}{w:Bs}{r:iW}(h:bz L a 1 dv (w::r))(hc:r+1=cap):bz L (if cap=1 then a else Option.map (λa:Addr=>a.add (1 * 1)) a) 1 dv r:=by
 by_cases e:cap=1
 .have:r=[]:=Fg M;subst this;exact aji
 .rw[A e];intro i x hx;refine⟨a.add (1 * 1),rfl,λj v hv=>?_⟩;have:=h.get (i:=i+1) (by simpa using hx) hv;let e2:(a.add (1 * 1)).add (i * 1+j)=a.add ((i+1) * 1+j):=by
   unfold Addr.add
   split <;> split <;> simp_all <;> omega
  rwa[e2]
where
 aji {α:Type} {L:LH} {ad:bA} {n:Nat} {enc:α->List Value}:bz L ad n enc []:=λi z hz=>by simp at hz
theorem Ct{n:Nat}:∀{i:Nat} {l:iW} {a:aH},sE n i l=some a->a.length=l.length
 | _,[],a,h=>by cases h;rfl
 | i,w::l,a,h=>by
  unfold sE at h
  split at h
  ·rename_i c r _ z;cases h;simp[Ct z]
  ·cases h
def R3{w:Bs}{d:iW}(h:sE n k (w::d)=l):∃c r,l=c::r/\sE n (k+1) d=r/\(if n=2/\k=1/\w=yq then some (-1:Int) else(N0 w).map Int.ofNat)=c:=by
 unfold sE at h
 split at h
 .rename_i c r q z;cases h;exact⟨c,r,rfl,z,q⟩
 .cases h
def aa6:∀v:Fin 7,∀i:Fin 7,i.val<v.val->(uD (lE v.val) (lE i.val))=false:=V
def He{c:Bs}(h:kV c=some (n,l)):∃r,fI c=lE n::r/\n<7/\r=jQ n/\sE n 0 r=l:=by
 unfold kV at h
 split at h
 .cases h
 .rename_i w r a
  split at h
  .cases h
  .rename_i b g
   split at h
   .cases h
   .rename_i o;let⟨f,s,z⟩:=il.1 h;cases z;refine⟨r,?_,?_,by simpa using o,s⟩
    .have:=List.findIdx?_eq_some_iff_getElem.1 g;let⟨q,u,_⟩:=this;have:Ii[n]=w:=by simpa using u
     rw[a]
     congr 1
     unfold lE;rw[dL,bX q,zb,this]
    .have:=List.findIdx?_eq_some_iff_getElem.1 g;obtain⟨q,_⟩:=this;exact q
def agU(v:Nat)(a:aH)(L:LH)(u:Value)(L':LH):Prop:=∃ad cap,u=.agg #[v,.slice ad a cap]/\bE L 1 3 bL L' (.slice ad a cap) a
def bE.over{u:LH}{v:Value}(c:bE R k e h L v r)(q:Le J u)(i:Le J R)(f:∀b,R b=none->u b=L b):bE J k e h u v r:=by
 let⟨_,o,z,a⟩:=c;exact⟨q,o,z.keep λb d=>f b (a b d),λb d=>bN i (a b d)⟩
def adp(l:Bs)(v:Nat)(a:aH)(L:LH)(y:l.length<=1000)(h:kV l=some (v,a)):Sp X 79 [str l] L (agU v a L):=by
 obtain⟨r0,d,H,u4,Q⟩:=He h;have u5:=Ct Q;have q4:jQ v<=4:=by
  have:v=0\/v=1\/v=2\/v=3\/v=4\/v=5\/v=6:=M
  rcases this with rfl | rfl | rfl | rfl | rfl | rfl | rfl <;> decide
 refine Sp.e (n:=64) Tryz.func79 O λC hX q5 r=>?_;refine .o O (Zi l _ y) ?_;rintro _ _ ⟨bs,q6,u6,rfl,I⟩;rw[d] at I ⊢;rename_i L1;have f:↑(lE v::r0)=jQ v+1:=by simp[u4]
 generalize hN:(lE v::r0).length=N at *;refine .g O ?_;refine .l (λm' E B R=>∃i:Nat,m'=v - i/\i<=v/\Le L1 R/\E=[(2,.p 0 0),(3,.v (.slice (some ⟨bs,0,none⟩) N N)),(10,.v (.int .i64 i))]/\B=[some ⟨YS.z.cells.toList.map .v,38⟩]) ⟨0,rfl,fj _,Le.refl _,rfl,rfl⟩ ?_
 rintro _ _ _ L2 ⟨i,rfl,hi,x,rfl,rfl⟩ again;refine .g O ?_;refine .T O ?_ bU;refine .g rfl (.z (.run' [0,3] rfl (.u 1 rfl (Vf.b rfl rfl ((show 0<N by omega))) (.u 2 rfl (Vf.l rfl (ox (I.le x) (show(lE v::r0)[0]?=some (lE v) from rfl))) (.c 4 rfl rfl (age i _ M) jw ?_)))));rintro _ _ ⟨rfl,rfl⟩;refine .run' [5] O (.fin O (.g O ?_));rcases Nat.lt_or_eq_of_le hi with e | rfl
 .have u7:=aa6 ⟨v,H⟩ ⟨i,M⟩ e;refine .T O ?_ (by simp only[u7];decide);refine .g O ?_;exact .again (again _ _ _ _ M ⟨i+1,rfl,e,x,rfl,rfl⟩) ⟨rfl,rfl,aJ some (cr M),aE⟩ ⟨rfl,aE⟩
 .have q:uD (lE i) (lE i)=true:=by rw[tC];simp
  refine .F O ?_ (by simp only[q];decide);refine .y O (af2 i _ H) (.g O ?_);have u:IntKind.i64.wrap ((jQ i:Int)+1)=(jQ i:Int)+1:=wrap64_in _ M M;refine .F O ?_ (by rw[u];simp;omega);refine .G O (Vf.EB (i:=1) (j:=N) O Tryz.underlying33 KW O O O O M (dA _)) ?_;have J:=Uf (cap:=N) (I.le x) M;have u8:N - 1=r0.length:=M
  rw[u8];generalize(if N=1 then some (⟨bs,0,none⟩:Addr) else Option.map (λa:Addr=>a.add (1 * 1)) (some ⟨bs,0,none⟩))=ta at J ⊢;clear again;refine .g O ?_;have S:Le L L2:=u6.trans x;refine .l (λm' E B R=>∃(j:Nat) (T:bA) (k:Nat),m'=r0.length - j/\j<=r0.length/\sE i j (r0.drop j)=some (a.drop j)/\bE L2 1 3 bL R (.slice T j k) (a.take j)/\E=[(2,.p 0 0),(4,.v (.int .i64 i)),(5,.p 1 0),(30,.v (.slice ta r0.length r0.length)),(31,.v (.int .i64 r0.length)),(32,.v (.int .i64 j))]/\B=[some ⟨YS.z.cells.toList.map .v,38⟩,some ⟨[.v (.int .i64 i),.v (.slice T j k)],38⟩]) ⟨0,none,0,rfl,fj _,Q,bE.nil (Le.refl _),rfl,rfl⟩ ?_
  rintro _ _ _ L3 ⟨j,T,k,rfl,hj,c,K,rfl,rfl⟩ again;refine .I O (λd1=>W.go 99 O ?_) (λd1=>W.go 99 O ?_)
  .have hj:j<r0.length:=by simpa using d1
   have hd:=lj hj;have s:=bX hj;have D:j<a.length:=M
   have q7:=bX D;rw[hd,lj D] at c;obtain⟨n,r',e1,b,y⟩:=R3 c;obtain⟨rfl,rfl⟩:=Cp e1;have F:a.take (j+1)=a.take j++[a[j]]:=ja D;have u1:(a.take j).length=j:=Lo
   generalize q8:r0[j]=w at s y;generalize q9:a[j]=n at F y;obtain⟨u9,rfl⟩:=J.addr hj;refine .u O (Vf.b O O (hj)) (.G O (Vf.l O (ox (J.le K.1) s)) (.g O ?_));refine W.Sj (λE B R=>((N0 w).map Int.ofNat=some n)/\gR E [(2,.p 0 0),(4,.v (.int .i64 i)),(5,.p 1 0),(7,.v (str w)),(30,.v (.slice (some u9) r0.length r0.length)),(31,.v (.int .i64 r0.length)),(32,.v (.int .i64 j))]/\mV B [some ⟨YS.z.cells.toList.map .v,38⟩,some ⟨[.v (.int .i64 i),.v (.slice T j k)],38⟩]/\L3=R) ?_ ?_
   .rintro E B _ ⟨u2,hE,hB,rfl⟩;obtain⟨m,o,rfl⟩:=il.1 u2;refine .kI hE hB ?_;refine .f (.run' [0,1,2] O (.w 3 O O (aal w m _ o) ?_));rintro _ _ ⟨rfl,u3⟩;refine .run' [4] O ?_;rename_i L4;have q0:=K.le u3;refine .a 5 rfl (Ef.grow rfl rfl rfl rfl rfl rfl rfl rfl rfl aY gf q0 (ls:=[(m:Int)]) (.own rfl rfl rfl rfl) (by rw[u1,mW];omega)) (YH) ?_;rintro _ _ _ ⟨v1,rfl,rfl,g,_⟩;rw[show a.take j++[(m:Int)]=a.take (j+1) from F.symm] at g;obtain⟨G,t,rfl,_⟩:=g.slice;rw[show(a.take (j+1)).length=j+1 by rw[mi];omega] at g ⊢;refine .run' [6] rfl (.a 7 rfl (Ef.lG rfl) nj ?_);rintro _ _ _ ⟨rfl,rfl,rfl⟩;refine .fin O ?_;refine .g O ?_;exact .a (again _ _ _ _ M ⟨j+1,G,t,rfl,M,b,(by first | exact g | exact(g:bE _ _ _ _ _ _ _)),rfl,rfl⟩)
   .intro rest;refine .s O (λc1=>?_) (λc1=>?_)
    .have q1:i=2:=by simp at c1;omega
     refine .I O (λc2=>?_) (λc2=>?_)
     .have q2:j=1:=by simp at c2;omega
      refine .I O (λc3=>?_) (λc3=>?_)
      .have u:w=yq:=by rw[tC] at c3;exact eq_of_beq c3
       rw[ax ⟨q1,q2,u⟩] at y;cases y;refine .v O (Ef.grow O O O O O O O O O aY gf K (ls:=[(-1:Int)]) (.own O O O O) ((by rw[u1,mW];omega))) ?_;rintro _ _ _ ⟨v1,rfl,rfl,g,_⟩;rw[<-F] at g;obtain⟨G,t,rfl,_⟩:=g.slice;rw[show(a.take (j+1)).length=j+1 by rw[mi];omega] at g ⊢;refine .g O ?_;exact .a (again _ _ _ _ M ⟨j+1,G,t,rfl,M,b,g,rfl,rfl⟩)
      .have u:¬(i=2/\j=1/\w=yq):=λh=>by
        rw[tC,h.2.2] at c3;simp[yq] at c3
       rw[A u] at y;refine .go 2 O ?_;exact rest _ _ _ ⟨y,rj,kO,rfl⟩
     .have u:¬(i=2/\j=1/\w=yq):=λh=>by simp at c2;omega
      rw[A u] at y;refine .go 6 O ?_;exact rest _ _ _ ⟨y,rj,kO,rfl⟩
    .have u:¬(i=2/\j=1/\w=yq):=λh=>by simp at c1;omega
     rw[A u] at y;refine .go 10 O ?_;exact rest _ _ _ ⟨y,rj,kO,rfl⟩
  .have q3:j=r0.length:=by simp at d1;omega
   subst q3;rw[qG M] at K;refine .r r O ?_;rw[<-u5] at K ⊢;exact⟨T,k,rfl,K.over (S.trans K.1) S λ_ _=>rfl⟩
def aeK(k j:Nat)(L:LH):OR X 78 [pt k,pt j] .returning L (λx v=>x=.returning/\v=L):=by
 refine OR.enter Tryz.func78 O O O O λC u _ d r=>(.g O ?_);refine W.Oc r O O O (.I O (λh=>ar h U) (λ_=>W.go 99 O ?_));exact W.Yk r O (.inl O) ⟨rfl,rfl⟩
def aev(v:Nat)(a:aH)(L:LH)(u:Value)(L':LH):Prop:=∃ad cap,u=.tuple #[.agg #[v,.slice ad a cap],.int .i64 0]/\bE L 1 3 bL L' (.slice ad a cap) a
def Iy(l:Bs)(v:Nat)(a:aH)(L:LH)(y:l.length<=1000)(h:kV l=some (v,a)):Sp X 36 [str l] L (aev v a L):=by
 refine Sp.e Tryz.func36 O λC K I r=>(.g O (.cz 2 (.inl ⟨_,rfl⟩) O O ?_));intro k c _;refine .cz 3 (.inl ⟨_,rfl⟩) O O λj i _=>?_;refine .g O ?_;have z:j≠k:=λe=>by rw[e,aj] at i;cases i
 have s:L j=none:=by rw[aB _ _ z] at i;exact i
 have o:((L.put k (.cells #[.int .i64 0,.slice none 0 0] 38)).put j (.cells #[.int .i64 0] 39)) k=some (.cells #[.int .i64 0,.slice none 0 0] 38 (0,0),true):=by rw[aB _ _ z.symm,aj]
 have t:=aj (L.put k (.cells #[.int .i64 0,.slice none 0 0] 38)) j (.cells #[.int .i64 0] 39);have g:Le L ((L.put k (.cells #[.int .i64 0,.slice none 0 0] 38)).put j (.cells #[.int .i64 0] 39)):=aG (Le.put c _) s _
 change W C _ _ _ _ _ ((L.put k (.cells #[.int .i64 0,.slice none 0 0] 38)).put j (.cells #[.int .i64 0] 39))
 generalize((L.put k (.cells #[.int .i64 0,.slice none 0 0] 38)).put j (.cells #[.int .i64 0] 39))=L1 at o t g ⊢;refine W.XM r.ro O O O O ?_;refine .o O (adp l v a _ y h) ?_;rintro _ _ ⟨w,m,rfl,x⟩;have f:=x.1;refine .g O ?_;refine .fL rfl rfl (Ef.eR rfl ⟨_,rfl,rfl⟩ rfl (f _ _ o) rfl (dA _) (by intro u J;rcases(by simpa using (show u∈[Value.int .i64 v,.slice w a.length m] from J):u=.int .i64 v\/u=.slice w a.length m) with rfl | rfl <;> rfl)) ?_;rintro _ _ _ ⟨rfl,rfl,rfl⟩;refine .g O ?_;refine .fL O O (Ef.eR O ⟨_,rfl,rfl⟩ O ((aB _ _ z).trans (f _ _ t)) O (dA _) (bQ O)) ?_;rintro _ _ _ ⟨rfl,rfl,rfl⟩;refine .g O ?_;refine W.out r.ro (.inr .ret) ?_;refine WM.deferred O O (aeK k j _) ?_;rintro _ _ ⟨rfl,rfl⟩;refine WM.ajf r O O O (HY O O (dU (vs:=[.int .i64 v,.slice w a.length m]) ((aB _ _ z.symm).trans (aj _ _ _)) O)) (Ei O (aF (aj _ _ _) O)) ?_;refine⟨w,m,rfl,x.over (aG (aG (g.trans f) c _) s _) g λb d=>?_⟩;have p:b≠k:=λe=>by rw[e,o] at d;cases d
 have q:b≠j:=λe=>by rw[e,t] at d;cases d
 exact(aB _ _ q).trans (aB _ _ p)
def Ve(l:Bs)(L:LH)(h:fF l 63=0):Sp X 171 [str l,str [63],str [49],.int .i64 (-1)] L (λv u=>v=str l/\L=u):=by
 refine Sp.e Tryz.func171 O λC j d r=>(.K O (.K O (.y O (yG l 63 _) ?_)));rw[h];refine .N O (.g O (.r r O ⟨rfl,rfl⟩))
def Mm(l:Bs)(L:LH)(h:fF l 63=0):Sp X 130 [str l,str [63],str [49]] L (λv u=>v=str l/\L=u):=by
 refine Sp.e Tryz.func130 O λC j d r=>(.y O (Ve l _ h) (.g O ?_));exact .r r O ⟨rfl,rfl⟩
def YU(q:bA)(m:Nat)(l:iW)(L:LH)(o:bz L q 1 dv l)(y:l.length<=1000)(h:∀x∈l,fF x 63=0):Sp X 93 [.slice q l m] L (λv z=>v=.int .i64 0/\L=z):=by
 refine Sp.e Tryz.func93 O λC j d r=>(.g O ?_);refine .l (λt E B z=>∃i:Nat,t=l - i/\i<=l/\L=z/\E=[(3,.v (.int .i64 0)),(6,.v (.slice q l m)),(7,.v (.int .i64 l.length)),(8,.v (.int .i64 i))]/\B=[]) ⟨0,rfl,fj _,rfl,rfl,rfl⟩ ?_
 rintro _ _ _ _ ⟨i,rfl,u,rfl,rfl,rfl⟩ again;refine .I O (λc1=>W.go 99 O ?_) (λc1=>W.go 99 O ?_)
 .have u:i<l:=by simpa using c1
  obtain⟨a,rfl⟩:=o.addr u;refine .u O (Vf.b O O (u)) (.G O (Vf.l O (ox o (bX u))) (.y O (yG _ 63 _) ?_));rw[h _ (fY u)];refine .g O ?_;exact .a (again _ _ _ _ M ⟨i+1,rfl,u,rfl,rfl,rfl⟩) ⟨rfl,rfl,rfl,aJ some (cr M),aE⟩
 .exact .r r O ⟨rfl,rfl⟩
def Rm(b:Bl)(p:BP)(L:LH)(h:iK L b p):Sp X 125 [uw b p] L (λv y=>v=fP b/\L=y):=by
 let o:=h.n0;let H:=h.n1;let Q:=h.n4;refine Sp.e (n:=65) Tryz.func125 O λC R d r=>?_;refine .y O (BE _ _ _ _ _ _ h.h0 h.n0) (.I O (λc1=>?_) (λc1=>?_))
 .refine .g O ?_;exact .r r O ⟨by unfold fP;rw[ax mw];rfl,rfl⟩
 refine .I O (λc2=>?_) (λc2=>?_)
 .refine .g O ?_;exact .r r O ⟨by unfold fP;rw[A mw,ax wA];rfl,rfl⟩
 refine .g O ?_;refine .loop (λt E B y=>∃i:Nat,t=b.dI.length - i/\i<=b.dI.length/\mN (b.dI.drop i)=mN b.dI/\E=[(1,.p 0 0),(25,.v (.slice p.a1 b.dI.length p.c1)),(26,.v (.int .i64 b.dI.length)),(27,.v (.int .i64 i))]/\B=[some ⟨cL (.v (uw b p)),28⟩]/\L=y) ⟨0,rfl,M,U,rfl,rfl,rfl⟩ ⟨rfl,rfl,rfl,rfl,aE⟩ ⟨rfl,aE⟩ ?_
 rintro _ _ _ _ ⟨i,rfl,q,f,rfl,rfl,rfl⟩ again;refine .I O (λe=>?_) (λe=>?_)
 .refine .g O ?_;let u:i<b.dI.length:=by simpa using e
  let hd:=lj u;obtain⟨g,a1,J,K,x,D,F,l,k,j⟩:=p;obtain⟨a,s⟩:=h.h1.addr u;obtain rfl:a1=a:=s;refine .u O (Vf.b O O (u)) (.G O (Vf.l O (h.h1.int (bX u))) (.y O (pG _ _ _ _) (.I O (λm=>?_) (λm=>?_))))
  .refine .g O ?_;exact .r r O ⟨by unfold fP;rw[A mw,A wA,ax (by rw[<-f,hd,mN];simp at m;simp[m])];rfl,rfl⟩
  .refine .g O ?_;exact .again (again _ _ _ _ M ⟨i+1,rfl,M,by rw[<-f,hd,mN];simp at m;simp[m],rfl,rfl,rfl⟩) ⟨rfl,rfl,rfl,aJ some (cr M),aE⟩ ⟨rfl,aE⟩
 have I:mN b.dI=true:=by rw[<-f,nX Av];rfl
 clear again f;refine .y O (Mr _ _ _ _ h.h2 h.n2) (.I O (λc=>?_) (λc=>?_))
 .refine .g O ?_;exact .r r O ⟨by unfold fP;rw[A mw,A wA,A (by simp[I]),ax lA];rfl,rfl⟩
 refine .y O (BE _ _ _ _ _ _ h.h3 h.n3) (.I O (λw=>?_) (λw=>?_))
 .refine .g O ?_;exact .r r O ⟨by unfold fP;rw[A mw,A wA,A (by simp[I]),A lA,ax Lw];rfl,rfl⟩
 refine .I O (λz=>?_) (λz=>?_)
 .refine .g O ?_;exact .r r O ⟨by unfold fP;rw[A mw,A wA,A (by simp[I]),A lA,A Lw,ax (by simp at z;omega)];rfl,rfl⟩
 have G:fP b=lu b b.proofs:=by unfold fP;rw[A mw,A wA,A (by simp[I]),A lA,A Lw,A (by simp at z;omega)]
 clear c1 c2 c w z q e;refine .g O ?_;refine .loop (λt E B y=>∃i:Nat,t=b.proofs.length - i/\i<=b.proofs.length/\lu b (b.proofs.drop i)=lu b b.proofs/\E=[(1,.p 0 0),(52,.v (.slice p.a4 b.proofs.length p.c4)),(53,.v (.int .i64 b.proofs.length)),(54,.v (.int .i64 i))]/\B=[some ⟨cL (.v (uw b p)),28⟩]/\L=y) ⟨0,rfl,M,U,rfl,rfl,rfl⟩ ⟨rfl,rfl,rfl,rfl,aE⟩ ⟨rfl,aE⟩ ?_
 rintro _ _ _ _ ⟨i,rfl,q,f,rfl,rfl,rfl⟩ again;refine .I O (λe=>?_) (λe=>?_)
 .refine .g O ?_;have u:i<b.proofs.length:=by simpa using e
  have hd:=lj u;obtain⟨g,a1,J,K,x,D,F,l,k,j⟩:=p;obtain⟨a,s⟩:=h.h4.addr u;obtain rfl:x=a:=s;refine .u O (Vf.j O O (u)) (.G O (Vf.q O (h.h4.whole (bX u) O)) (.y O (BC b ⟨g,a1,J,K,a,D,F,l,k,j⟩ _ o _) (.I O (λm=>?_) (λm=>?_))))
  .refine .g O ?_;exact .r r O ⟨by rw[G,<-f,hd,lu,ax Lx];rfl,rfl⟩
  .refine .g O ?_;exact .again (again _ _ _ _ M ⟨i+1,rfl,M,by rw[<-f,hd,lu,A Lx],rfl,rfl,rfl⟩) ⟨rfl,rfl,rfl,aJ some (cr M),aE⟩ ⟨rfl,aE⟩
 .refine .g O ?_;exact .r r O ⟨by rw[G,<-f,nX Av];rfl,rfl⟩
def agF(a b:Int):(if b>a then b else a)=max a b:=Ga
def ai5(a b:Int):(if b<a then b else a)=min a b:=Ga
def afz(a b:ei)(L:LH):Sp X 240 [.agg (cJ a).toArray,.agg (cJ b).toArray] L (λv u=>v=.agg (cJ (iD a b)).toArray/\L=u):=by
 refine Sp.e Tryz.func240 O λC j d r=>(.g O ?_);rw[agF,ai5];exact .r r O ⟨rfl,rfl⟩
def CP(a:ei)(L:LH)(q:-4000000<=a.lo)(z:a.lo<=4000000)(i:-4000000<=a.hi)(x:a.hi<=4000000):Sp X 241 [.agg (cJ a).toArray] L (λv u=>v=dM a/\L=u):=by
 refine Sp.e Tryz.func241 O λC j d r=>(.g O ?_);rw[agF,wrap64_in (a.hi - a.lo) M M,wrap64_in _ M M];exact .r r O ⟨rfl,rfl⟩
def XY:∀x:Fin 256,∀i:Fin 8,(IntKind.u8.wrap ((BitVec.ofInt IntKind.u8.bits ((x.val:Int).fdiv (2 ^ min i.val IntKind.u8.bits))&&& BitVec.ofInt IntKind.u8.bits 1).toNat:Int)==1)=x.val.testBit i.val:=iu
def UJ:∀x:Fin 256,∀i:Fin 8,IntKind.u8.wrap ((BitVec.ofInt IntKind.u8.bits (x.val:Int)||| BitVec.ofInt IntKind.u8.bits (IntKind.u8.wrap (1 * 2 ^ min i.val IntKind.u8.bits))).toNat:Int)=((x.val||| 2 ^ i.val:Nat):Int):=iu
def ahk(x i:Nat)(L:LH)(u:x<256)(q:i<8):Sp X 57 [.int .u8 x,i] L (λv z=>v=x.testBit i/\L=z):=by
 refine Sp.e Tryz.func57 O λC j d r=>(.g O ?_);exact .r r O ⟨aJ Value.bool (XY ⟨x,u⟩ ⟨i,q⟩),rfl⟩
def agd(x i:Nat)(L:LH)(u:x<256)(q:i<8):Sp X 91 [.int .u8 x,i] L (λv z=>v=.int .u8 ((x||| 2 ^ i:Nat):Int)/\L=z):=by
 refine Sp.e Tryz.func91 O λC j d r=>(.g O ?_);exact .r r O ⟨aJ (Value.int .u8) (UJ ⟨x,u⟩ ⟨i,q⟩),rfl⟩
def D3(e:Int):Value:=.iface 346 (.agg #[e])
def jf(c:Bool)(e:Int)(L:LH):Sp X 159 [c,e] L (λv u=>v=.tuple #[]/\c=true/\L=u) (λq u=>c=false/\q=[Wx (D3 e)]/\L=u):=by
 refine Sp.e Tryz.func159 O λC j d r=>(.I O (λc1=>?_) (λc1=>?_))
 .refine .g O (W.ado O O O O ?_);exact WM.raise r ⟨mw,rfl,rfl⟩
 .refine .g O (W.lM r O O ⟨rfl,mw,rfl⟩)
def Ts(e:Int)(L:LH):Sp X 159 [true,e] L (λv u=>v=.tuple #[]/\L=u):=
 (jf true e L).mono (λ_ _ h=>⟨h.1,h.2.2⟩) λ_ _ h=>ar h.1 V
def ade(e:Int)(L:LH):Sp X 159 [false,e] L (λ_ _=>False) (λv u=>v=[Wx (D3 e)]/\L=u):=
 (jf false e L).mono (λ_ _ h=>ar h.2.1 V) λ_ _ h=>h.2
def kv(n s i:Int)(L:LH):Sp X 160 [n,s,i] L (λv u=>v=cV n s i/\L=u):=by
 refine Sp.e Tryz.func160 O λC j d r=>(.I O (λc=>?_) (λc=>?_))
 .refine .g O (.r r O ⟨F8,rfl⟩)
 .refine .g O (.r r O ⟨F8,rfl⟩)
def Vd(e:Int)(L:LH)(v:Value)(L':LH):Prop:=v=.tuple #[]/\e=0/\Le L L'
def Vb(e:Int)(L:LH)(ch:List PanicEntry)(L':LH):Prop:=e≠0/\ch=[Wx (D3 e)]/\Le L L'
def Zv(j:Nat)(e t:Int)(L:LH)(z:L j=some (.cells #[t] 39 (0,0),true)):
  OR X 208 [pt j] (.panicking [Wx (D3 e)]) L (λx u=>x=.returning/\u=L.put j (.cells #[e] 39)):=by
 refine OR.enter Tryz.func208 O O O O λC q _ d r=>(.g O ?_);refine W.aav (sv:=.v (D3 e)) r O O O O λi k _ _ _ r=>?_;refine .I O (λ_=>W.go 99 O ?_) (λh=>ar h U);refine .fL O O (Ef.eR O ⟨_,rfl,rfl⟩ O z O (dA _) (bQ O)) ?_;rintro _ _ _ ⟨rfl,rfl,rfl⟩;refine .g O ?_;exact W.Yk r O (.inl O) ⟨rfl,rfl⟩
def aeJ(j:Nat)(L:LH):OR X 208 [pt j] .returning L (λx v=>x=.returning/\v=L):=by
 refine OR.enter Tryz.func208 O O O O λC u _ d r=>(.g O ?_);refine W.Oc r O O O (.I O (λh=>ar h U) (λ_=>W.go 99 O ?_));exact W.Yk r O (.inl O) ⟨rfl,rfl⟩
def Jl(g:bO)(y:aR)(e:Int)(L:LH)(a:∀h,Le L h->Sp X g y h (Vd e h) (Vb e h)):Sp X 157 [.func (.func g) #[] y.toArray] L (λv z=>v=e/\Le L z):=by
 refine Sp.e Tryz.func157 O λC i t r=>(.g O (.cz 2 (.inl ⟨_,rfl⟩) O O ?_));intro u j _;refine .g O (W.XM r.ro O O O O ?_)
 change W C _ _ _ _ _ (L.put u (.cells #[.int .i64 0] 39))
 have m:=Le.put j (.cells #[.int .i64 0] 39);have d:=aj L u (.cells #[.int .i64 0] 39);let b:=a _ m;rw[<-i] at b;generalize L.put u (.cells #[.int .i64 0] 39)=h at m d b ⊢;refine .g O (W.DK (v1:=[]) (v2:=y) O O O O O O (by simpa using b) ?_ ?_)
 .rintro _ q ⟨rfl,f,o⟩;refine .g O (.fL O O (Ef.eR O ⟨_,rfl,rfl⟩ O (o _ _ d) O (dA _) (bQ O)) ?_);rintro _ _ _ ⟨rfl,rfl,rfl⟩;refine .g O (W.out r.ro (.inr .ret) ?_);refine WM.deferred O O (aeJ u _) ?_;rintro _ _ ⟨rfl,rfl⟩;exact WM.Yi r O O (Ei O (aF (aj _ _ _) O)) ⟨by rw[f];rfl,aG (m.trans o) j _⟩
 .rintro c q ⟨f,rfl,o⟩;refine WM.deferred O O (Zv u e 0 q (o _ _ d)) ?_;rintro _ _ ⟨rfl,rfl⟩;exact WM.Yi r O O (Ei O (aF (aj _ _ _) O)) ⟨rfl,aG (m.trans o) j _⟩
def KY(n m:Int)(L:LH):Sp X 168 [n,m] L (Vd (cI n 1 m) L) (Vb (cI n 1 m) L):=by
 let o:n<1->cI n 1 m=7:=λh=>by unfold cI;rw[ax h]
 let t:¬n<1->m<n->cI n 1 m=6:=λh z=>by unfold cI;rw[A h,ax z]
 let i:¬n<1->¬m<n->cI n 1 m=0:=λh z=>by unfold cI;rw[A h,A z]
 refine Sp.e (n:=11) Tryz.func168 O λC j d r=>?_;refine .g O ?_;refine W.iy O O O O (jf _ _ _) ?_ ?_
 .rintro _ _ ⟨rfl,c1,rfl⟩;refine .g O ?_;refine W.iy O O O O (jf _ _ _) ?_ ?_
  .rintro _ _ ⟨rfl,c2,rfl⟩;refine .g O ?_;exact W.lM r O O ⟨rfl,i wz wA,Le.refl _⟩
  .rintro _ _ ⟨c2,rfl,rfl⟩;rw[t wz wA] at r;exact WM.raise r ⟨V,rfl,Le.refl _⟩
 .rintro _ _ ⟨c1,rfl,rfl⟩;rw[o wz] at r;exact WM.raise r ⟨V,rfl,Le.refl _⟩
def DN(s:ei)(m:Int)(L:LH):Sp X 169 [.agg (cJ s).toArray,m] L (Vd (iE s m) L) (Vb (iE s m) L):=by
 let p:(cV s.lo 0 m&&cV s.hi 0 m)=false->iE s m=1:=λh=>by unfold iE;rw[ax QD]
 let u:(cV s.lo 0 m&&cV s.hi 0 m)=true->s.hi<s.lo->iE s m=5:=λh z=>by unfold iE;rw[A QZ,ax z]
 let t:(cV s.lo 0 m&&cV s.hi 0 m)=true->¬s.hi<s.lo->iE s m=0:=λh z=>by unfold iE;rw[A QZ,A z]
 refine Sp.e (n:=21) Tryz.func169 O λC j d r=>?_;refine .y O (kv _ _ _ _) (.I O (λc1=>?_) (λc1=>?_))
 .refine .y O (kv _ _ _ _) (.g O ?_);refine W.iy O O O O (jf _ _ _) ?_ ?_
  .rintro _ _ ⟨rfl,c2,rfl⟩;refine .g O ?_;refine W.iy O O O O (jf _ _ _) ?_ ?_
   .rintro _ _ ⟨rfl,c,rfl⟩;refine .g O ?_;exact W.lM r O O ⟨rfl,t C3 (by simp at c;omega),Le.refl _⟩
   .rintro _ _ ⟨c,rfl,rfl⟩;rw[u C3 (by simp at c;omega)] at r;exact WM.raise r ⟨V,rfl,Le.refl _⟩
  .rintro _ _ ⟨c2,rfl,rfl⟩;rw[p C3] at r;exact WM.raise r ⟨V,rfl,Le.refl _⟩
 .refine .g O ?_;refine W.iy O O O O (jf _ _ _) ?_ ?_
  .rintro _ _ ⟨_,c2,_⟩;exact ar c2 V
  .rintro _ _ ⟨_,rfl,rfl⟩;rw[p (by rw[c1];rfl)] at r;exact WM.raise r ⟨V,rfl,Le.refl _⟩
def kg(x:Gl):List Value:=[x.made,x.jR,x.dw.lo,x.dw.hi]
def jM(x:Sg):List Value:=[x.gU,x.iR,x.year,x.found]
def jL(x:Gl):(kg x).length=4:=rfl
def kK(x:Sg):(jM x).length=4:=rfl
abbrev jU(r:Ro)(p:BP):List Value:=[.slice p.a0 r.au.length p.c0,.slice p.a1 r.steps.length p.c1,.slice p.a2 r.be.length p.c2,.slice p.a3 r.samples.length p.c3,.slice p.a4 r.aQ.length p.c4]
abbrev xL(r:Ro)(p:BP):Value:=.agg (jU r p).toArray
structure iG(L:LH)(r:Ro)(p:BP):Prop where
 h0:bz L p.a0 4 kg r.au
 h1:bK L p.a1 r.steps
 h2:bK L p.a2 r.be
 h3:bz L p.a3 2 cJ r.samples
 h4:bz L p.a4 4 jM r.aQ
 n0:r.au.length<=1000000
 n1:r.steps.length<=1000000
 n2:r.be.length<=1000000
 n3:r.samples.length<=1000000
 n4:r.aQ.length<=1000000
 k4:r.aQ.length<=p.c4
def iG.le{r:Ro}{p:BP}(h:iG L r p)(o:Le L R):iG R r p:=⟨h.h0.le o,h.h1.le o,h.h2.le o,h.h3.le o,h.h4.le o,h.n0,h.n1,h.n2,h.n3,h.n4,h.k4⟩
def BD(t:Ro)(p:BP)(s:Sg)(L:LH)(h:iG L t p):Sp X 170 [xL t p,.agg (jM s).toArray] L (Vd (ik t s) L) (Vb (ik t s) L):=by
 let w:=h.n0;let i:=h.n3;let y:(cV s.gU 0 ((t.samples:Int) - 1)&&cV s.iR 0 ((t.au:Int) - 1))=false->ik t s=3:=λh=>by unfold ik;rw[ax QD]
 let I:(cV s.gU 0 ((t.samples:Int) - 1)&&cV s.iR 0 ((t.au:Int) - 1))=true->ik t s=if !cV s.year 0 60 then 1 else if s.year<(t.au.getD s.iR.toNat ⟨0,0,⟨0,0⟩⟩).made then 12 else if !cV s.found 0 2 then 8 else 0:=λh=>by unfold ik;rw[A QZ]
 refine Sp.e (n:=40) Tryz.func170 O λC j d r=>?_;refine .g O ?_;rw[w1 i];refine .p O (kv _ _ _ _) (.I O (λc1=>?_) (λc1=>?_))
 .refine .g O ?_;rw[w1 w];refine .p O (kv _ _ _ _) (.g O ?_);refine W.iy O O O O (jf _ _ _) ?_ ?_
  .rintro _ _ ⟨rfl,c2,rfl⟩;rw[I C3] at r;let K:=e9.1 c2;refine .y O (kv _ _ _ _) (.g O ?_);refine W.iy O O O O (jf _ _ _) ?_ ?_
   .rintro _ _ ⟨rfl,q,rfl⟩;rw[A (by rw[q];simp)] at r;refine .g O ?_;obtain⟨c,x⟩:∃c:Nat,s.iR=(c:Int):=⟨s.iR.toNat,M⟩;let e:c<t.au:=by omega
    obtain⟨g,a1,m,D,F,G,b,l,k,H⟩:=p;obtain⟨a,J⟩:=h.h0.addr e;obtain rfl:g=some a:=J;let o:=h.h0.whole (bX e) rfl;let u:L.cell? ((a.add (c * 4)).add 0)=some (.int .i64 t.au[c].made):=o.2 0 _ rfl;let z:(t.au.getD s.iR.toNat ⟨0,0,⟨0,0⟩⟩).made=t.au[c].made:=by rw[x,kT,dL,bX e];rfl
    rw[z] at r;refine .z (.run' [0,1,2,3,4,5] O (.u 6 O (Vf.idx O O O O O x e) (.run' [7] O (.u 8 O (Vf.l O (u)) (.run' [9] O (.split 34 O (λv=>?_) (λv=>?_)))))))
    .rw[A (by simp at v;omega)] at r;refine .c 10 rfl rfl (Ts _ _) jw ?_;rintro _ _ ⟨rfl,rfl⟩;refine .fin O ?_;refine .y O (kv _ _ _ _) (.g O ?_);refine W.iy O O O O (jf _ _ _) ?_ ?_
     .rintro _ _ ⟨rfl,f,rfl⟩;rw[A (by rw[f];simp)] at r;refine .g O ?_;exact W.lM r O O ⟨rfl,rfl,Le.refl _⟩
     .rintro _ _ ⟨f,rfl,rfl⟩;rw[ax (by rw[f];rfl)] at r;exact WM.raise r ⟨V,rfl,Le.refl _⟩
    .rw[ax (by simp at v;omega)] at r;refine DD.iy 10 O O O O O O (ade _ _) ?_;rintro _ _ ⟨rfl,rfl⟩;exact WM.raise r ⟨V,rfl,Le.refl _⟩
   .rintro _ _ ⟨q,rfl,rfl⟩;rw[ax (by rw[q];rfl)] at r;exact WM.raise r ⟨V,rfl,Le.refl _⟩
  .rintro _ _ ⟨c2,rfl,rfl⟩;rw[y C3] at r;exact WM.raise r ⟨V,rfl,Le.refl _⟩
 .refine .g O ?_;refine W.iy O O O O (jf _ _ _) ?_ ?_
  .rintro _ _ ⟨_,c2,_⟩;exact ar c2 V
  .rintro _ _ ⟨_,rfl,rfl⟩;rw[y (by rw[c1];rfl)] at r;exact WM.raise r ⟨V,rfl,Le.refl _⟩
def Qk{m:Int}(h:cI c 1 m=0):¬cI c 1 m≠0:=ri
def Qm(p:me)(n:Int)(l:aH):fW p (n::l)=if !cV n 1 40 then 1 else if(match p with | some q=>decide (n<=q) | none=>false) then 5 else fW n l:=by cases p <;> rfl
def Y7(S:Nat)(t:Ro)(p:BP)(L:LH)(G:∀(i:Nat) (v:Value),(jU t p)[i]?=some v->L.cell? ⟨S,i,none⟩=some v)(h:iG L t p):Sp X 167 [pt S] L (Vd (ic t) L) (Vb (ic t) L):=by
 have n0:=h.n0;have n1:=h.n1;have n2:=h.n2;have n3:=h.n3;have n4:=h.n4;obtain⟨a0,a1,a2,a3,a4,x,b,l,k3,k4⟩:=p;refine Sp.e (n:=114) Tryz.func167 O λC hX u4 r=>?_;refine .G O (Vf.l O (G 0 _ O)) (.g O ?_);refine W.iy O O O O (KY _ _ _) ?_ ?_
 rotate_left
 .rintro _ _ ⟨f,rfl,o⟩;rw[show ic t=cI t.au.length 1 4 by unfold ic;rw[ax f]] at r;exact WM.raise r ⟨f,rfl,o⟩
 rintro _ L1 ⟨rfl,f,K⟩;have J:ic t=if fR t.au≠0 then fR t.au else
   if cI t.steps.length 1 3≠0 then cI t.steps.length 1 3 else
   if fW none t.steps≠0 then fW none t.steps else
   if t.be.length≠t.steps.length+1 then 9 else
   if !(t.be.all λn=>cV n 0 99) then 1 else
   if ep t.samples 2 40≠0 then ep t.samples 2 40 else
   if 8<t.aQ.length then 6 else mo t t.aQ:=by unfold ic;rw[A (Qk f)]
 refine .G O (Vf.l O (K.cell (G 0 _ O))) (.g O ?_);refine .l (λQ E B R=>∃i:Nat,Q=t.au.length - i/\i<=t.au.length/\fR (t.au.drop i)=fR t.au/\Le L R/\E=[(0,.v (pt S)),(16,.v (.slice a0 t.au.length x)),(17,.v (.int .i64 t.au.length)),(18,.v (.int .i64 i))]/\B=[]) ⟨0,rfl,M,U,K,rfl,rfl⟩ ?_
 rintro _ _ _ L2 ⟨i,rfl,T,I,u,rfl,rfl⟩ again;refine .I O (λF=>W.go 99 O ?_) (λF=>W.go 99 O ?_)
 .have D:i<t.au.length:=by simpa using F
  have hd:=lj D;obtain⟨a,s⟩:=h.h0.addr D;obtain rfl:a0=some a:=s;have d:∀e,mM t.au[i]=e->e≠0->ic t=e:=λe z f=>by
   have:fR t.au=e:=by rw[<-I,hd,fR,z,ax f]
   rw[J,this,ax f]
  have next:mM t.au[i]=0->fR (t.au.drop (i+1))=fR t.au:=λz=>by rw[<-I,hd,fR,z,A U]
  generalize u1:t.au[i]=g at d next
  have b1:(cV g.made 0 60&&cV g.jR 0 40)=false->mM g=1:=λh=>by unfold mM;rw[ax QD]
  have b2:(cV g.made 0 60&&cV g.jR 0 40)=true->mM g=iE g.dw 3:=λh=>by unfold mM;rw[A QZ]
  refine .u O (Vf.j O O (D)) (.G O (Vf.q O (((h.h0.le u).whole (by rw[bX D,u1]) O:cD L2 (a.add (i * 4)) 4 (kg g)))) (.y O (kv _ _ _ _) (.I O (λc1=>?_) (λc1=>?_))))
  .refine .y O (kv _ _ _ _) (.g O ?_);refine W.iy O O O O (jf _ _ _) ?_ ?_
   .rintro _ _ ⟨rfl,c2,rfl⟩;have b3:=b2 C3;refine .g O ?_;refine W.iy O O O O (DN g.dw 3 _) ?_ ?_
    .rintro _ L3 ⟨rfl,c,q⟩;refine .g O ?_;exact .a (again _ _ _ _ M ⟨i+1,rfl,M,next (by rw[b3];exact c),u.trans q,rfl,rfl⟩) ⟨rfl,rfl,rfl,aJ some (cr M),aE⟩
    .rintro _ L3 ⟨c,rfl,q⟩;rw[d _ b3 c] at r;exact WM.raise r ⟨c,rfl,u.trans q⟩
   .rintro _ _ ⟨c2,rfl,rfl⟩;rw[d 1 (b1 C3) V] at r;exact WM.raise r ⟨V,rfl,u⟩
  .refine .g O ?_;refine W.iy O O O O (jf _ _ _) ?_ ?_
   .rintro _ _ ⟨_,c2,_⟩;exact ar c2 V
   .rintro _ _ ⟨_,rfl,rfl⟩;rw[d 1 (b1 (by rw[c1];rfl)) V] at r;exact WM.raise r ⟨V,rfl,u⟩
 have m:fR t.au=0:=by rw[<-I,nX xR];rfl
 rw[A Lx] at J;clear again I F f T K;refine .u O (Vf.l O (u.cell (G 1 _ O))) (.g O ?_);refine W.iy O O O O (KY _ _ _) ?_ ?_
 rotate_left
 .rintro _ _ ⟨f,rfl,o⟩;rw[J,ax f] at r;exact WM.raise r ⟨f,rfl,u.trans o⟩
 rintro _ L1 ⟨rfl,f,K⟩;rw[A (Qk f)] at J;have K:=u.trans K;clear u;refine .G O (Vf.l O (K.cell (G 1 _ O))) (.g O ?_);refine .l (λQ E B R=>∃i:Nat,Q=t.steps.length - i/\i<=t.steps.length/\fW (if i=0 then none else some (t.steps.getD (i - 1) 0)) (t.steps.drop i)=fW none t.steps/\Le L R/\E=[(0,.v (pt S)),(40,.v (.slice a1 t.steps.length b)),(41,.v (.int .i64 t.steps.length)),(42,.v (.int .i64 i))]/\B=[]) ⟨0,rfl,M,U,K,rfl,rfl⟩ ?_
 rintro _ _ _ L2 ⟨i,rfl,T,I,u,rfl,rfl⟩ again;refine .I O (λF=>W.go 99 O ?_) (λF=>W.go 99 O ?_)
 .have D:i<t.steps.length:=by simpa using F
  have hd:=lj D;obtain⟨a,s⟩:=h.h1.addr D;obtain rfl:a1=some a:=s;have y:=h.h1.le u;have d:∀e,e≠0->fW (if i=0 then none else some (t.steps.getD (i - 1) 0)) (t.steps.drop i)=e->ic t=e:=λe f z=>by
   rw[J,<-I,z,ax f]
  rw[hd,Qm] at I d;refine .u O (Vf.b O O (D)) (.G O (Vf.l O (y.int (bX D))) (.y O (kv _ _ _ _) (.g O ?_)));refine W.iy O O O O (jf _ _ _) ?_ ?_
  rotate_left
  .rintro _ _ ⟨c2,rfl,rfl⟩;rw[d 1 V (by rw[ax (by rw[c2];rfl)])] at r;exact WM.raise r ⟨V,rfl,u⟩
  rintro _ _ ⟨rfl,c2,rfl⟩;rw[A (by rw[c2];simp)] at I;have H:=λh=>d 5 V ((A (by rw[c2];simp)).trans (ax h));clear d;refine .I O (λc=>?_) (λc=>?_)
  .have w:i=0:=by simp at c;omega
   subst w;rw[ax rfl] at I;rw[A U] at I;refine .y O (Ts _ _) (.g O ?_);exact .a (again _ _ _ _ M ⟨0+1,rfl,M,by rw[A M,<-I];simp[dL,bX D],u,rfl,rfl⟩) ⟨rfl,rfl,rfl,aJ some (cr M),aE⟩
  .have w:¬i=0:=by simp at c;omega
   rw[A w] at I H;have k:i - 1<t.steps.length:=M
   have u2:t.steps.getD (i - 1) 0=t.steps[i - 1]:=by rw[dL,bX k];rfl
   rw[u2] at I H;refine .G O (Vf.l O (u.cell (G 1 _ O))) (.G O (Vf.NH O O O O O O (show IntKind.i64.wrap ((i:Int) - 1)=((i - 1:Nat):Int) by rw[wrap64_in _ M M];omega) k) (.G O (Vf.l O (y.int (bX k))) (.g O ?_)));refine W.iy O O O O (jf _ _ _) ?_ ?_
   .rintro _ _ ⟨rfl,c4,rfl⟩;have u3:t.steps[i - 1]<t.steps[i]:=by simpa using c4
    rw[A bU] at I;refine .g O ?_;exact .a (again _ _ _ _ M ⟨i+1,rfl,M,by rw[A M,<-I];simp[dL,bX D],u,rfl,rfl⟩) ⟨rfl,rfl,rfl,aJ some (cr M),aE⟩
   .rintro _ _ ⟨c4,rfl,rfl⟩;have u3:¬t.steps[i - 1]<t.steps[i]:=by simpa using c4
    rw[H bU] at r;exact WM.raise r ⟨V,rfl,u⟩
 have m:fW none t.steps=0:=by rw[<-I,nX xR];rfl
 rw[A Lx] at J;clear again I F f T K;refine .u O (Vf.l O (u.cell (G 2 _ O))) (.G O (Vf.l O (u.cell (G 1 _ O))) (.g O ?_));rw[wrap64_in _ M M];refine W.iy O O O O (jf _ _ _) ?_ ?_
 rotate_left
 .rintro _ _ ⟨c1,rfl,rfl⟩;rw[J,ax wz] at r;exact WM.raise r ⟨V,rfl,u⟩
 rintro _ _ ⟨rfl,c1,rfl⟩;rw[A wz] at J;refine .G O (Vf.l O (u.cell (G 2 _ O))) (.g O ?_);refine .l (λQ E B R=>∃i:Nat,Q=t.be.length - i/\i<=t.be.length/\(t.be.drop i).all (λn=>cV n 0 99)=t.be.all (λn=>cV n 0 99)/\Le L R/\E=[(0,.v (pt S)),(74,.v (.slice a2 t.be.length l)),(75,.v (.int .i64 t.be.length)),(76,.v (.int .i64 i))]/\B=[]) ⟨0,rfl,M,U,u,rfl,rfl⟩ ?_
 clear u c1;rintro _ _ _ L2 ⟨i,rfl,T,I,u,rfl,rfl⟩ again;refine .I O (λF=>W.go 99 O ?_) (λF=>W.go 99 O ?_)
 .have D:i<t.be.length:=by simpa using F
  have hd:=lj D;obtain⟨a,s⟩:=h.h2.addr D;obtain rfl:a2=some a:=s;rw[hd,Bz] at I;refine .u O (Vf.b O O (D)) (.G O (Vf.l O ((h.h2.le u).int (bX D))) (.y O (kv _ _ _ _) (.g O ?_)));refine W.iy O O O O (jf _ _ _) ?_ ?_
  .rintro _ _ ⟨rfl,c2,rfl⟩;rw[c2,GF] at I;refine .g O ?_;exact .a (again _ _ _ _ M ⟨i+1,rfl,M,I,u,rfl,rfl⟩) ⟨rfl,rfl,rfl,aJ some (cr M),aE⟩
  .rintro _ _ ⟨c2,rfl,rfl⟩;rw[c2,yQ] at I;rw[J,ax (by rw[<-I];rfl)] at r;exact WM.raise r ⟨V,rfl,u⟩
 have m:t.be.all (λn=>cV n 0 99)=true:=by rw[<-I,nX xR];rfl
 rw[A (by rw[m];simp)] at J;clear again I F T;refine .u O (Vf.l O (u.cell (G 3 _ O))) (.g O ?_);refine W.iy O O O O (KY _ _ _) ?_ ?_
 rotate_left
 .rintro _ _ ⟨f,rfl,o⟩;rw[J,show ep t.samples 2 40=cI t.samples.length 1 2 by unfold ep;rw[ax f],ax f] at r;exact WM.raise r ⟨f,rfl,u.trans o⟩
 rintro _ L1 ⟨rfl,f,K⟩;have hS:ep t.samples 2 40=jg 40 t.samples:=by unfold ep;rw[A (Qk f)]
 rw[hS] at J;have K:=u.trans K;clear u;refine .G O (Vf.l O (K.cell (G 3 _ O))) (.g O ?_);refine .l (λQ E B R=>∃i:Nat,Q=t.samples.length - i/\i<=t.samples.length/\jg 40 (t.samples.drop i)=jg 40 t.samples/\Le L R/\E=[(0,.v (pt S)),(89,.v (.slice a3 t.samples.length k3)),(90,.v (.int .i64 t.samples.length)),(91,.v (.int .i64 i))]/\B=[]) ⟨0,rfl,M,U,K,rfl,rfl⟩ ?_
 rintro _ _ _ L2 ⟨i,rfl,T,I,u,rfl,rfl⟩ again;refine .I O (λF=>W.go 99 O ?_) (λF=>W.go 99 O ?_)
 .have D:i<t.samples.length:=by simpa using F
  have hd:=lj D;obtain⟨a,s⟩:=h.h3.addr D;obtain rfl:a3=some a:=s;rw[hd,jg] at I;refine .u O (Vf.j O O (D)) (.G O (Vf.q O ((h.h3.le u).whole (bX D) O)) (.g O ?_));refine W.iy O O O O (DN _ 40 _) ?_ ?_
  .rintro _ L3 ⟨rfl,c,q⟩;rw[A lA] at I;refine .g O ?_;exact .a (again _ _ _ _ M ⟨i+1,rfl,M,I,u.trans q,rfl,rfl⟩) ⟨rfl,rfl,rfl,aJ some (cr M),aE⟩
  .rintro _ L3 ⟨c,rfl,q⟩;rw[ax c] at I;rw[J,<-I,ax c] at r;exact WM.raise r ⟨c,rfl,u.trans q⟩
 have m:jg 40 t.samples=0:=by rw[<-I,nX xR];rfl
 rw[A Lx] at J;clear again I F f T K;refine .u O (Vf.l O (u.cell (G 4 _ O))) (.g O ?_);refine W.iy O O O O (jf _ _ _) ?_ ?_
 rotate_left
 .rintro _ _ ⟨c1,rfl,rfl⟩;rw[J,ax wz] at r;exact WM.raise r ⟨V,rfl,u⟩
 rintro _ _ ⟨rfl,c1,rfl⟩;rw[A wz] at J;refine .G O (Vf.l O (u.cell (G 4 _ O))) (.g O ?_);refine .l (λQ E B R=>∃i:Nat,Q=t.aQ.length - i/\i<=t.aQ.length/\mo t (t.aQ.drop i)=mo t t.aQ/\Le L R/\E=[(0,.v (pt S)),(104,.v (.slice a4 t.aQ.length k4)),(105,.v (.int .i64 t.aQ.length)),(106,.v (.int .i64 i))]/\B=[]) ⟨0,rfl,M,U,u,rfl,rfl⟩ ?_
 clear u c1;rintro _ _ _ L2 ⟨i,rfl,T,I,u,rfl,rfl⟩ again;refine .I O (λF=>W.go 99 O ?_) (λF=>W.go 99 O ?_)
 .have D:i<t.aQ.length:=by simpa using F
  have hd:=lj D;obtain⟨a,s⟩:=h.h4.addr D;obtain rfl:a4=some a:=s;rw[hd,mo] at I;refine .u O (Vf.j O O (D)) (.G O (Vf.q O ((h.h4.le u).whole (bX D) O)) (.G O (Vf.q O ((⟨rfl,λj v hv=>by rw[bM,jJ];exact u.cell (G j v hv)⟩:cD L2 ⟨S,0,none⟩ 5 (jU t ⟨a0,a1,a2,a3,some a,x,b,l,k3,k4⟩)))) (.g O ?_)));refine W.iy O O O O (BD t ⟨a0,a1,a2,a3,some a,x,b,l,k3,k4⟩ _ _ (h.le u)) ?_ ?_
  ·rintro _ L3 ⟨rfl,c,q⟩;rw[A lA] at I;refine .g O ?_;exact .a (again _ _ _ _ M ⟨i+1,rfl,M,I,u.trans q,rfl,rfl⟩) ⟨rfl,rfl,rfl,aJ some (cr M),aE⟩
  ·rintro _ L3 ⟨c,rfl,q⟩;rw[ax c] at I;rw[J,<-I] at r;exact WM.raise r ⟨c,rfl,u.trans q⟩
 have m:mo t t.aQ=0:=by rw[<-I,nX xR];rfl
 rw[m] at J;exact W.lM r O O ⟨rfl,J,u⟩
def Gx(t:Ro)(p:BP)(L:LH)(h:iG L t p):Sp X 129 [xL t p] L (λv u=>v=ic t/\Le L u):=by
 refine Sp.e Tryz.func129 O λC j d r=>(.g O (.cz 1 (.inl ⟨_,rfl⟩) O O ?_));intro f q _;let m:=Le.put q (.cells (jU t p).toArray 48);let z:∀(i:Nat) (v:Value),(jU t p)[i]?=v->(L.put f (.cells (jU t p).toArray 48)).cell? ⟨f,i,none⟩=v:=λi v g=>aF (aj _ _ _) (by rwa[gq]);refine .c O (Jl 167 [pt f] (ic t) _ (λa o=>Y7 f t p a (λi v g=>o.cell (z i v g)) ((h.le m).le o))) ?_;rintro _ _ ⟨rfl,o⟩;refine .D r O ⟨rfl,m.trans o⟩
def gj(x:Want):List Value:=[x.sort,x.kind,x.cO,x.pay]
def iA(x:Want):(gj x).length=4:=rfl
def AO(x:Want):∀u∈gj x,single u=true:=bQ O
structure Wp where
 la:Option Addr
 sa:Option Addr
 wa:Option Addr
 lc:Nat
 sc:Nat
 wc:Nat
abbrev cX(s:Sw)(p:Wp):List Value:=[.slice p.la s.ay.length p.lc,.slice p.sa s.aO.length p.sc,.int .i64 s.jO,.slice p.wa s.aC.length p.wc]
abbrev gZ(s:Sw)(p:Wp):Value:=.agg (cX s p).toArray
structure eE(L:LH)(s:Sw)(p:Wp):Prop where
 lo:gB L p.la 1 bL s.ay
 st:bK L p.sa s.aO
 wt:bz L p.wa 4 gj s.aC
 cap:s.aC.length<=p.wc
def eE.le{p:Wp}(h:eE L s p)(o:Le L R):eE R s p:=⟨h.lo.le o,h.st.le o,h.wt.le o,h.cap⟩
structure Sm(s:Sw):Prop where
 hl:s.ay.length<=1000
 hs:s.aO.length<=1000
 hw:s.aC.length<=1000
 hr:∀l∈s.ay,l.length<=1000
def eD.sm(h:eD s):Sm s:=⟨by have:=h.l3;omega,by have:=h.l3;have:=h.st;omega,by have:=h.w5;omega,λl o=>by have:=(h.lf l o).l4;omega⟩
def gX(n s i:Int)(L:LH):Sp X 103 [n,s,i] L (λv u=>v=cV n s i/\L=u):=by
 refine Sp.e Tryz.func103 O λC j d r=>(.I O (λc=>?_) (λc=>?_))
 .refine .g O (.r r O ⟨F8,rfl⟩)
 .refine .g O (.r r O ⟨F8,rfl⟩)
def Ou(n s i:Int)(L:LH):Sp X 136 [n,s,i] L (λv u=>v=cI n s i/\L=u):=by
 refine Sp.e Tryz.func136 O λC j d r=>(.I O (λc=>?_) (λc=>?_))
 .refine .g O (.r r O ⟨by unfold cI;rw[ax lA];rfl,rfl⟩)
 refine .I O (λc2=>?_) (λc2=>?_)
 .refine .g O (.r r O ⟨by unfold cI;rw[A lA,ax uT];rfl,rfl⟩)
 .refine .g O (.r r O ⟨by unfold cI;rw[A lA,A uT];rfl,rfl⟩)
def kH(K:Nat):∀(l:aH),(∀x∈l,0<=x/\x<=K)->0<=bu l/\bu l<=K *l:=by
 intro l;generalize u:l.length=n
 induction n generalizing l with
 | zero=>
  intro _;rw[Dt] at u;subst u;exact⟨Du _,by simp[bu]⟩
 | succ n v=>
  intro h;let i:l≠[]:=λe=>by subst e;simp at u
  obtain⟨k,x,rfl⟩:∃k x,l=k++[x]:=⟨l.dropLast,l.getLast i,(IP i).symm⟩;rw[lz];let q:=v k (by simp at u;omega) λy g=>h y (yT _ g);let z:=h x U;rw[show((n+1:Nat):Int)=(n:Int)+1 by omega,Int.mul_add,Int.mul_one];omega
def EH(p:bA)(g:Nat)(l:aH)(L:LH)(c:bK L p l)(y:l.length<=1000000)(d:∀x∈l,0<=x/\x<=(4000:Nat)):Sp X 182 [.slice p l g] L (λv z=>v=.int .i64 (bu l)/\L=z):=by
 refine Sp.e (n:=17) Tryz.func182 O λC s w r=>?_;refine .g O ?_;refine .l (λm E B z=>∃(j:Nat),m=l - j/\j<=l/\L=z/\E=[(6,.v (.slice p l g)),(7,.v (.int .i64 l.length)),(3,.v (.int .i64 (bu (l.take j)))),(8,.v (.int .i64 j))]/\B=[]) ⟨0,rfl,M,rfl,rfl,rfl⟩ ?_
 rintro _ _ _ _ ⟨j,rfl,t,rfl,rfl,rfl⟩ again;refine .I O (λi=>W.go 99 O ?_) (λi=>W.go 99 O ?_)
 .have o:j<l:=by simpa using i
  obtain⟨b,rfl⟩:=c.addr o;have q:l.take (j+1)=l.take j++[l[j]]:=ja o;have a:=kH 4000 (l.take (j+1)) λx u=>d x (yo u);rw[mi,q,lz] at a;refine .u O (Vf.b O O (o)) (.G O (Vf.l O (c.int (bX o))) (.g O ?_));exact .a (again _ _ _ _ M ⟨j+1,rfl,M,rfl,rfl,rfl⟩) ⟨rfl,rfl,aJ some (Ra (by rw[q,lz]) (by rw[q,lz];omega) (by rw[q,lz];omega)),aJ some (cr M),aE⟩
 .have f:j=l:=by simp at i;omega
  subst f;refine .r r O ?_;rw[lK];exact⟨rfl,rfl⟩
def Ac(l:aH)(i:Nat):Option Int:=if i=0 then none else l[i - 1]?
def vD(i:n<l):Ac l (n+1)=l[n]:=by
 unfold Ac;rw[A M];simp[bX i]
def Mq(t:bA)(c:Nat)(l:aH)(L:LH)(o:bK L t l)(y:l.length<=1000000):Sp X 137 [.slice t l c] L (λv g=>v=.int .i64 (mC l)/\L=g):=by
 refine Sp.e (n:=34) Tryz.func137 O λC j b r=>?_;refine .y O (Ou _ _ _ _) (.I O (λc1=>W.go 99 O ?_) (λc1=>W.go 99 O ?_))
 .exact .r r O ⟨by unfold mC;rw[ax mw];rfl,rfl⟩
 refine .l (λm E B g=>∃(i:Nat),m=l - i/\i<=l/\ny (Ac l i) (l.drop i)=ny none l/\L=g/\E=[(0,.v (.slice t l c)),(12,.v (.slice t l c)),(13,.v (.int .i64 l.length)),(14,.v (.int .i64 i))]/\B=[]) ⟨0,rfl,M,rfl,rfl,rfl,rfl⟩ ?_
 rintro _ _ _ _ ⟨i,rfl,x,z,rfl,rfl,rfl⟩ again;refine .I O (λp=>W.go 99 O ?_) (λp=>W.go 99 O ?_)
 .have f:i<l:=by simpa using p
  obtain⟨s,rfl⟩:=o.addr f;rw[lj f,ny] at z;refine .u O (Vf.b O O (f)) (.G O (Vf.l O (o.int (bX f))) (.y O (gX _ _ _ _) (.I O (λq=>W.go 99 O ?_) (λq=>W.go 99 O ?_))))
  .exact .r r O ⟨by unfold mC;rw[A mw,<-z,ax wu];rfl,rfl⟩
  rw[A wu] at z;refine .s O (λu=>?_) (λu=>?_)
  .have w:0<i:=by simpa using u
   have a:Ac l i=some l[i - 1]:=by unfold Ac;rw[A M];exact bX M
   rw[a] at z;have k:IntKind.i64.wrap ((i:Int) - 1)=((i - 1:Nat):Int):=by rw[wrap64_in _ M M];omega
   refine .g O ?_;rw[k];refine .u O (Vf.b O O ((show i - 1<l.length by omega))) (.G O (Vf.l O (o.int (bX (show i - 1<l.length by omega)))) (.I O (λd=>W.go 99 O ?_) (λd=>W.go 99 O ?_)))
   .exact .r r O ⟨by unfold mC;rw[A mw,<-z,ax (by simpa [upB] using d)];rfl,rfl⟩
   .rw[A (by simpa [upB] using d)] at z;exact .a (again _ _ _ _ M ⟨i+1,rfl,M,by rw[vD f];exact z,rfl,rfl,rfl⟩) ⟨rfl,rfl,rfl,aJ some (cr M),aE⟩
  .have w:i=0:=by simp at u;omega
   subst w;refine .g O ?_;exact .a (again _ _ _ _ M ⟨1,rfl,M,by rw[vD f];exact z,rfl,rfl,rfl⟩) ⟨rfl,rfl,rfl,aJ some (cr M),aE⟩
 .exact .r r O ⟨by unfold mC;rw[A mw,<-z,nX (by simp at p;omega)];rfl,rfl⟩
def qz{c:gx}{x:Want}(q:cV x.sort 0 2=true)(z:cV x.kind (Dc x) ((c:Int) - 1)=true):
  gy c x=if(cV x.cO (Bp x) (Db c x)&&cV x.pay 0 30)=true then 0 else 1:=by
 unfold gy;rw[q,z];simp
def Ej{c:gx}(h:c[n]?=l):c.getD n []=l:=by rw[dL,h];rfl
def BF(s:Sw)(p:Wp)(x:Want)(L:LH)(l:eE L s p)(I:Sm s):Sp X 138 [gZ s p,.agg (gj x).toArray] L (λv J=>v=gy s.ay x/\L=J):=by
 let Q:=I.hl;let e:IntKind.i64.wrap ((s.ay.length:Int) - 1)=(s.ay.length:Int) - 1:=wrap64_in _ M M;refine Sp.e (n:=47) Tryz.func138 O λC j d r=>?_;refine .I O (λg=>?_) (λg=>?_)
 .let i:x.sort=1:=by simpa using g
  refine .g O ?_;rw[e];refine .p O (gX _ _ _ _) (.I O (λq=>W.go 99 O ?_) (λq=>W.go 99 O ?_))
  .exact .r r O ⟨QE,rfl⟩
  refine .F O (.y O (gX _ _ _ _) (.I O (λt=>W.go 99 O ?_) (λt=>W.go 99 O ?_)))
  .exact .r r O ⟨by rw[qz xV xW,A (by simp at t;simp[Bp,Db,i,t])];rfl,rfl⟩
  refine .p O (gX _ _ _ _) (.I O (λy=>W.go 99 O ?_) (λy=>W.go 99 O ?_))
  .exact .r r O ⟨by rw[qz xV xW,A (by simp at y;simp[y])];rfl,rfl⟩
  .exact .r r O ⟨by rw[qz xV xW,ax (by simp at t y;simp[Bp,Db,i,t,y])];rfl,rfl⟩
 let i:x.sort≠1:=F4
 refine .I O (λg=>?_) (λg=>?_)
 .let i:x.sort=2:=by simpa using g
  refine .g O ?_;rw[e];refine .p O (gX _ _ _ _) (.I O (λq=>W.go 99 O ?_) (λq=>W.go 99 O ?_))
  .exact .r r O ⟨QE,rfl⟩
  let R:0<=x.kind/\x.kind<s.ay.length:=by simp[cV] at q;omega
  let m:x.kind.toNat<s.ay.length:=M
  have o:s.ay[x.kind.toNat]?=some s.ay[x.kind.toNat]:=bX m;obtain⟨K,u⟩:=l.lo.addr m;have w:=l.lo;rw[u] at w;obtain⟨a,c,b,D,F⟩:=w.row o;have f:=I.hr _ (fZ o);generalize s.ay[x.kind.toNat]=G at *;have z:=o;obtain⟨H,S,T,B,E,qf⟩:=p;obtain rfl:H=K:=u;refine .T O (.G O (Vf.NH O O O O O O (show x.kind=((x.kind.toNat:Nat):Int) by omega) m) (.G O (Vf.l O (b)) (.g O ?_)));rw[wrap64_in ((G.length:Int) - 1) M M];refine .p O (gX _ _ _ _) (.I O (λt=>W.go 99 O ?_) (λt=>W.go 99 O ?_))
  .exact .r r O ⟨by rw[qz xV xW,A (by simp at t;simp[Bp,Db,i,z,t])];rfl,rfl⟩
  refine .p O (gX _ _ _ _) (.I O (λy=>W.go 99 O ?_) (λy=>W.go 99 O ?_))
  .exact .r r O ⟨by rw[qz xV xW,A (by simp at y;simp[y])];rfl,rfl⟩
  .exact .r r O ⟨by rw[qz xV xW,ax (by simp at t y;simp[Bp,Db,z,i,t,y])];rfl,rfl⟩
 have k:x.sort≠2:=F4
 refine .I O (λg=>?_) (λg=>?_)
 .have i:x.sort=0:=by simpa using g
  have z:True:=trivial;refine .g O ?_;rw[e];refine .p O (gX _ _ _ _) (.I O (λq=>W.go 99 O ?_) (λq=>W.go 99 O ?_))
  .exact .r r O ⟨QE,rfl⟩
  refine .F O (.y O (gX _ _ _ _) (.I O (λt=>W.go 99 O ?_) (λt=>W.go 99 O ?_)))
  .exact .r r O ⟨by rw[qz xV xW,A (by simp at t;simp[Bp,Db,i,z,t])];rfl,rfl⟩
  refine .p O (gX _ _ _ _) (.I O (λy=>W.go 99 O ?_) (λy=>W.go 99 O ?_))
  .exact .r r O ⟨by rw[qz xV xW,A (by simp at y;simp[y])];rfl,rfl⟩
  .exact .r r O ⟨by rw[qz xV xW,ax (by simp at t y;simp[Bp,Db,z,i,t,y])];rfl,rfl⟩
 .refine .g O ?_;have e3:x.sort≠0:=by simpa using g
  exact .r r O ⟨by unfold gy;rw[ax Q0];rfl,rfl⟩
def MF(s:Sw)(p:Wp)(L:LH)(k:eE L s p)(J:Sm s):Sp X 102 [gZ s p] L (λv I=>v=e8 s/\L=I):=by
 have n1:=J.hl;have n2:=J.hs;have n3:=J.hw;refine Sp.e (n:=72) Tryz.func102 O λC j d r=>?_;refine .y O (Ou _ _ _ _) (.I O (λc1=>W.go 99 O ?_) (λc1=>W.go 99 O ?_))
 .exact .r r O ⟨by unfold e8;rw[ax mw];rfl,rfl⟩
 refine .l (λm E B I=>∃i:Nat,m=s.ay.length - i/\i<=s.ay.length/\jo (s.ay.drop i)=jo s.ay/\E=[(1,.p 0 0),(20,.v (.slice p.la s.ay.length p.lc)),(21,.v (.int .i64 s.ay.length)),(22,.v (.int .i64 i))]/\B=[some ⟨cL (.v (gZ s p)),52⟩]/\L=I) ⟨0,rfl,M,U,rfl,rfl,rfl⟩ ?_
 rintro _ _ _ _ ⟨i,rfl,T,z,rfl,rfl,rfl⟩ again;refine .I O (λe=>W.go 99 O ?_) (λe=>W.go 99 O ?_)
 .have t:i<s.ay.length:=by simpa using e
  have o:s.ay[i]?=some s.ay[i]:=bX t;rw[lj t,jo] at z;obtain⟨K,u⟩:=k.lo.addr t;have q:=k.lo;rw[u] at q;obtain⟨a,c,b,G,x⟩:=q.row o;have f:=J.hr _ (fZ o);generalize s.ay[i]=lf at *;obtain⟨H,Q,R,h,qe,qf⟩:=p;obtain rfl:H=some K:=u;refine .u O (Vf.b O O (t)) (.G O (Vf.l O (b)) (.y O (Mq _ _ _ _ G M) (.I O (λw=>W.go 99 O ?_) (λw=>W.go 99 O ?_))))
  .exact .r r O ⟨by unfold e8;rw[A mw,<-z,ax (show mC lf≠0 by simpa using w),ax (show mC lf≠0 by simpa using w)];rfl,rfl⟩
  .exact .again (again _ _ _ _ M ⟨i+1,rfl,M,by rw[<-z,A Lw],rfl,rfl,rfl⟩) ⟨rfl,rfl,rfl,aJ some (cr M),aE⟩ ⟨rfl,aE⟩
 have q:jo s.ay=0:=by rw[<-z,nX Av];rfl
 clear again z;refine .s O (λc2=>W.go 99 O ?_) (λc2=>W.go 99 O ?_)
 .exact .r r O ⟨by unfold e8;rw[A mw,A (by simp[q]),ax wA];rfl,rfl⟩
 have g:s.aO.length=s.ay.length:=wA
 refine .l (λm E B I=>∃i:Nat,m=s.aO.length - i/\i<=s.aO.length/\kW (s.aO.drop i)=kW s.aO/\E=[(1,.p 0 0),(40,.v (.slice p.sa s.aO.length p.sc)),(41,.v (.int .i64 s.aO.length)),(42,.v (.int .i64 i))]/\B=[some ⟨cL (.v (gZ s p)),52⟩]/\L=I) ⟨0,rfl,M,U,rfl,rfl,rfl⟩ ?_
 rintro _ _ _ _ ⟨i,rfl,T,z,rfl,rfl,rfl⟩ again;refine .I O (λe=>W.go 99 O ?_) (λe=>W.go 99 O ?_)
 .have t:i<s.aO.length:=by simpa using e
  rw[lj t,kW] at z;obtain⟨K,u⟩:=k.st.addr t;have y:=k.st;rw[u] at y;obtain⟨H,Q,R,h,qe,qf⟩:=p;obtain rfl:Q=some K:=u;refine .u O (Vf.b O O (t)) (.G O (Vf.l O (y.int (bX t))) (.y O (gX _ _ _ _) (.I O (λw=>W.go 99 O ?_) (λw=>W.go 99 O ?_))))
  .exact .r r O ⟨by unfold e8;rw[A mw,A (by simp[q]),A M,<-z,ax (by simp at w;simp[w])];rfl,rfl⟩
  .exact .again (again _ _ _ _ M ⟨i+1,rfl,M,by simp at w;rw[<-z,w,GF],rfl,rfl,rfl⟩) ⟨rfl,rfl,rfl,aJ some (cr M),aE⟩ ⟨rfl,aE⟩
 have S:kW s.aO=true:=by rw[<-z,nX Av];rfl
 clear again z;have base:e8 s=if !cV s.jO 0 3 then 1 else if 5<s.aC.length then 6 else oy s.ay s.aC:=by
  unfold e8;rw[A mw,A (by simp[q]),A M,A (by simp[S])]
 refine .p O (gX _ _ _ _) (.I O (λD=>W.go 99 O ?_) (λD=>W.go 99 O ?_))
 .exact .r r O ⟨by rw[base,ax F3];rfl,rfl⟩
 refine .s O (λF=>W.go 99 O ?_) (λF=>W.go 99 O ?_)
 .exact .r r O ⟨by rw[base,A F3,ax xR];rfl,rfl⟩
 refine .l (λm E B I=>∃i:Nat,m=s.aC.length - i/\i<=s.aC.length/\oy s.ay (s.aC.drop i)=oy s.ay s.aC/\E=[(1,.p 0 0),(59,.v (.slice p.wa s.aC.length p.wc)),(60,.v (.int .i64 s.aC.length)),(61,.v (.int .i64 i))]/\B=[some ⟨cL (.v (gZ s p)),52⟩]/\L=I) ⟨0,rfl,M,U,rfl,rfl,rfl⟩ ?_
 rintro _ _ _ _ ⟨i,rfl,T,z,rfl,rfl,rfl⟩ again;refine .I O (λe=>W.go 99 O ?_) (λe=>W.go 99 O ?_)
 .have t:i<s.aC.length:=by simpa using e
  rw[lj t,oy] at z;obtain⟨K,u⟩:=k.wt.addr t;have y:=k.wt;rw[u] at y;have l:=k;obtain⟨H,Q,R,h,qe,qf⟩:=p;obtain rfl:R=some K:=u;refine .u O (Vf.j O O (t)) (.G O (Vf.q O (y.whole (bX t) O)) (.y O (BF s _ s.aC[i] L k J) (.I O (λw=>W.go 99 O ?_) (λw=>W.go 99 O ?_))))
  .exact .r r O ⟨by rw[base,A F3,A xR,<-z,ax (show gy s.ay s.aC[i]≠0 by simpa using w)];rfl,rfl⟩
  .exact .again (again _ _ _ _ M ⟨i+1,rfl,M,by rw[<-z,A Lw],rfl,rfl,rfl⟩) ⟨rfl,rfl,rfl,aJ some (cr M),aE⟩ ⟨rfl,aE⟩
 have hw:oy s.ay s.aC=0:=by rw[<-z,nX Av];rfl
 exact .r r O ⟨by rw[base,A F3,A xR,hw];rfl,rfl⟩
def Ef.range{C:Cx P}{w:fD}{l:cR}{o:cZ}{z f:bh}{q:x8}{j:Bool}(u:bZ E x=some (.v (.map n)))(i:P.underlying t=some (.map z f))(a:L n=some (.map q k,j)):
  Ef C ⟨w,.range t x,e,H,l,o⟩ E B L (λy m g=>∃b,y=.v (.pointer (some ⟨b,0,none⟩))/\m=B/\L b=none/\g=L.put b (.mapIter n k #[] k)):=by
 intro T R β h r;let c:=(bR (h.val u)).symm;exists rfl;simp only[execOp,c];rw[Z];unfold Instr.range;rw[Z,aD i];simp only;rw[Z,pH (r.le _ _ a)];simp only;rw[Z,aI,Z,vL];intro b d;exact⟨_,B,_,⟨b,rfl,rfl,(r.free d).1,rfl⟩,rfl,r.zY d _,λ_ _=>rfl⟩
def Ef.next{C:Cx P}{D:fD}{X:cR}{gd:cZ}{i:Nat}{q:x8}{p:Nat}{l:Array Nat}{j:Bool}(g:bZ E x=some (.v (.pointer (some ⟨n,0,none⟩))))(F:L n=some (.mapIter k m l i,true))(hL:L k=some (.map q p,j))(G:∀e∈q,e.born<m/\e.born<i):
  Ef C ⟨D,.next x false,t,H,X,gd⟩ E B L (λS B' W=>B'=B/\((S=.v (.tuple #[false])/\(∀e∈q,l.contains e.born=true)/\W=L)\/∃e∈q,l.contains e.born=false/\S=.v (.tuple #[true,e.key,e.val])/\W=L.put n (.mapIter k m (l.push e.born) p))):=by
 intro T R β hE s;let ey:=(bR (hE.val g)).symm;refine⟨rfl,?_⟩;simp only[execOp,ey];rw[Z];unfold Instr.next;simp only;rw[Z];show aP P _ _ (.getObj n .pure) R;unfold aP;rw[s.le _ _ F];simp only[mq,iM,if_false];show aP P _ _ (getObj k>>= _) R;rw[Z,pH (s.le _ _ hL)];simp only;let h1:(!l.isEmpty&&!q.isEmpty&&q.all (λe=>decide (e.born≥i)))=false:=by
  cases z:q.all (λe=>decide (e.born≥i)) with
  | false=>rw[zg]
  | true=>
   have:q=#[]:=by
    apply Array.eq_empty_of_size_eq_zero;rcases pU q.size with h | h
    .exact h
    .let h2:=Array.all_eq_true.1 z 0 h;let h3:=(G _ (Array.getElem_mem h)).2;simp at h2;omega
   subst this;rw[show(#[]:Array MapEntry).isEmpty=true from rfl];cases l.isEmpty <;> rfl
 rw[h1];simp only[iM,if_false];let hold:(q.filter λe=>!l.contains e.born).filter (λe=>decide (e.born<m))=q.filter λe=>!l.contains e.born:=by
  rw[Array.filter_eq_self];intro e z;have:=(G e (Array.mem_filter.1 z).1).1
  simpa using this
 let w:(q.filter λe=>!l.contains e.born).filter (λe=>decide (e.born≥m))=#[]:=by
  rw[Array.filter_eq_empty_iff];intro e z;have:=(G e (Array.mem_filter.1 z).1).1;simp;omega
 rw[hold,w,rQ];have r:∀e,e∈(q.filter λe=>!l.contains e.born)↔e∈q/\l.contains e.born=false:=λe=>by rw[Array.mem_filter];simp
 generalize(q.filter λe=>!l.contains e.born)=lf at r;rw[Z,sx];intro c y;have done:∀{K:bC},K (.tuple #[false]) R->aP P K (λ_ _=>False) (pure (.tuple #[false]):Sem Value) R:=λh=>h;cases o:lf.isEmpty with
 | true=>
  have f:lf=#[]:=by rw[Array.isEmpty_iff] at o;exact o
  subst f;simp only[if_true,Array.map_empty,rQ];have a:c=0:=by
   unfold pN at y;rw[ax (by simp[Question.forced])] at y;exact y
  subst a;refine⟨_,B,L,⟨rfl,.inl ⟨rfl,λe z=>?_,rfl⟩⟩,rfl,s,λ_ _=>rfl⟩;cases hs:l.contains e.born with
  | true=>rfl
  | false=>have:=(r e).2 ⟨z,hs⟩;simp at this
 | false=>
  simp only[iM,if_false,uo];have I:0<lf.size:=by
   rcases pU lf.size with h | h
   .rw[Array.isEmpty] at o;simp[h] at o
   .exact h
  have J:c<lf.size:=by
   rw[o] at y;simp only[iM,if_false,uo,Array.size_map] at y;unfold pN at y
   split at y
   .omega
   .obtain⟨d,rfl⟩:=y;exact Nat.mod_lt _ I
  rw[yn,Bw J];simp only[mg];obtain⟨u,g2⟩:=(r _).1 (Array.getElem_mem J);rw[Z,lN (s.le _ _ F) rfl rfl];exact⟨_,B,_,⟨rfl,.inr ⟨lf[c],u,g2,rfl,rfl⟩⟩,rfl,s.wZ F (aj _ _ _) (λb Q=>aB R _ Q),λ_ _=>rfl⟩
end
section
variable {P:Program}
def Ns{d:Nat}{f:aH}{c:mc}(u:P.underlying t=some (.array n e))(z:P.underlying e=some (.int .i64))(a:(P.info? e).map (·.size)=some 1)(s:iZ P e=false)(J:l=n)(g:f=n):
  aP P c Q (Op.equalIn (d+2) t (dT l) (dT f)) R=c (decide (l=f)) R:=by
 unfold dT;rw[Op.equalIn,Z,aD u,Z,cQ a,Z];simp only[Std.Legacy.Range.forIn_eq_forIn_range',Std.Legacy.Range.size,wH,Nat.add_sub_cancel,Nat.div_one]
 suffices h:∀(k m:Nat) (y:Xe),m+k=n->aP P y Q (forIn (List.range' m k 1) ((none,()):Option Bool×Unit) λi x=>do
    let b <-Go.part e (l.map (Value.int .i64)).toArray (i * 1)
    let r <-Go.part e (f.map (Value.int .i64)).toArray (i * 1)
    let b <-Op.equalIn (d+1) e b r
    if(!b)=true then pure (ForInStep.done (false,()))
     else pure (ForInStep.yield (none,()))) R=if l.drop m=f.drop m then y (none,()) R else y (false,()) R by
  rw[h n 0 _ M];simp only[List.drop_zero]
  by_cases e:l=f
  .rw[ax e,jY e];rfl
  .rw[A e,mB e];rfl
 intro k
 induction k with
 | zero=>
  intro m y o;rw[nX M,nX M,ax rfl]
  rfl
 | succ k I=>
  intro m y o;have w:m<l:=M
  have j:m<f:=M
  rw[List.range'_succ,List.forIn_cons,Z,Z,vq,kQ (v:=.int .i64 l[m]) s (by simp[w]),Z,kQ (v:=.int .i64 f[m]) s (by simp[j]),Z,AS z];rw[lj w,lj j]
  by_cases p:l[m]=f[m]
  .have q:(l[m]==f[m])=true:=by simpa using p
   rw[q];have:=I (m+1) y M;rw[show(if l[m]::l.drop (m+1)=f[m]::f.drop (m+1) then y (none,()) R else y (some false,()) R)=if l.drop (m+1)=f.drop (m+1) then y (none,()) R else y (some false,()) R by rw[p];simp only[List.cons.injEq,true_and]];exact this
  .have q:(l[m]==f[m])=false:=by simpa using p
   rw[q,A (λh=>p (Cp h).1)]
   rfl
def NA{Q:bC}{R:LH}{t e:bh}{n:Nat}{l:aH}(u:P.underlying t=some (.array n e))(d:P.underlying e=some (.int .i64))(a:(P.info? e).map (·.size)=some 1)(s:iZ P e=false)(f:l=n):
  ∀(q:List MapEntry) (i:Nat),(∀y∈q,∃v:List Int,v=n/\y.key=dT v/\v≠l)->∀(c:Q6),aP P c Q (Instr.findAsking t (dT l) q i) R=c none R
 | [],_,_,_=>rfl
 | y::q,i,h,c=>by
  obtain⟨v,o,m,r⟩:=h y fC;rw[Instr.findAsking,m,Z];show aP P _ Q (Op.equalIn (9998+2) t _ _) R=_;rw[Ns u d a s f o,mB (λe=>r e.symm)];exact NA u d a s f q (i+1) (λz p=>h z (fG _ p)) c
def Pu{t:TypeDesc}(q:List MapEntry)(h:∀y∈q,∃u:List Int,y.key=dT u)(i:Nat):q≠[]->Instr.findNow t (dT l) q i=none:=by
 cases q with
 | nil=>exact λh=>ar rfl h
 | cons y q=>
  intro _;let⟨u,g⟩:=h y fC;unfold Instr.findNow;rw[g];cases t <;> rfl
def D4{q:List MapEntry}(u:P.underlying t=some (.array n e))(v:P.underlying e=some (.int .i64))(a:(P.info? e).map (·.size)=some 1)(s:iZ P e=false)(d:l=n)
  (h:∀y∈q,∃i:List Int,i=n/\y.key=dT i/\i≠l)(c:Q6):aP P c Q (Instr.findKey t (dT l) q) R=c none R:=by
 unfold Instr.findKey;rw[Z,aD u];cases q with
 | nil=>rfl
 | cons y q=>
  rw[Pu (y::q) (λz p=>let⟨i,_,f,_⟩:=h z p;⟨i,f⟩) 0 U];exact NA u v a s d (y::q) 0 h c
end
section
variable {P:aV}[S:Seat P]{C:Cx P}
omit S in
def Vf.entry{u:Nat}{q:x8}{l:Array Nat}{j b:Bool}{e:MapEntry}(g:bZ E x=some (.v (.pointer (some ⟨n,0,none⟩))))(f:L n=some (.mapIter k m l u,j))(o:L k=some (.map q u,b))(d:l.back?=e.born)(z:q.find? (λc=>c.born==e.born)=e):
  Vf P (.entry x) E B L (.v (.tuple #[e.key,e.val])):=λT R β h _ t=>by
 let a:=(bR (h.val g)).symm;refine⟨_,rfl,λp w s y r Q H i=>?_⟩;simp only[execOp,a];rw[Z];unfold Instr.entry;simp only;rw[Z];show aP P _ _ (.getObj n .pure) R;unfold aP;rw[t _ _ f];simp only[mq,iM,if_false];show aP P _ _ _ R;simp only[pure,aP,d];rw[Z,pH (t _ _ o)];simp only[bne_self_eq_false,iM,if_false,z];exact i
omit S in
def Vf.HX{f:bh}{q:x8}{j:Bool}(u:bZ E x=some (.v (.map n)))(d:P.underlying t=some (.map e f))(o:L n=some (.map q k,j)):Vf P (.call {callee:=.builtin .len,args:=#[x],argTypes:=#[t]}) E B L q.size:=λT R β h _ z=>by
 let i:=(bR (h.val u)).symm;refine⟨_,rfl,λp w s l a Q H c=>?_⟩;simp only[execOp,resolve,oY,iH,nG,i,pure,Sem.bind,bind,invoke,builtin,Builtin.len_];simp[gq,zc];show aP P Q H ((_>>= _)>>= _) R;rw[Z,Z,aD d];show aP P _ H (getObj n>>= _) R;rw[Z,pH (z _ _ o)];exact c
def Vf.jN{y:aW}{u o:TI}{j i:Nat}{r:fE}(w:bZ E x=some (.sl n k m j))(l:bZ E y=some (.v (.int r c)))(s:S.τ.find t=u)(a:u.d=.slice e)(z:S.τ.find e=o)(I:c=(i:Int))(J:i<m):Vf P (.indexAddr t x y) E B L (.p n (k+i *o.size)):=λT R β h _ _=>by
 let q:=(TT.bj S.ok s).d;rw[a] at q;subst I;let g:=h.val w;unfold den at g;cases f:β n with
 | none=>rw[f] at g;cases g
 | some b=>
  rw[f] at g;refine⟨.pointer (some ⟨b,k+i *o.size,none⟩),by unfold den;rw[f],λK=>?_⟩;have:=cE.G6 (P:=P) (L:=R) (ty:=K) q (TT.bj S.ok z).size (bR g).symm (bR (h.val l)).symm J;rw[bM] at this;exact this
end
section
open Go.Proofs
structure mS where
 b:Bl
 ro:Ro
 s:Sw
 ls:List Bs
 an:List Bs
structure Kp where
 b:BP
 r:BP
 s:Wp
 la:Option Addr
 lc:Nat
 aa:Option Addr
 ac:Nat
abbrev HE(k:mS)(p:Kp):List Value:=wJ k.b p.b++jU k.ro p.r++cX k.s p.s++[.slice p.la k.ls.length p.lc,.slice p.aa k.an.length p.ac]
abbrev Fo(k:mS)(p:Kp):Value:=.agg (HE k p).toArray
structure nT(L:LH)(k:mS)(p:Kp):Prop where
 b:iK L k.b p.b
 r:iG L k.ro p.r
 s:eE L k.s p.s
 l:bz L p.la 1 dv k.ls
 a:bz L p.aa 1 dv k.an
def nT.le{k:mS}{p:Kp}(h:nT L k p)(o:Le L R):nT R k p:=⟨h.b.le o,h.r.le o,h.s.le o,h.l.le o,h.a.le o⟩
def aeu(l:Bs):Prop:=l.length<=100/\fF l 63=0/\∃v a,kV l=some (v,a)
structure Xw(k:mS):Prop where
 b:fP k.b=0
 r:ic k.ro=0
 s:e8 k.s=0
 sm:Sm k.s
 l6:k.ls.length<=6
 ln:∀l∈k.ls,aeu l
 al:k.an.length=k.ls.length
 a40:∀l∈k.an,l.length<=40
def UR(k:mS)(p:Kp)(L:LH)(f:nT L k p)(z:Xw k):Sp X 92 [Fo k p] L (λv e=>v=.int .i64 0/\Le L e):=by
 refine Sp.e Tryz.func92 O λC j D r=>(.g rfl (.z (.run' [0,1,3,4,6,7,11] rfl (.c 2 rfl rfl (Rm k.b p.b _ f.b) jw ?_))));rintro _ _ ⟨rfl,rfl⟩;refine .c 5 rfl rfl (Gx k.ro p.r _ f.r) Q1 ?_;rintro _ _ ⟨rfl,m⟩;rename_i h;have d:=f.le m;rw[z.b,z.r];refine .c 8 rfl rfl (MF k.s p.s _ d.s z.sm) (by rintro _ _ ⟨rfl,rfl⟩;exact m) ?_;rintro _ _ ⟨rfl,rfl⟩;rw[z.s];refine .run' [9,10] O (.fin O (.g O ?_));have F:=z.l6;have g:=z.al;refine .l (λt E B e=>∃i:Nat,t=3 - i/\i<=3/\h=e/\E=[(1,.p 0 0),(20,.sl 1 0 3 3),(21,.v (.int .i64 3)),(22,.v (.int .i64 i))]/\B=[some ⟨(HE k p).map .v,56⟩,some ⟨[.v (.int .i64 0),.v (.int .i64 0),.v (.int .i64 0)],39⟩]) ⟨0,rfl,fj _,rfl,rfl,rfl⟩ ?_
 rintro _ _ _ _ ⟨i,rfl,q,rfl,rfl,rfl⟩ again;have G:i=0\/i=1\/i=2\/i=3:=M
 rcases G with rfl | rfl | rfl | rfl
 .rw[show((0:Nat):Int)=0 from rfl];refine .N O (.G O (Vf.jN O O O O O O V) (.K O (.g O (.again (again _ _ _ _ M ⟨1,rfl,M,rfl,rfl,rfl⟩) ⟨rfl,rfl,rfl,aJ some O,aE⟩ ⟨rfl,rfl,aE⟩))))
 .rw[show((1:Nat):Int)=1 from rfl];refine .N O (.G O (Vf.jN O O O O O O V) (.K O (.g O (.again (again _ _ _ _ M ⟨2,rfl,M,rfl,rfl,rfl⟩) ⟨rfl,rfl,rfl,aJ some O,aE⟩ ⟨rfl,rfl,aE⟩))))
 .rw[show((2:Nat):Int)=2 from rfl];refine .N O (.G O (Vf.jN O O O O O O V) (.K O (.g O (.again (again _ _ _ _ M ⟨3,rfl,M,rfl,rfl,rfl⟩) ⟨rfl,rfl,rfl,aJ some O,aE⟩ ⟨rfl,rfl,aE⟩))))
 .rw[show((3:Nat):Int)=3 from rfl];refine .K O (.K O ?_ bU);refine .g O ?_;refine .l (λt E B e=>∃i:Nat,t=k.ls.length - i/\i<=k.ls.length/\Le h e/\E=[(1,.p 0 0),(35,.v (.slice p.la k.ls.length p.lc)),(36,.v (.int .i64 k.ls.length)),(37,.v (.int .i64 i))]/\B=[some ⟨(HE k p).map .v,56⟩]) ⟨0,rfl,fj _,Le.refl _,rfl,rfl⟩ ?_
  rintro _ _ _ H ⟨i,rfl,q,y,rfl,rfl⟩ again;refine .I O (λc1=>W.go 99 O ?_) (λc1=>W.go 99 O ?_)
  .have q:i<k.ls.length:=by simpa using c1
   have c:=d.le y;let⟨a,I⟩:=c.l.addr q;have o:=c.l;rw[I] at o ⊢;have u:=bX q;let⟨J,w,v,Q,K⟩:=z.ln _ (fY q);generalize k.ls[i]=x at u J w K;refine .u O (Vf.b O O (q)) (.G O (Vf.l O (ox o u)) (.y O (Mm x _ w) (.o O (Iy x v Q _ M K) ?_)));rintro _ _ ⟨T,R,rfl,S⟩;refine .K O (.g O (.again (again _ _ _ _ M ⟨i+1,rfl,q,y.trans S.1,rfl,rfl⟩) ⟨rfl,aJ (λa=>some (SV.v (.slice a _ _))) I.symm,rfl,aJ some (cr M),aE⟩ ⟨rfl,aE⟩))
  .have c:=d.le y;refine .p O (YU p.la p.lc k.ls _ c.l M (λx u=>(z.ln x u).2.1)) (.K O (.K O ?_ (by rw[z.al];simp)));refine .g O ?_;refine .l (λt E B e=>∃i:Nat,t=k.an.length - i/\i<=k.an.length/\H=e/\E=[(63,.v (.slice p.aa k.an.length p.ac)),(64,.v (.int .i64 k.an.length)),(65,.v (.int .i64 i))]/\B=[]) ⟨0,rfl,fj _,rfl,rfl,rfl⟩ ?_
   rintro _ _ _ _ ⟨i,rfl,q,rfl,rfl,rfl⟩ again;refine .I O (λc1=>W.go 99 O ?_) (λc1=>W.go 99 O ?_)
   .have q:i<k.an.length:=by simpa using c1
    let⟨a,I⟩:=c.a.addr q;have o:=c.a;rw[I] at o ⊢;have u:=bX q;have J:=z.a40 _ (fY q);generalize k.an[i]=x at u J;refine .u O (Vf.b O O (q)) (.G O (Vf.l O (ox o u)) (.K O ?_ bU));refine .g O (.a (again _ _ _ _ M ⟨i+1,rfl,q,rfl,rfl,rfl⟩) ⟨aJ (λa=>some (SV.v (.slice a _ _))) I.symm,rfl,aJ some (cr M),aE⟩)
   .refine .r r O ⟨rfl,m.trans y⟩
end
def bE.base{v:Value}(d:bE L k e h R v r)(z:Le R J):∃g,Le L g/\Le g J/\bE g k e h J v r/\∀b,R b=none->g b=J b:=by
 let⟨q,o,j,y⟩:=d;cases o with
 | none=>exact⟨J,q.trans z,Le.refl _,⟨Le.refl _,none,j.le z,λb f=>by cases f⟩,λ_ _=>rfl⟩
 | some c=>
  let i:∀b,b≠c->(λb=>if b=c then none else J b:LH) b=J b:=λb f=>A f;let t:(λb=>if b=c then none else J b:LH) c=none:=ax rfl;refine⟨λb=>if b=c then none else J b,λb x u=>?_,λb x u=>?_,⟨λb x u=>?_,c,j.le z,λb f=>by cases f;exact t⟩,λb f=>?_⟩
  .let e:b≠c:=λe=>by subst e;rw[y _ rfl] at u;cases u
   exact(i b e).trans (z _ _ (q _ _ u))
  .by_cases e:b=c
   .subst e;rw[show(λa=>if a=b then none else J a:LH) b=none from ax rfl] at u;cases u
   .rw[i b e] at u;exact u
  .by_cases e:b=c
   .subst e;rw[show(λa=>if a=b then none else J a:LH) b=none from ax rfl] at u;cases u
   .rw[i b e] at u;exact u
  .exact i b λe=>by subst e;exact j.blk f
def bE.under(c:bE R k e h L (.slice d n m) r)(f:∀x,(h x)=k)(i:∀b,R b=none->J b=L b):bz J d k h r:=by
 let⟨_,v,z,u⟩:=c;let⟨_,_,p,_⟩:=z.slice;cases p;exact(z.keep λb q=>i b (u b q)).at f
def bE.post{u:LH}{v:Value}(d:bE R k e h L v r)(a:Go.Mz.Post R L J u):bE J k e h u v r:=by
 let⟨q,i,z,f⟩:=d;refine⟨a.le,i,?_,λb o=>?_⟩
 .cases i with
  | none=>exact z
  | some b=>let⟨m,c,x,j,t⟩:=z;exact⟨m,c,x,a.keep b _ (f b O) j,t⟩
 .refine qF λe=>?_;rcases a.fresh b e with g | g
  .exact g (f b o)
  .subst o;exact z.blk g
def bE.off{v:Value}(d:bE R k e h L v r)(i:L n=none)(f:∀b x,b≠n->L b=some x->J b=x):bE R k e h J v r:=by
 let⟨q,a,z,g⟩:=d;refine⟨λb x u=>f b x (λe=>by subst e;rw[q _ _ u] at i;cases i) (q _ _ u),a,?_,g⟩;cases a with
 | none=>exact z
 | some c=>let⟨m,j,y,o,t⟩:=z;exact⟨m,j,y,f _ _ (λe=>by subst e;rw[o] at i;cases i) o,t⟩
def bE.less{v:Value}(c:bE R k e h L v r)(o:Le J R):bE J k e h L v r:=let⟨q,d,z,u⟩:=c;⟨o.trans q,d,z,λb i=>bN o (u b i)⟩
def bE.Zo(c:bE R k e h L (.slice d n m) r)(f:∀x,(h x)=k)(y:r=n):bz L d k h r:=by
 subst y;exact(c.at f).2
end Go.Mz
set_option maxRecDepth 100000
namespace Go.Mz
open Go.Conc
variable {P:aV}{α:Type}{n k m:Nat}{L R J:LH}{t e:bh}{w:World}{h:α->List Value}{c:Int}{B:aX}{Y:Trace}{l:aH}{r:List α}{s:Sw}{q:aU}{Q:bC}{E:cK}{j:aR}{D:bt}{d:bA}{F:Env}{g:aT}{o:bD}{C:bH}{N:Nm}{K:bI}{z:SV}{I:cj}{H:ck}{X:aM Proofs.Tryz.prog}
section
open Go.Proofs
def jW(v:Nat)(ad:bA)(cap:Nat)(a:aH):Value:=
 if v=3 then .iface 209 (.agg #[a.getD 0 0]) else if v=4 then .iface 153 (.agg #[a.getD 0 0]) else if v=5 then .iface 155 (.agg #[a.getD 0 0])
 else if v=6 then .iface 157 (.agg #[]) else .iface 252 (.agg #[v,.slice ad a cap])
def aah(v:Nat)(l:bA)(m:Nat)(a:aH)(L:LH)(g:v<7)(y:a=jQ v)(s:bK L l a):Sp X 132 [.agg #[.int .i64 v,.slice l a m]] L (λu z=>u=jW v l m a/\L=z):=by
 have b:v=0\/v=1\/v=2\/v=3\/v=4\/v=5\/v=6:=M
 have f:(o:0<a.length)->a[0]?=some (a.getD 0 0):=λo=>by
  rw[dL,bX o];rfl
 rcases b with rfl | rfl | rfl | rfl | rfl | rfl | rfl
 .refine Sp.e (n:=36) Tryz.func132 O λC j d r=>?_;refine .K O (.K O (.K O (.g O ?_)));refine .F O (.g O ?_);exact .r r O ⟨rfl,rfl⟩
 .refine Sp.e (n:=36) Tryz.func132 O λC j d r=>?_;refine .K O (.K O (.K O (.g O ?_)));refine .F O (.g O ?_);exact .r r O ⟨rfl,rfl⟩
 .refine Sp.e (n:=36) Tryz.func132 O λC j d r=>?_;refine .K O (.K O (.K O (.g O ?_)));refine .F O (.g O ?_);exact .r r O ⟨rfl,rfl⟩
 .have o:0<a.length:=by rw[y];decide
  obtain⟨q,rfl⟩:=s.addr o;refine Sp.e (n:=36) Tryz.func132 O λC j d r=>?_;refine .N O (.G O (Vf.b O O ((show 0<a.length from o))) (.G O (Vf.l O (s.int (f o))) (.g O ?_)));exact .r r O ⟨rfl,rfl⟩
 .have o:0<a.length:=by rw[y];decide
  obtain⟨q,rfl⟩:=s.addr o;refine Sp.e (n:=36) Tryz.func132 O λC j d r=>?_;refine .K O (.N O (.G O (Vf.b O O ((show 0<a.length from o))) (.g O ?_)));refine .u O (Vf.l O (s.int (f o))) (.g O ?_);exact .r r O ⟨rfl,rfl⟩
 .have o:0<a.length:=by rw[y];decide
  obtain⟨q,rfl⟩:=s.addr o;refine Sp.e (n:=36) Tryz.func132 O λC j d r=>?_;refine .K O (.K O (.N O (.g O ?_)));refine .u O (Vf.b O O ((show 0<a.length from o))) (.G O (Vf.l O (s.int (f o))) (.g O ?_));exact .r r O ⟨rfl,rfl⟩
 .refine Sp.e (n:=36) Tryz.func132 O λC j d r=>?_;refine .K O (.K O (.K O (.g O ?_)));refine .T O (.g O ?_);exact .r r O ⟨rfl,rfl⟩
structure AP where
 v:Nat
 a:List Int
 ad:Option Addr
 cap:Nat
abbrev oS:=List AP
def AP.x(u:AP):Nat×List Int:=(u.v,u.a)
abbrev AP.u(u:AP):Value:=jW u.v u.ad u.cap u.a
abbrev BG(u:AP):List Value:=[u.u]
def tW(u:AP):(BG u).length=1:=rfl
def DU(x:AP):∀u∈BG x,single u=true:=λu q=>by
 rw[dJ.1 q];unfold AP.u jW
 repeat' split
 all_goals rfl
def xg(L:LH)(us:oS):Prop:=∀u∈us,bK L u.ad u.a
def xg.le{s:oS}(h:xg L s)(o:Le L R):xg R s:=λu q=>(h u q).le o
structure Ir(L:LH)(bc:Nat)(k:mS)(p:Kp)(xs:List (Nat×List Int))(us:List AP)(ua:Option Addr)(uc:Nat):Prop where
 o:L bc=some (.cells (HE k p++[Value.slice ua us.length uc]).toArray 195 (0,0),true)
 k:nT L k p
 s:bz L ua 1 BG us
 a:xg L us
 x:us.map AP.x=xs
 c:us.length<=uc
def abB{u:Value}(h:u=jW n d k l):∃t w,u=.iface t w:=by
 unfold jW at h
 split at h
 .exact⟨_,_,h⟩
 .split at h
  .exact⟨_,_,h⟩
  .split at h
   .exact⟨_,_,h⟩
   .split at h <;> exact⟨_,_,h⟩
end
def HF(x:Int)(s:ei):Prop:=s.lo<=x/\x<=s.hi
def qS(b:Bl)(h:aH)(l:jA):(cx b h l)=b.bq.length:=by
 unfold cx;generalize b.bq=g
 induction l generalizing g with
 | nil=>rfl
 | cons p l u=>rw[lJ,u,List.length_modify]
end Go.Mz
set_option maxRecDepth 100000
namespace Go.Mz
open Go.Conc
variable {P:aV}{α:Type}{n k m:Nat}{L R J:LH}{t e:bh}{w u:World}{h:α->List Value}{c:Int}{B:aX}{x:aW}{Y:Trace}{l:aH}{r:List α}{s:Sw}{q:aU}{Q:bC}{E:cK}{j:aR}{D:bt}{d:bA}{F:Env}{g:aT}{o:bD}{C:bH}{N:Nm}{K:bI}{z:SV}{I:cj}{H:ck}{X:aM Proofs.Tryz.prog}
structure nU(b:Bl):Prop where
 s1:1<=b.bq.length
 s3:b.bq.length<=3
 sb:∀s∈b.bq,0<=s.lo/\s.lo<=s.hi/\s.hi<=40
 rl:b.dI.length=b.bq.length
 rb:∀r∈b.dI,1<=r/\r<=3
 mrk:∃m0 m1 m2,b.marks=[m0,m1,m2]/\1<=m0/\m0<m1/\m1<m2/\m2<=60
 h1:1<=b.bV.length
 h5:b.bV.length<=5
 hb:∀s∈b.bV,0<=s.lo/\s.lo<=s.hi/\s.hi<=4
 p8:b.proofs.length<=8
 pb:∀p∈b.proofs,eU b p=0
def aaL{s:ei}(h:iE s c=0):0<=s.lo/\s.lo<=s.hi/\s.hi<=c:=by
 unfold iE at h
 by_cases q:(!cV s.lo 0 c||!cV s.hi 0 c)=true
 .rw[ax q] at h;cases h
 .rw[A q] at h
  by_cases z:s.hi<s.lo
  .rw[ax z] at h;cases h
  .simp only[vp,wF,not_or,Dv] at q;let a:=e9.1 q.1;let b:=e9.1 q.2;omega
theorem K3{c:Int}:∀{l:eI},jg c l=0->∀s∈l,0<=s.lo/\s.lo<=s.hi/\s.hi<=c
 | [],_,s,hs=>by cases hs
 | x::l,h,s,hs=>by
  unfold jg at h
  by_cases q:iE x c≠0
  ·rw[ax q] at h;exact ar h q
  ·rw[A q] at h;rcases eP.1 hs with rfl | hs
   ·exact aaL wu
   ·exact K3 h s hs
def WT{s i:Int}(h:cI c s i=0):s<=c/\c<=i:=by
 unfold cI at h
 split at h
 .cases h
 .split at h
  .cases h
  .omega
def K4{l:eI}{m:Int}(h:ep l c m=0):1<=(l.length:Int)/\(l:Int)<=c/\∀s∈l,0<=s.lo/\s.lo<=s.hi/\s.hi<=m:=by
 unfold ep at h
 by_cases q:cI l 1 c≠0
 .rw[ax q] at h;exact ar h q
 .rw[A q] at h;have:=WT wu;exact⟨this.1,this.2,K3 h⟩
theorem Ks:∀{l:aH},mN l=true->∀r∈l,1<=r/\r<=3
 | [],_,r,b=>by cases b
 | x::l,h,r,b=>by
  unfold mN at h;rw[nF] at h;rcases eP.1 b with rfl | b
  ·exact e9.1 h.1
  ·exact Ks h.2 r b
theorem Hj{b:Bl}:∀{l:jA},lu b l=0->∀p∈l,eU b p=0
 | [],_,p,hp=>by cases hp
 | x::l,h,p,hp=>by
  unfold lu at h
  by_cases q:eU b x≠0
  ·rw[ax q] at h;exact ar h q
  ·rw[A q] at h;rcases eP.1 hp with rfl | hp
   ·simpa using q
   ·exact Hj h p hp
def V8(h:lU l=0):∃g u v,l=[g,u,v]/\1<=g/\g<u/\u<v/\v<=60:=by
 unfold lU at h
 by_cases q:l.length≠3
 .rw[ax q] at h;cases h
 .rw[A q] at h
  match l,q with
  | [a,b,c],_=>
   split at h
   .cases h
   .rename_i z
    split at h
    .cases h
    .rename_i r;simp[Bz,List.all_nil,Co,wF,Dv,nF] at z;let i:=e9.1 z.1;let d:=e9.1 z.2.2;simp[dL,zc,IL,zb,not_or,Int.not_le] at r;exact⟨a,b,c,rfl,i.1,r.1,r.2,d.2⟩
  | [],q=>simp at q
  | [_],q=>simp at q
  | [_,_],q=>simp at q
  | _::_::_::_::_,q=>simp at q
def Fq{b:Bl}(h:fP b=0):nU b:=by
 unfold fP at h
 by_cases c1:ep b.bq 3 40≠0
 .rw[ax c1] at h;exact ar h c1
 rw[A c1] at h
 by_cases c2:b.dI.length≠b.bq.length
 .rw[ax c2] at h;cases h
 rw[A c2] at h
 by_cases c:(!mN b.dI)=true
 .rw[ax c] at h;cases h
 rw[A c] at h
 by_cases e:lU b.marks≠0
 .rw[ax e] at h;exact ar h e
 rw[A e] at h
 by_cases z:ep b.bV 5 4≠0
 .rw[ax z] at h;exact ar h z
 rw[A z] at h
 by_cases u:8<b.proofs.length
 .rw[ax u] at h;cases h
 rw[A u] at h;obtain⟨a1,m,t⟩:=K4 mw;obtain⟨v,d,q⟩:=K4 Ly;exact⟨M,M,t,uT,Ks lA,V8 xQ,M,M,q,M,Hj h⟩
def Kl{b:Bl}{p:sA}(h:eU b p=0):0<=p.pan/\p.pan<b.bq/\0<=p.tick/\p.tick<=b.bV/\0<=p.kY/\p.kY<=3:=by
 unfold eU at h
 by_cases q:(!cV p.pan 0 ((b.bq:Int) - 1)||!cV p.tick 0 b.bV)=true
 .rw[ax q] at h;cases h
 .rw[A q] at h
  by_cases z:(!cV p.kY 0 3)=true
  .rw[ax z] at h;cases h
  .simp[vp,wF,not_or,Dv] at q z;let a:=e9.1 q.1;let b:=e9.1 q.2;let c:=e9.1 z;omega
structure Hs(b:Bl)(h:List Int):Prop where
 len:h.length=b.bV.length
 l5:h.length<=5
 bd:∀x∈h,0<=x/\x<=4
def Jx:∀{l:eI} {h:aH},h∈ov l->h.length=l.length/\∀(i:Nat) (x:Int) (s:ei),h[i]?=x->l[i]?=s->HF x s
 | [],h,hh=>by
  cases dJ.1 hh;exact⟨rfl,λi x s u=>by simp at u⟩
 | s::l,h,hh=>by
  unfold ov at hh;obtain⟨n,y,z⟩:=tp.1 hh;obtain⟨t,v,rfl⟩:=fK.1 z;let⟨p,d⟩:=Jx v;refine⟨by simp[p],λi x q u c=>?_⟩;cases i with
  | zero=>
   cases u;cases c;unfold nN at y;obtain⟨k,f,rfl⟩:=fK.1 y;have:=fo.1 f;unfold HF;omega
  | succ i=>exact d i x q u c
def nU.hs{b:Bl}(h:nU b)(o:l∈ov b.bV):Hs b l:=by
 obtain⟨p,q⟩:=Jx o;refine⟨p,by have:=h.h5;omega,λx u=>?_⟩;let⟨i,v⟩:=vr.1 u;let e:=(eO.1 v).1;have:=q i x b.bV[i] v (bX M);let d:=h.hb b.bV[i] (fY M);unfold HF at this;omega
def Bg{b:Bl}(d:nU b)(i:Hs b l){pan:Nat}(f:pan<b.bq.length)(t:Nat):0<=eW b l pan t/\eW b l pan t<=1500:=by
 let v:pan<b.dI:=by rw[d.rl];exact f
 let u:=d.rb b.dI[pan] (fY v);let a:=Ld _ (l.take t) rfl λx u=>by have:=i.bd x (yo u);omega
 let e:(l.take t).length<=5:=by have:=i.l5;rw[mi];omega
 unfold eW;rw[dL,bX v,zb];let q:0<=b.dI[pan] *bu (l.take t):=BA M a.1;let z:b.dI[pan] *bu (l.take t)<=3 * 500:=Dx u.2 M a.1 M;omega
def HK(s:ei):Prop:=0<=s.lo/\s.lo<=100/\-2000000<=s.hi/\s.hi<=40
def JM{b:Bl}(d:nU b)(f:k<=3):-1048576<=(gL b k).lo/\(gL b k).lo<=60/\-1048576<=(gL b k).hi/\(gL b k).hi<=1048576:=by
 obtain⟨g,q,c,o,u,z,r,x⟩:=d.mrk;unfold gL;rw[o];have:k=0\/k=1\/k=2\/k=3:=M
 rcases this with rfl | rfl | rfl | rfl <;> simp <;> omega
def AV{b:Bl}(d:nU b){l:aH}(u:Hs b l):∀{z:jA} {g:eI},(∀p∈z,eU b p=0)->(∀s∈g,HK s)->
  ∀s∈z.foldl (λg p=>g.modify p.pan.toNat λs=>iD s ⟨(gL b p.kY.toNat).lo - eW b l p.pan.toNat p.tick.toNat,(gL b p.kY.toNat).hi - eW b l p.pan.toNat p.tick.toNat⟩) g,HK s
 | [],_,_,hg=>hg
 | p::z,g,hp,hg=>by
  rw[lJ];refine AV d u (λq c=>hp q (fG _ c)) λs a=>?_;obtain⟨i,t⟩:=vr.1 a;rw[List.getElem?_modify] at t;let⟨j,f,y⟩:=il.1 (t);have v:=hg j (fZ f);subst y
  by_cases e:p.pan.toNat=i
  .rw[ax e];let⟨m,w,r,n,x,h⟩:=Kl (hp p fC);have o:=JM d (k:=p.kY.toNat) M;have I:=Bg d u (pan:=p.pan.toNat) M p.tick.toNat;unfold HK at v ⊢;unfold iD;dsimp only;omega
  .rw[A e];exact v
def CY{b:Bl}(d:nU b):∀s∈b.bq,HK s:=λs a=>by
 have:=d.sb s a;unfold HK;omega
def Ya{s:ei}(h:HK s):0<=dM s/\dM s<=41:=by unfold HK at h;unfold dM;omega
def TL:∀(l:aH) (a:Int),(∀x∈l,0<=x/\x<=41)->0<=a->0<=l.foldl (· * ·) a/\l.foldl (· * ·) a<=a * 41 ^ l.length
 | [],a,_,ha=>by simp[ha]
 | x::l,a,h,ha=>by
  rw[lJ];have u:=h x fC;let⟨q,z⟩:=TL l (a *x) (λy g=>h y (fG _ g)) (BA ha u.1);refine⟨q,Int.le_trans z ?_⟩;rw[pR,Int.pow_succ,Int.mul_comm (41 ^ l.length) 41,<-Int.mul_assoc];exact Int.mul_le_mul_of_nonneg_right (Int.mul_le_mul_of_nonneg_left u.2 ha) (Int.pow_nonneg V)
def Hi(l:aH)(x:Int):fV (l++[x])=fV l *x:=by unfold fV;rw[zi];rfl
def adN(o:l.length<=3)(h:∀x∈l,0<=x/\x<=41):0<=fV l/\fV l<=68921:=by
 obtain⟨q,z⟩:=TL l 1 h V;refine⟨q,Int.le_trans z ?_⟩;have:l.length=0\/l.length=1\/l.length=2\/l.length=3:=M
 rcases this with e | e | e | e <;> rw[e] <;> decide
def ED(s:ei):(nN s).Nodup:=by
 unfold nN;unfold List.Nodup;rw[Ff];exact List.nodup_range.imp λh e=>h M
def BJ:∀l:List ei,(ov l).Nodup
 | []=>by unfold ov;exact List.pairwise_singleton _ _
 | s::l=>by
  unfold ov List.Nodup;rw[List.pairwise_flatMap];refine⟨λn _=>?_,?_⟩
  .rw[Ff];exact(BJ l).imp λh e=>h (Cp e).2
  .refine(ED s).imp λ{a c} h x q y g e=>?_;obtain⟨t,_,rfl⟩:=fK.1 q;obtain⟨u,_,rfl⟩:=fK.1 g;exact h (Cp e).1
def CG{b:Bl}{l:jA}{x:List Int×List ei}(h:x∈cH b l):x.1∈ov b.bV/\x.2=cx b x.1 l:=by
 unfold cH at h;let⟨q,_⟩:=nH.1 h;obtain⟨t,s,rfl⟩:=fK.1 q;exact⟨s,rfl⟩
def PN(b:Bl)(l:jA):(cH b l).Pairwise λx y=>x.1≠y.1:=by
 unfold cH;refine List.Pairwise.filter _ ?_;rw[Ff];exact(BJ _).imp λh e=>h e
section
open Go.Proofs
def yy(k:Nat)(h:aH):List Int:=h++List.replicate (k - h) 0
def kD(h:aH):List Value:=(yy 5 h).map (Value.int .i64)
def P1(g:eI):List ei:=g++List.replicate (3 - g) ⟨0,0⟩
def uC(g:eI):List Value:=(P1 g).flatMap cJ
abbrev HG:=List Int×List ei
abbrev oT:=List HG
abbrev Q7:=List HG->LH->Prop
def px(x:HG):List Value:=kD x.1++(uC x.2++[.int .i64 (eo x.2)])
def kr(o:l.length<=5):(kD l).length=5:=by
 unfold kD yy;simp;omega
def xu{g:eI}(o:g.length<=3):(uC g).length=6:=by
 unfold uC;rw[gY df];unfold P1;simp;omega
def ZE{x:HG}(q:x.1.length<=5)(z:x.2.length<=3):(px x).length=12:=by
 unfold px;rw[eX,eX,kr q,xu z];rfl
def ZF(i:l[n]?=some c):(kD l)[n]?=c:=by
 let⟨o,u⟩:=eO.1 i;unfold kD yy;rw[im,kS o,i];rfl
structure vh(L:LH)(bb:Nat)(b:Bl)(p:BP)(m:Nat):Prop where
 cell:∀(i:Nat) (v:Value),(wJ b p++[.map (some m)])[i]?=some v->L.cell? ⟨bb,i,none⟩=some v
 bl:iK L b p
def vh.le{b:Bl}{p:BP}(h:vh L n b p m)(o:Le L R):vh R n b p m:=⟨λi v g=>o.cell (h.cell i v g),h.bl.le o⟩
def VQ(h:aH)(t:Nat)(L:LH)(o:h.length<=5)(s:t<=h)(d:∀x∈h,0<=x/\x<=4):Sp X 166 [.agg (kD h).toArray,t] L (λv m=>v=bu (h.take t)/\L=m):=by
 refine Sp.e (n:=18) Tryz.func166 O λC j c r=>?_;refine .g O ?_;refine .loop (λy E B m=>∃i:Nat,y=t - i/\i<=t/\E=[(2,.p 0 0),(5,.v (.int .i64 (bu (h.take i)))),(7,.v (.int .i64 t)),(8,.v (.int .i64 i))]/\B=[some ⟨(kD h).map .v,185⟩]/\L=m) ⟨0,rfl,M,rfl,rfl,rfl⟩ ⟨rfl,rfl,rfl,rfl,aE⟩ ⟨rfl,aE⟩ ?_ O (gV _ _ O)
 rintro _ _ _ _ ⟨i,rfl,q,rfl,rfl,rfl⟩ again;refine .I O (λe=>?_) (λe=>?_)
 .refine .g O ?_;have g:i<t:=by simpa using e
  have z:i<h:=M
  refine .u O (Vf.qi O O O O O O (show i<5 by omega)) ?_;have b:nth (Bx.cells ⟨(kD h).map SV.v,185⟩) (0+i * 1)=some (.v (.int .i64 h[i])):=by show nth ((kD h).map SV.v) _=_;rw[dF,im,jJ,vq,ZF (bX z)];rfl
  refine .u O (Vf.vZ O O O O (by exact b)) (.g O ?_);have f:h.take (i+1)=h.take i++[h[i]]:=ja z;have a:=Ld _ (h.take i) rfl λx u=>by have:=d x (yo u);omega
  have u:=d h[i] (fY z);have w:(h.take i).length<=5:=Lo
  exact .again (again _ _ _ _ M ⟨i+1,rfl,M,rfl,rfl,rfl⟩) ⟨rfl,aJ some (Ra (by rw[f,lz]) (by rw[f,lz];omega) (by rw[f,lz];omega)),rfl,aJ some (cr M),aE⟩ ⟨rfl,aE⟩ O (gV _ _ O)
 .refine .g O ?_;have g:i=t:=by simp at e;omega
  subst g;exact .r r O ⟨rfl,rfl⟩
def abE(i:Nat)(b:Bl)(p:BP)(m:Nat)(h:aH)(z t:Nat)(L:LH)(d:vh L i b p m)(s:nU b)(u:Hs b h)(f:z<b.bq)(y:t<=b.bV):
  Sp X 128 [pt i,.agg (kD h).toArray,z,t] L (λv w=>v=eW b h z t/\L=w):=by
 let a:z<b.dI:=by rw[s.rl];exact f
 obtain⟨l,c⟩:=d.bl.h1.addr a;let q:=d.bl.h1;rw[c] at q;let g:=d.cell 1 (.slice p.a1 b.dI p.c1) rfl;rw[c] at g;refine Sp.e (n:=21) Tryz.func128 O λC j k r=>?_;refine .t O (.run' [0,1,2,3,5,9] O (.u 4 O (Vf.l O (g)) (.u 6 O (Vf.b O O (a)) (.u 7 O (Vf.l O (q.int (bX a))) (.u 8 O (Vf.zR O O O O O (kr u.l5)) ?_)))));refine .c 10 rfl rfl (VQ h t _ u.l5 (by rw[u.len];exact y) u.bd) jw ?_;rintro _ _ ⟨rfl,rfl⟩;refine .run' [11,12] O (.fin O (.g O ?_));let o:=Bg s u f t;let e:eW b h z t=b.dI[z] *bu (h.take t):=by unfold eW;rw[dL,bX a];rfl
 rw[<-e,wrap64_in _ M M];exact .r r O ⟨rfl,rfl⟩
def OA(a:Nat)(b:Bl)(p:BP)(m:Nat)(t:Int)(L:LH)(d:vh L a b p m)(s:nU b):Sp X 90 [pt a,t] L (λv y=>v=lD b t/\L=y):=by
 let⟨g,q,c,o,k,x,e,h⟩:=s.mrk;have z:=d.bl.h2;rw[o] at z;let⟨l,u⟩:=z.addr (show 0<[g,q,c].length by simp);rw[u] at z;have i:=d.cell 2 (.slice p.a2 b.marks.length p.c2) rfl;rw[u,o] at i;refine Sp.e (n:=43) Tryz.func90 O λC j w r=>?_;refine .g rfl (.u rfl (Vf.l rfl (i)) (.g rfl (.u rfl (Vf.b rfl rfl ((show 2<3 by decide))) (.g rfl (.u rfl (Vf.l rfl (z.int (show[g,q,c][2]?=some c from rfl))) (.g rfl ?_))))));refine .s O (λc2=>W.go 99 O ?_) (λc2=>W.go 99 O ?_)
 .exact .r r O ⟨by unfold lD;rw[o];simp at c2;simp[c2,show q<=t by omega,show g<=t by omega,lv];rfl,rfl⟩
 refine .u rfl (Vf.l rfl (i)) (.g rfl (.u rfl (Vf.b rfl rfl ((show 1<3 by decide))) (.g rfl (.u rfl (Vf.l rfl (z.int (show[g,q,c][1]?=q from rfl))) (.g rfl (.s rfl (λc1=>W.go 99 rfl ?_) (λc1=>W.go 99 rfl ?_)))))))
 .exact .r r O ⟨by unfold lD;rw[o];simp at c2 c1;simp[c1,show¬c<=t by omega,show g<=t by omega,lv];rfl,rfl⟩
 refine .u rfl (Vf.l rfl (i)) (.g rfl (.u rfl (Vf.b rfl rfl ((show 0<3 by decide))) (.g rfl (.u rfl (Vf.l rfl (z.int (show[g,q,c][0]?=g from rfl))) (.g rfl (.s rfl (λf=>W.go 99 rfl ?_) (λf=>W.go 99 rfl ?_)))))))
 .exact .r r O ⟨by unfold lD;rw[o];simp at c2 c1 f;simp[f,show¬c<=t by omega,show¬q<=t by omega,lv];rfl,rfl⟩
 .exact .r r O ⟨by unfold lD;rw[o];simp at c2 c1 f;simp[show¬g<=t by omega,show¬c<=t by omega,show¬q<=t by omega,lv],rfl⟩
def ac7(x:Nat)(b:Bl)(p:BP)(m:Nat)(k:Nat)(L:LH)(d:vh L x b p m)(e:nU b)(f:k<=3):Sp X 239 [pt x,k] L (λv h=>v=.agg (cJ (gL b k)).toArray/\Le L h):=by
 obtain⟨g,q,c,o,K,D,F,G⟩:=e.mrk;have a:=d.bl.h2;rw[o] at a;obtain⟨l,t⟩:=a.addr (show 0<[g,q,c].length by simp);rw[t] at a;have y:=d.cell 2 (.slice p.a2 b.marks.length p.c2) rfl;rw[t,o] at y;refine Sp.e (n:=39) Tryz.func239 O λC H I r=>?_;refine .t O (.run' [0,1,2,3,7,8,9,10,14,15,16,17] O (.u 4 O (Vf.l O (y)) (.u 11 O (Vf.l O (y)) (.u 18 O (Vf.l O (y)) (.u 5 O (Vf.b O O ((show 0<3 by decide))) ?_)))));refine .u 12 rfl (Vf.b rfl rfl ((show 1<3 by decide))) (.u 19 rfl (Vf.b rfl rfl ((show 2<3 by decide))) (.u 6 rfl (Vf.l rfl (a.int (show[g,q,c][0]?=g from rfl))) (.u 13 rfl (Vf.l rfl (a.int (show[g,q,c][1]?=q from rfl))) (.u 20 rfl (Vf.l rfl (a.int (show[g,q,c][2]?=c from rfl))) (.run' [21,22] rfl (.fin rfl ?_))))));refine .g O (.cz 5 (.inr ⟨_,_,_,rfl⟩) O O ?_);intro s w _;have u:=Le.put w (.cells #[.int .i64 (-1048576),g,q,c,.int .i64 1048576] 3);have z:∀(i:Nat) (v:Value),[Value.int .i64 (-1048576),.int .i64 g,.int .i64 q,.int .i64 c,.int .i64 1048576][i]?=some v->(L.put s (.cells #[.int .i64 (-1048576),.int .i64 g,.int .i64 q,.int .i64 c,.int .i64 1048576] 3)).cell? (Addr.add ⟨s,0,none⟩ i)=some v:=λi v J=>by
  rw[bM,jJ];exact aF (aj _ _ _) (by rw[gq];exact J)
 have j:k=0\/k=1\/k=2\/k=3:=M
 rcases j with rfl | rfl | rfl | rfl
 .refine .z (.run' [0,1,4,5,6] O (.u 2 O (Vf.b O O ((show 0<5 by decide))) (.u 7 O (Vf.b O O ((show 1<5 by decide))) (.u 3 O (Vf.l O (z 0 _ O)) (.u 8 O (Vf.l O (z 1 _ O)) (.run' [9,10] O ?_))))));refine .a 11 rfl (Ef.lG rfl) LA ?_;rintro _ _ _ ⟨rfl,rfl,rfl⟩;refine .fin O ?_;refine .g O ?_;rw[wrap64_in _ M M];refine .r r O ⟨?_,u⟩;unfold gL;rw[o]
  rfl
 .refine .z (.run' [0,1,4,5,6] O (.u 2 O (Vf.b O O ((show 1<5 by decide))) (.u 7 O (Vf.b O O ((show 2<5 by decide))) (.u 3 O (Vf.l O (z 1 _ O)) (.u 8 O (Vf.l O (z 2 _ O)) (.run' [9,10] O ?_))))));refine .a 11 rfl (Ef.lG rfl) LA ?_;rintro _ _ _ ⟨rfl,rfl,rfl⟩;refine .fin O ?_;refine .g O ?_;rw[wrap64_in _ M M];refine .r r O ⟨?_,u⟩;unfold gL;rw[o]
  rfl
 .refine .z (.run' [0,1,4,5,6] O (.u 2 O (Vf.b O O ((show 2<5 by decide))) (.u 7 O (Vf.b O O ((show 3<5 by decide))) (.u 3 O (Vf.l O (z 2 _ O)) (.u 8 O (Vf.l O (z 3 _ O)) (.run' [9,10] O ?_))))));refine .a 11 rfl (Ef.lG rfl) LA ?_;rintro _ _ _ ⟨rfl,rfl,rfl⟩;refine .fin O ?_;refine .g O ?_;rw[wrap64_in _ M M];refine .r r O ⟨?_,u⟩;unfold gL;rw[o]
  rfl
 .refine .z (.run' [0,1,4,5,6] O (.u 2 O (Vf.b O O ((show 3<5 by decide))) (.u 7 O (Vf.b O O ((show 4<5 by decide))) (.u 3 O (Vf.l O (z 3 _ O)) (.u 8 O (Vf.l O (z 4 _ O)) (.run' [9,10] O ?_))))));refine .a 11 rfl (Ef.lG rfl) LA ?_;rintro _ _ _ ⟨rfl,rfl,rfl⟩;refine .fin O ?_;refine .g O ?_;rw[wrap64_in _ M M];refine .r r O ⟨?_,u⟩;unfold gL;rw[o]
  rfl
def oH(o:l.length<=5):∃u q y v z,kD l=[.int .i64 u,.int .i64 q,.int .i64 y,.int .i64 v,.int .i64 z]:=by
 have e:=kr o;unfold kD at e ⊢;rw[eT] at e
 match yy 5 l,e with
 | [a,b,c,d,f],_=>exact⟨a,b,c,d,f,rfl⟩
def H7{g:eI}(o:g.length<=3):∃a b c,P1 g=[a,b,c]/\∀(i:Nat) (s:ei),g[i]?=s->[a,b,c][i]?=s:=by
 match g,o with
 | [],_=>exact⟨_,_,_,rfl,λi s h=>by simp at h⟩
 | [a],_=>exact⟨_,_,_,rfl,λi s h=>by
   cases i with
   | zero=>exact h
   | succ i=>simp at h⟩
 | [a,b],_=>exact⟨_,_,_,rfl,λi s h=>by
   match i,h with
   | 0,h=>exact h
   | 1,h=>exact h⟩
 | [a,b,c],_=>exact⟨_,_,_,rfl,λi s h=>h⟩
def upS(s:ei)(n:Int):ei:=⟨s.lo+n,s.hi+n⟩
def ad2(k:Nat)(b:Bl)(p:BP)(m:Nat)(x:HG)(s:ei)(q t:Nat)(L:LH)(d:vh L k b p m)(I:nU b)(u:Hs b x.1)(K:x.2.length<=3)(a:x.2[q]?=s)(J:HK s)(f:q<b.bq)(D:t<=b.bV):
  Sp X 89 [pt k,.agg (px x).toArray,q,t] L (λv F=>v=.agg (cJ (upS s (eW b x.1 q t))).toArray/\L=F):=by
 let⟨h,g⟩:=x;let⟨c,Q,R,S,T,z⟩:=oH u.l5;let⟨W,a1,B,i,y⟩:=H7 K;have j:=y _ _ a;have o:=Bg I u f t;have l:=abE (X:=X) k b p m h q t L d I u f D;unfold HK at J;unfold px uC;simp only at z u o l ⊢;rw[i,z];rw[z] at l;have e:q=0\/q=1\/q=2:=by have:=I.s3;omega
 clear a y i;generalize eW b h q t=w at o l ⊢;rcases e with rfl | rfl | rfl
 all_goals
  cases j;refine Sp.e (n:=31) Tryz.func89 O λC G H r=>?_;refine .g O ?_;rw[<-G] at l;refine .p O l (.t O (.run' [0,1,5,7,8,12] O (.u 2 O (Vf.qi O O O O O O (V)) (.u 9 O (Vf.qi O O O O O O (V)) (.run' [3,4,6,10,11,13,14] O ?_)))));refine .a 15 rfl (Ef.lG rfl) LA ?_;rintro _ _ _ ⟨rfl,rfl,rfl⟩;refine .fin O ?_;refine .g O ?_;rw[wrap64_in _ M M,wrap64_in _ M M];exact .r r O ⟨rfl,rfl⟩
def cG(h:aH)(g:eI)(n:Int):List Value:=kD h++(uC g++[.int .i64 n])
def xn{g:eI}(q:l.length<=5)(z:g.length<=3):(cG l g c).length=12:=by
 unfold cG;rw[eX,eX,kr q,xu z];rfl
def abY(o:l.length<=5){g:eI}(u:g.length<=3)(n:Int):bY (cG l [] n).toArray 5 (g.flatMap cJ)=(cG l g n).toArray:=by
 let⟨q,e,y,v,d,z⟩:=oH o;unfold cG;rw[z]
 match g,u with
 | [],_=>rfl
 | [a],_=>rfl
 | [a,b],_=>rfl
 | [a,b,c],_=>rfl
def aeI(o:l.length<=5){g:eI}(u:g.length<=3)(n:Int)(f:k<g)(s:ei):bY (cG l g n).toArray (5+k * 2) (cJ s)=(cG l (g.set k s) n).toArray:=by
 let⟨q,e,y,v,d,z⟩:=oH o;unfold cG;rw[z]
 match g,u,k,f with
 | [a],_,0,_=>rfl
 | [a,b],_,0,_=>rfl
 | [a,b],_,1,_=>rfl
 | [a,b,c],_,0,_=>rfl
 | [a,b,c],_,1,_=>rfl
 | [a,b,c],_,2,_=>rfl
def O7(o:l.length<=5){g:eI}(u:g.length<=3)(n m:Int):bY (cG l g n).toArray 11 [m]=(cG l g m).toArray:=by
 let⟨q,v,y,i,d,z⟩:=oH o;let⟨a,b,c,e,_⟩:=H7 u;unfold cG uC;rw[z,e]
 rfl
def Vo{g:eI}{j:Bool}(d:L n=some (.cells (cG l g c).toArray e (0,0),j))(o:l.length<=5){s:ei}(a:g[k]?=s):cD L ((Addr.add ⟨n,0,none⟩ 5).add (k * 2)) 2 (cJ s):=by
 refine⟨rfl,λi v q=>?_⟩;rw[bM,bM,bM,jJ];refine aF d ?_;let f:=(eO.1 a).1;let p:(cG l g c)[5+k * 2+i]?=(g.flatMap cJ)[k * 2+i]?:=by
  unfold cG uC P1;let u:k * 2+i<(g.flatMap cJ):=by
   have:=(eO.1 q).1;rw[gY df];simp[cJ] at this;omega
  rw[lh (by rw[kr o];omega),kr o,show 5+k * 2+i - 5=k * 2+i by omega,ze,tq,kS u]
 rw[gq,p];exact tX df a q
def abZ{g:eI}{j:Bool}(u:L n=some (.cells (cG l g c).toArray e (0,0),j))(o:l.length<=5)(q:g.length<=3):L.cell? (Addr.add ⟨n,0,none⟩ 11)=c:=by
 rw[bM,jJ];refine aF u ?_;let⟨v,i,y,f,t,z⟩:=oH o;let⟨a,n,d,e,_⟩:=H7 q;unfold cG uC;rw[z,e]
 rfl
def ZU(b:Bl)(h:aH)(l:jA)(p:sA):cx b h (l++[p])=(cx b h l).modify p.pan.toNat λs=>iD s ⟨(gL b p.kY.toNat).lo - eW b h p.pan.toNat p.tick.toNat,(gL b p.kY.toNat).hi - eW b h p.pan.toNat p.tick.toNat⟩:=by
 unfold cx;rw[zi];rfl
def Hb{s:α}(f:α->α)(h:r[k]?=some s):r.modify k f=r.set k (f s):=by
 apply yU;intro i;rw[List.getElem?_modify,List.getElem?_set]
 by_cases e:k=i
 .subst e;have u:=(eO.1 h).1;rw[ax rfl,ax u,h];show some (if k=k then f s else s)=_;rw[ax rfl]
 .rw[A e];cases r[i]? with
  | none=>rfl
  | some x=>
   show some (if k=i then f x else x)=_;rw[A e]
def ads{b:Bl}{q:sA}(h:eU b q=0):∃pan y j:Nat,q=⟨(pan:Int),(y:Int),(j:Int)⟩/\pan<b.bq.length/\y<=b.bV/\j<=3:=by
 let⟨u,z,r,x,k,t⟩:=Kl h;let⟨a,c,d⟩:=q;simp only at u z r x k t;exact⟨a.toNat,c.toNat,d.toNat,by rw[Int.toNat_of_nonneg u,Int.toNat_of_nonneg r,Int.toNat_of_nonneg k],M,M,M⟩
theorem acG(bb:Nat)(b:Bl)(p:BP)(m:Nat)(h:aH)(pa:bA)(pc:Nat)(I:jA)(L:LH)(d:vh L bb b p m)(ok:nU b)(hh:Hs b h)(u4:bz L pa 3 ju I)(u5:∀q∈I,eU b q=0)(q7:I.length<=1000):
  Sp X 217 [pt bb,.agg (kD h).toArray,.slice pa I.length pc] L (λv L'=>v=.agg (px (h,cx b h I)).toArray/\Le L L'):=by
 obtain⟨x0,e,x2,x3,x4,he⟩:=oH hh.l5;have hz:[Value.int .i64 x0,.int .i64 e,.int .i64 x2,.int .i64 x3,.int .i64 x4,.int .i64 0,.int .i64 0,.int .i64 0,.int .i64 0,.int .i64 0,.int .i64 0,.int .i64 1]=cG h [] 1:=by unfold cG;rw[he];rfl
 have k:=hh.l5;have s3:=ok.s3;have u9:=d.cell 0 (.slice p.a0 b.bq.length p.c0) rfl;rw[he];refine Sp.e (n:=80) Tryz.func217 O λC hX q8 r=>?_;refine .g O (.cz 7 (.inl ⟨_,rfl⟩) O O ?_);intro S H _;have F:=Le.put H (.cells #[Value.int .i64 x0,.int .i64 e,.int .i64 x2,.int .i64 x3,.int .i64 x4,.int .i64 0,.int .i64 0,.int .i64 0,.int .i64 0,.int .i64 0,.int .i64 0,.int .i64 1] 188);have u6:=aj L S (.cells #[Value.int .i64 x0,.int .i64 e,.int .i64 x2,.int .i64 x3,.int .i64 x4,.int .i64 0,.int .i64 0,.int .i64 0,.int .i64 0,.int .i64 0,.int .i64 0,.int .i64 1] 188);refine W.drawn aN L F ?_;refine .run' [0,2,3,4,5] rfl (.u 1 rfl (Vf.Ie rfl Tryz.underlying186 Qj V) (.u 6 rfl (Vf.l rfl (u9)) (.a 7 rfl (Ef.Vu (c:=#[Value.int .i64 x0,.int .i64 e,.int .i64 x2,.int .i64 x3,.int .i64 x4,.int .i64 0,.int .i64 0,.int .i64 0,.int .i64 0,.int .i64 0,.int .i64 0,.int .i64 1]) rfl rfl rfl rfl (YC.sl (d.bl.h0.le F) df rfl) s3 u6 (by rw[gY df];show 5+_ * 2<=12;omega) (λu hu=>by obtain⟨a,_,hu⟩:=tp.1 hu;exact iz a u hu)) ((by rintro _ _ _ ⟨rfl,rfl,rfl⟩;exact⟨aG F H _,rfl,.inl rfl⟩)) ?_)));rintro _ _ _ ⟨rfl,rfl,rfl⟩;refine .fin O ?_;refine .g O ?_;rw[hz,abY k s3] at *;refine .loop (λt E B L'=>∃i:Nat,t=I.length - i/\i<=I.length/\Le L L'/\L' S=some (.cells (cG h (cx b h (I.take i)) 1).toArray 188 (0,0),true)/\E=[(0,.v (pt bb)),(4,.p 0 0),(6,.p 1 0),(7,.v (pt S)),(23,.v (.slice pa I.length pc)),(24,.v (.int .i64 I.length)),(25,.v (.int .i64 i))]/\B=[some ⟨(kD h).map .v,185⟩,some ⟨cL (.v W7.z),188⟩]) ⟨0,rfl,M,aG F H _,aj _ _ _,rfl,rfl⟩ rj (by rw[he];exact⟨rfl,rfl,aE⟩) ?_ O (gV _ _ O)
 rintro _ _ _ L1 ⟨i,rfl,hi,Q,T,rfl,rfl⟩ again;clear u6 F;refine .I O (λd1=>W.go 99 O ?_) (λd1=>W.go 99 O ?_)
 ·have hi:i<I.length:=by simpa using d1
  have hx:=bX hi;have R:I.take (i+1)=I.take i++[I[i]]:=ja hi;obtain⟨pan,J,th,hq,q1,q2,q3⟩:=ads (u5 _ (fY hi));obtain⟨a,rfl⟩:=u4.addr hi;have u7:(cx b h (I.take i)).length=b.bq.length:=qS _ _ _;obtain⟨s,hs⟩:∃s,(cx b h (I.take i))[pan]?=some s:=⟨_,bX M⟩;rw[hq] at hx R;have u1:=d.le Q;refine .u O (Vf.j O O (hi)) (.G O (Vf.q O ((u4.le Q).whole hx O)) (.g O (.f (.run' [0,1,2,4,6,7,8,9,11] O (.u 5 O (Vf.zR O O O O O (kr k)) ?_)))));refine .w 3 O O (ac7 bb b p m th _ u1 ok q3) ?_;rintro _ _ ⟨rfl,G⟩;have q0:=u1.le G;rename_i g;have K:=G _ _ T;refine .w 10 O O (abE bb b p m h pan J _ q0 ok hh q1 q2) ?_;rintro _ _ ⟨rfl,rfl⟩;refine .a 12 rfl (Ef.lG rfl) dV ?_;rintro _ _ _ ⟨rfl,rfl,rfl⟩;refine .run' [13] O (.fin O (.g O ?_));have hm:=Bg ok hh q1 J;have f:=JM ok q3;have w1:IntKind.i64.wrap ((gL b th).lo - eW b h pan J)=(gL b th).lo - eW b h pan J:=wrap64_in _ M M;have w2:IntKind.i64.wrap ((gL b th).hi - eW b h pan J)=(gL b th).hi - eW b h pan J:=wrap64_in _ M M;refine .f (.run' [0,1,2,3,4,7,8,9,10,11,12,13,14,15,17] rfl (.u 5 rfl (Vf.qj rfl rfl rfl rfl rfl rfl ((show pan<3 by omega))) (.a 6 rfl (Ef.val rfl (Vf.q rfl (Vo K k hs))) dV ?_)));rintro _ _ _ ⟨rfl,rfl,rfl⟩;refine .w 16 O O (afz s ⟨IntKind.i64.wrap ((gL b th).lo - eW b h pan J),IntKind.i64.wrap ((gL b th).hi - eW b h pan J)⟩ _) ?_;rintro _ _ ⟨rfl,rfl⟩;rw[w1,w2];refine .u 18 rfl (Vf.qj rfl rfl rfl rfl rfl rfl ((show pan<3 by omega))) (.a 19 rfl (Ef.BX (b:=S) (off:=5+pan * 2) rfl ⟨_,rfl,rfl⟩ rfl (by rw[bM,bM,jJ]) K rfl (by show 5+pan * 2+2<=(cG _ _ _).length;rw[xn k M];omega) (iz _)) dV ?_);rintro _ _ _ ⟨rfl,rfl,rfl⟩;refine .fin O ?_;refine .g O ?_;have D:bY (cG h (cx b h (I.take i)) 1).toArray (5+pan * 2) (cJ (iD s ⟨(gL b th).lo - eW b h pan J,(gL b th).hi - eW b h pan J⟩))=(cG h (cx b h (I.take (i+1))) 1).toArray:=by
   rw[aeI k M 1 M,R,ZU,Hb _ (by exact hs)]
   rfl
  exact .again (again _ _ _ _ M ⟨i+1,rfl,M,aG (Q.trans G) H _,Q2,rfl,rfl⟩) (by exact⟨rfl,rfl,rfl,rfl,rfl,rfl,aJ some (cr M),aE⟩) kO O (gV _ _ O)
 ·have q4:i=I.length:=by simp at d1;omega
  subst q4;rw[lK] at T;clear again;have u7:(cx b h I).length=b.bq.length:=qS _ _ _;have w:=AV ok hh u5 (CY ok);have w:∀s∈cx b h I,HK s:=w;have u1:=d.le Q;refine .u O (Vf.l O (u1.cell 0 _ O)) (.g O ?_);refine .loop (λt E B L'=>∃j:Nat,t=b.bq.length - j/\j<=b.bq.length/\Le L L'/\L' S=some (.cells (cG h (cx b h I) (fV (((cx b h I).take j).map dM))).toArray 188 (0,0),true)/\E=[(0,.v (pt bb)),(4,.p 0 0),(6,.p 1 0),(7,.v (pt S)),(65,.v (.int .i64 b.bq.length)),(66,.v (.int .i64 j))]/\B=[some ⟨(kD h).map .v,185⟩,some ⟨cL (.v W7.z),188⟩]) ⟨0,rfl,M,Q,T,rfl,rfl⟩ uU kO ?_ O (gV _ _ O)
  rintro _ _ _ g ⟨j,rfl,hj,G,K,rfl,rfl⟩ again;clear T Q;refine .I O (λd2=>W.go 99 O ?_) (λd2=>W.go 99 O ?_)
  ·have hj:j<b.bq.length:=by simpa using d2
   have u2:(cx b h I)[j]?=some (cx b h I)[j]:=bX M;have o:=w _ (fY (show j<(cx b h I).length by omega));generalize(cx b h I)[j]=s at u2 o;refine .f (.run' [0,2,3] O (.u 4 O (Vf.qj O O O O O O ((show j<3 by omega))) ?_));have u3:=Ya o;have u8:=adN (l:=((cx b h I).take j).map dM) bU (λx hx=>by
    obtain⟨y,hy,rfl⟩:=fK.1 hx;exact Ya (w y (yo hy)))
   have q9:0<=fV (((cx b h I).take j).map dM) *dM s/\fV (((cx b h I).take j).map dM) *dM s<=68921 * 41:=⟨BA u8.1 u3.1,Dx u8.2 u3.2 u3.1 V⟩;have R:fV (((cx b h I).take (j+1)).map dM)=fV (((cx b h I).take j).map dM) *dM s:=by
    rw[IS,u2,iq,Option.toList_some,iH,nG,Hi]
   unfold HK at o;refine DD.IG 1 5 rfl rfl rfl rfl rfl rfl rfl rfl (Ef.val rfl (Vf.l rfl (abZ K k M))) (Ef.val rfl (Vf.q rfl (Vo K k u2))) dV dV ?_ ?_
   ·rintro _ _ _ ⟨rfl,rfl,rfl⟩;refine .a 5 rfl (Ef.val rfl (Vf.q rfl (Vo K k u2))) dV ?_;rintro _ _ _ ⟨rfl,rfl,rfl⟩;refine .w 6 O O (CP s _ M M M M) ?_;rintro _ _ ⟨rfl,rfl⟩;refine .run' [7,8] rfl (.a 9 rfl (Ef.eR (b:=S) (off:=11) rfl ⟨_,rfl,rfl⟩ rfl K rfl (by show 11+1<=(cG _ _ _).length;rw[xn k M];omega) (bQ rfl)) dV ?_);rintro _ _ _ ⟨rfl,rfl,rfl⟩;refine .fin O ?_;refine .g O ?_;have D:bY (cG h (cx b h I) (fV (((cx b h I).take j).map dM))).toArray 11 [.int .i64 (IntKind.i64.wrap (fV (((cx b h I).take j).map dM) *dM s))]=(cG h (cx b h I) (fV (((cx b h I).take (j+1)).map dM))).toArray:=by
     rw[wrap64_in _ M M,O7 k M,R]
    exact .again (again _ _ _ _ M ⟨j+1,rfl,M,aG G H _,Q2,rfl,rfl⟩) (by exact⟨rfl,rfl,rfl,rfl,rfl,aJ some (cr M),aE⟩) kO O (gV _ _ O)
   ·rintro _ _ _ ⟨rfl,rfl,rfl⟩;refine DD.IG 1 6 rfl rfl rfl rfl rfl rfl rfl rfl (Ef.val rfl (Vf.l rfl (abZ K k M))) (Ef.call rfl (CP s _ M M M M)) dV YI ?_ ?_
    ·rintro _ _ _ ⟨rfl,rfl,rfl⟩;refine .w 6 O O (CP s _ M M M M) ?_;rintro _ _ ⟨rfl,rfl⟩;refine .run' [7,8] rfl (.a 9 rfl (Ef.eR (b:=S) (off:=11) rfl ⟨_,rfl,rfl⟩ rfl K rfl (by show 11+1<=(cG _ _ _).length;rw[xn k M];omega) (bQ rfl)) dV ?_);rintro _ _ _ ⟨rfl,rfl,rfl⟩;refine .fin O ?_;refine .g O ?_;have D:bY (cG h (cx b h I) (fV (((cx b h I).take j).map dM))).toArray 11 [.int .i64 (IntKind.i64.wrap (fV (((cx b h I).take j).map dM) *dM s))]=(cG h (cx b h I) (fV (((cx b h I).take (j+1)).map dM))).toArray:=by
      rw[wrap64_in _ M M,O7 k M,R]
     exact .again (again _ _ _ _ M ⟨j+1,rfl,M,aG G H _,Q2,rfl,rfl⟩) (by exact⟨rfl,rfl,rfl,rfl,rfl,aJ some (cr M),aE⟩) kO O (gV _ _ O)
    ·rintro _ _ _ ⟨_,rfl,rfl,rfl,rfl⟩;refine .a 1 rfl (Ef.val rfl (Vf.l rfl (abZ K k M))) dV ?_;rintro _ _ _ ⟨rfl,rfl,rfl⟩;refine .run' [7,8] rfl (.a 9 rfl (Ef.eR (b:=S) (off:=11) rfl ⟨_,rfl,rfl⟩ rfl K rfl (by show 11+1<=(cG _ _ _).length;rw[xn k M];omega) (bQ rfl)) dV ?_);rintro _ _ _ ⟨rfl,rfl,rfl⟩;refine .fin O ?_;refine .g O ?_;have D:bY (cG h (cx b h I) (fV (((cx b h I).take j).map dM))).toArray 11 [.int .i64 (IntKind.i64.wrap (fV (((cx b h I).take j).map dM) *dM s))]=(cG h (cx b h I) (fV (((cx b h I).take (j+1)).map dM))).toArray:=by
      rw[wrap64_in _ M M,O7 k M,R]
     exact .again (again _ _ _ _ M ⟨j+1,rfl,M,aG G H _,Q2,rfl,rfl⟩) (by exact⟨rfl,rfl,rfl,rfl,rfl,aJ some (cr M),aE⟩) kO O (gV _ _ O)
  ·have q5:j=b.bq.length:=by simp at d2;omega
   subst q5;rw[<-u7,lK] at K;have q6:∀u∈cG h (cx b h I) (fV ((cx b h I).map dM)),single u=true:=λu hu=>by
    unfold cG kD uC at hu;rcases fg.1 hu with hu | hu
    ·obtain⟨z,_,rfl⟩:=fK.1 hu;rfl
    ·rcases fg.1 hu with hu | hu
     ·obtain⟨a,_,hu⟩:=tp.1 hu;exact iz a u hu
     ·cases dJ.1 hu;rfl
   refine .u O (Vf.q O (dU K (xn k M))) ?_;refine .fL O O (Ef.adV O O O O (xn k M) O q6) ?_;rintro _ _ _ ⟨rfl,rfl,rfl⟩;refine .de [] 2 O ?_;exact W.Yj r O O O O O O (xn k M) ⟨rfl,G⟩
abbrev Pf(x:HG):List Value:=[.agg (px x).toArray]
def GS(b:Bl)(ps:jA)(l:aH):List HG:=((ov (b.bV.drop l)).map λt=>(l++t,cx b (l++t) ps)).filter λx=>decide (eo x.2≠0)
def Ca(b:Bl)(ps:jA)(l:aH)(s:ei)(j:Nat):List HG:=(List.range j).flatMap λ(n:Nat)=>GS b ps (l++[s.lo+n])
def abd{b:Bl}{u:jA}(h:l.length=b.bV.length):GS b u l=if eo (cx b l u)≠0 then[(l,cx b l u)] else[]:=by
 unfold GS;rw[nX M];unfold ov;simp only[iH,nG,pf,yV,List.filter_nil]
 split <;> split <;> simp_all
theorem abe{b:Bl}{u:jA}{s:ei}(h:b.bV[l.length]?=s):GS b u l=Ca b u l s (s.hi - s.lo+1).toNat:=by
 let hd:b.bV.drop l=s::b.bV.drop (l+1):=by
  let⟨o,q⟩:=eO.1 h;rw[lj o,q]
 unfold Ca GS;rw[hd,ov];unfold nN;rw[List.flatMap_map,List.map_flatMap,List.filter_flatMap]
 congr 1
 funext n
 rw[eX,mW,yW]
 congr 1
 apply yX;intro t _;simp
def MI(b:Bl)(u:jA)(l:aH)(s:ei)(j:Nat):Ca b u l s (j+1)=Ca b u l s j++GS b u (l++[s.lo+(j:Int)]):=by
 unfold Ca;rw[nI,ze];simp
def U3(b:Bl)(u:jA)(l:aH)(s:ei)(h:n<k):∃r,Ca b u l s k=Ca b u l s n++(GS b u (l++[s.lo+(n:Int)])++r):=by
 refine⟨((List.range' (n+1) (k - n - 1)).flatMap λ(c:Nat)=>GS b u (l++[s.lo+c])),?_⟩;unfold Ca;rw[Et h,ze,rT]
structure GK(bs bp bf bb:Nat)(b:Bl)(p:BP)(m:Nat)(pa:Option Addr)(pc:Nat)(ps:List sA)(f:ei)(L:LH):Prop where
 c1:L.cell? ⟨bs,0,none⟩=some (pt bb)
 c2:L.cell? ⟨bp,0,none⟩=some (.slice pa ps.length pc)
 c3:cD L ⟨bf,0,none⟩ 2 (cJ f)
 bo:vh L bb b p m
 sl:bz L pa 3 ju ps
def GK.le{a u:Nat}{b:Bl}{p:BP}{q:Nat}{l:jA}{f:ei}(h:GK n k a u b p m d q l f L)(o:Le L R):GK n k a u b p m d q l f R:=
 ⟨o.cell h.c1,o.cell h.c2,o.cD h.c3,h.bo.le o,h.sl.le o⟩
abbrev zJ(l:List Int):List Value:=l.map (Value.int .i64)
def VT(l:aH):l.flatMap bL=zJ l:=by
 induction l with
 | nil=>rfl
 | cons a l u=>rw[rT,u];rfl
def aao{v:Value}(h:dB L 1 3 (.slice d n k) l.length (zJ l) o):bK L d l:=by
 let⟨q,u,e,_⟩:=h.slice;cases e;exact dB.at (by rwa[VT]) aY
abbrev VO(bs bp by_ bf bg:Nat):Value:=.func (.func 216) #[] #[pt bs,pt bp,pt by_,pt bf,pt bg]
def dB.fewer{q:bA}{a b:Nat}{v:Value}(h:dB L 1 3 (.slice q n a) (k+1) (j++[v]) (some b))(z:d=some ⟨b,0,none⟩)(g:a=m)(f:j=k):dB L 1 3 (.slice d k m) k j b:=by
 let⟨t,c,r,y,p,w,l,u⟩:=h;cases r;subst z g;exact⟨_,c,rfl,y,p,M,M,λi x o=>u i x (by rwa[kS (eO.1 o).1])⟩
def aje(h:l.length<=5):bY #[Value.int .i64 0,.int .i64 0,.int .i64 0,.int .i64 0,.int .i64 0] 0 (l.flatMap bL)=(kD l).toArray:=by
 match l,h with
 | [],_=>rfl
 | [a],_=>rfl
 | [a,b],_=>rfl
 | [a,b,c],_=>rfl
 | [a,b,c,d],_=>rfl
 | [a,b,c,d,e],_=>rfl
def OK(J:Q7)(ai:sW)(F:LH)(v:Value)(l:aH)(ob:bD)(pre:oT)(u:Value)(L':LH):Prop:=
 (u=true/\∃G',dB G' 1 3 v l.length (zJ l) ob/\(∀b',G' b'≠none->ob=b')/\nq J (F.join G') pre L')\/(u=false/\Gz ai F L')
theorem VP{b:Bl}{p:BP}{bs bp y bf bg:Nat}{pc:Nat}{I:jA}{f:ei}{yv:Value}{xs:oT}{J:Q7}{ai:sW}(s:nU b)(j:∀q∈I,eU b q=0)(u4:I.length<=1000)(u1:Yl X yv Pf xs (GK bs bp bf k b p m d pc I f) J ai)
  (l:aH)(ad:bA)(R:Nat)(ob:bD)(D e:oT)(F G L:LH)(u5:F.cell? ⟨y,0,none⟩=some yv)(hn:l.length=b.bV.length)(o:Hs b l)
  (ho:dB G 1 3 (.slice ad l.length R) l.length (zJ l) ob)(hG:∀H,G H≠none->ob=some H)(hF:∀H,ob=some H->F H=none)(hx:xs=D++GS b I l++e)(i:nq J (F.join G) D L):
  Sp X 216 [.slice ad l.length R,pt bs,pt bp,pt y,pt bf,pt bg] L (OK J ai F (.slice ad l.length R) l ob (D++GS b I l)):=by
 have hY:=u1.frame (λ_ _ o h=>GK.le h o) (F.join G);have S:=hY.inv _ _ i;have h5:=o.l5;have T:Le F (F.join G):=kM;have g:Le G (F.join G):=uF T (λH x hx=>by
  have hb:=hG H F0;unfold LH.join;rw[hF H hb];exact hx)
 have hi:bK L ad l:=(aao (v:=.bool true) ho).le (g.trans S.2);have u8:=AV s o j (CY s);rw[abd hn] at hx ⊢;refine Sp.e (n:=64) Tryz.func216 O λC hX u9 r=>?_;refine .G O (Vf.l O (S.1.c1)) (.G O (Vf.l O (S.1.bo.cell 3 _ O)) (.N O ?_ bU));refine .g O (.cz 8 (.inl ⟨_,rfl⟩) O O ?_);intro b8 t _;refine .g rfl (.u rfl (Vf.Ie rfl Tryz.underlying185 wm V) (.g rfl (.e rfl (Ef.Vu (c:=#[Value.int .i64 0,.int .i64 0,.int .i64 0,.int .i64 0,.int .i64 0]) rfl rfl rfl rfl (YC.sl (hi.le (Le.put t _)) aY rfl) h5 (aj _ _ _) (by rw[gY aY];show 0+_ * 1<=5;omega) (λu hu=>by obtain⟨a,_,hu⟩:=tp.1 hu;exact gf a u hu)) ?_)));rintro _ _ _ ⟨rfl,rfl,W⟩;rename_i L2;have K:Le L L2:=by rw[W];exact aG (Le.put t _) t _
 have u6:L2 b8=some (.cells (kD l).toArray 185 (0,0),true):=by rw[W,aje h5];exact aj _ _ _
 clear W;refine .G O (Vf.l O (K.cell S.1.c1)) (.G O (Vf.q O (dU u6 (kr h5))) (.G O (Vf.l O (K.cell S.1.c2)) (.g O ?_)));refine .c O (acG k b p m l d pc I _ (S.1.bo.le K) s o (S.1.sl.le K) j u4) ?_;rintro _ _ ⟨rfl,u2⟩;rename_i L3;have B:=i.mono (K.trans u2);have E:(cx b l I).length<=3:=by rw[qS];exact s.s3
 have Q:(px (l,cx b l I)).length=12:=ZE h5 E;have u7:∀u∈px (l,cx b l I),single u=true:=λu hu=>by
  unfold px kD uC at hu;rcases fg.1 hu with hu | hu
  .obtain⟨z,_,rfl⟩:=fK.1 hu;rfl
  .rcases fg.1 hu with hu | hu
   .obtain⟨a,_,hu⟩:=tp.1 hu;exact iz a u hu
   .cases dJ.1 hu;rfl
 have u3:nth ((px (l,cx b l I)).map SV.v) 11=some (.v (.int .i64 (eo (cx b l I)))):=by
  rw[dF,im];have:(px (l,cx b l I))[11]?=some (.int .i64 (eo (cx b l I))):=by
   unfold px;rw[lh (by rw[kr h5];omega),kr h5,lh (by rw[xu E];omega),xu E];rfl
  rw[this];rfl
 refine .go 1 O ?_;refine .fL O O (Ef.adV O O O O Q O u7) ?_;rintro _ _ _ ⟨rfl,rfl,rfl⟩;refine .de [29] 99 O (.u O (Vf.vZ O O O O (by exact u3)) (.g O ?_));have w:∀c:Bool,(eo (cx b l I)==0)=c->(if eo (cx b l I)≠0 then[(l,cx b l I)] else[])=if c then[] else[(l,cx b l I)]:=λc hc=>by
  cases c
  .rw[ax (by simpa using hc)];rfl
  .rw[A (by simpa using hc)];rfl
 refine .s O (λc1=>?_) (λc1=>?_)
 .refine .D r O ?_;rw[w _ c1];exact .inl ⟨rfl,G,ho,hG,by simpa using B⟩
 .rw[w _ c1] at hx;refine .de [33] 99 O (.u O (Vf.l O ((T.trans (hY.inv _ _ B).2).cell u5)) (.u O (Vf.zR O O O O O (by exact Q)) (.g O ?_)));obtain⟨yf,yt,yc,rfl⟩:=u1.fn;have hy:=hY.yl D (l,cx b l I) e _ F0 B;rw[<-hX] at hy;refine .e O (Ef.uz O O O hy) ?_;rintro _ _ _ ⟨_,rfl,rfl,hq⟩;rcases hq with⟨rfl,hq⟩ | ⟨rfl,hq⟩
  .refine .D r O ?_;rw[w _ c1];exact .inl ⟨rfl,G,ho,hG,hq⟩
  .refine .D r O ?_;obtain⟨M1,g1,g2,g3⟩:=hq;exact .inr ⟨rfl,M1,g1,g2,T.trans g3⟩
def acL{b:Bl}(u:nU b){s:ei}{x:Int}(a:b.bV[l.length]?=s)(o:l.length<=5/\∀x∈l,0<=x/\x<=4)(q:s.lo<=x)(z:x<=s.hi):(l++[x]).length<=5/\∀y∈l++[x],0<=y/\y<=4:=by
 let e:=(eO.1 a).1;have:=u.h5;let d:=u.hb s (fZ a);refine⟨QF,λy g=>?_⟩;rcases fg.1 g with g | g
 .exact o.2 y g
 .cases dJ.1 g;omega
def OK.le{c:Q7}{ai:sW}{v:Value}{m:oT}{u:Value}(h:OK c ai R v l o m u J)(n:Le L R):Le L J:=by
 rcases h with⟨_,G',_,_,L1,_,_,h3,_⟩ | ⟨_,L1,_,_,h3⟩
 .exact n.trans (kM.trans h3)
 .exact n.trans h3
def _root_.Go.Mz.UP.le2{v:aX}(h:UP B L k e n j o z v R)(q:Le J L)(d:∀b,o=some b->J b=none):Le J R/\v=B:=by
 obtain⟨c,u,rfl,rfl,_,⟨rfl,_⟩ | ⟨i,c1,rfl,rfl,⟨rfl,_⟩ | r⟩⟩:=h
 .exact⟨q,rfl⟩
 .exact⟨aG q (d _ O) _,rfl⟩
 .exact⟨q.trans (Le.put r _),rfl⟩
def afa{b:Bl}{p:BP}{bp R bf bg:Nat}{pc:Nat}{S:jA}{f:ei}{yv:Value}{xs:oT}{J:Q7}{ai:sW}(ok:nU b)(hf:b.bV[0]?=some f)(v8:∀q∈S,eU b q=0)(v9:S.length<=1000)(q7:Yl X yv Pf xs (GK k bp bf n b p m d pc S f) J ai):
  ∀(g:Nat) (l:aH) (ad:bA) (D:Nat) (ob:bD) (I post:oT) (F G L:LH),F.cell? ⟨R,0,none⟩=yv->F.cell? ⟨bg,0,none⟩=VO k bp R bf bg->l.length+g=b.bV.length->(l.length<=5/\∀x∈l,0<=x/\x<=4)->
  dB G 1 3 (.slice ad l.length D) l.length (zJ l) ob->(∀H,G H≠none->ob=H)->(∀H,ob=some H->F H=none)->xs=I++GS b S l++post->nq J (F.join G) I L->
  Sp X 216 [.slice ad l.length D,pt k,pt bp,pt R,pt bf,pt bg] L (OK J ai F (.slice ad l.length D) l ob (I++GS b S l)):=by
 intro g
 induction g with
 | zero=>
  intro l ad D ob I post F G L w a hn o ho hG hF hx hJ;exact VP ok v8 v9 q7 l ad D ob I post F G L w M ⟨M,o.1,o.2⟩ ho hG hF hx hJ
 | succ g ih=>
  intro l ad D ob I post F G L w a hn o ho hG hF hx hJ;have hY:=q7.frame (λ_ _ o h=>GK.le h o);have hK:=(hY (F.join G)).inv _ _ hJ;have q2:l.length<b.bV.length:=M
  obtain⟨s,hs⟩:∃s,b.bV[l.length]?=some s:=⟨_,bX q2⟩;obtain⟨z7,z8,z9⟩:=ok.hb s (fZ hs);rw[abe hs] at hx ⊢;obtain⟨N,hN⟩:∃N:Nat,s.hi - s.lo+1=(N:Int):=⟨(s.hi - s.lo+1).toNat,M⟩;rw[hN,kT] at hx ⊢;have d0:Le F (F.join G):=kM;refine Sp.e (n:=64) Tryz.func216 O λC hX d2 r=>?_;refine .G O (Vf.l O (hK.1.c1)) (.G O (Vf.l O (hK.1.bo.cell 3 _ O)) (.K O ?_ bU));refine .G O (Vf.l O (hK.1.c1)) (.G O (Vf.l O (hK.1.bo.cell 3 _ O)) (.g O ?_));have h3:=hK.1.bo.bl.h3;obtain⟨ah,q8⟩:=h3.addr q2;rw[q8] at h3;obtain⟨a0,a1,a2,a3,a4,k0,k1,k2,k3,k4⟩:=p;obtain rfl:a3=some ah:=q8;refine .u O (Vf.j O O (q2)) (.G O (Vf.q O (h3.whole hs O)) (.g O ?_));refine W.agt (λE B L'=>gR E [(0,.v (.slice ad l.length D)),(1,.v (pt k)),(2,.v (pt bp)),(3,.v (pt R)),(4,.v (pt bf)),(5,.v (pt bg)),(10,.p 0 0)]/\mV B [some ⟨(cJ s).map .v,88⟩]/\L=L') ?_ ?_
  .rintro E B _ ⟨hE,hB,rfl⟩;refine .kI hE hB ?_;refine .g O ?_;refine .l (λm' E B L'=>∃(j:Nat) (G:LH) (x:Int),x=s.lo+(j:Int)/\j<=N/\m'=N - j/\dB G 1 3 (.slice ad l.length D) l.length (zJ l) ob/\(∀H,G H≠none->ob=some H)/\nq J (F.join G) (I++Ca b S l s j) L'/\E=[(0,.v (.slice ad l.length D)),(1,.v (pt k)),(2,.v (pt bp)),(3,.v (pt R)),(4,.v (pt bf)),(5,.v (pt bg)),(10,.p 0 0),(11,.v (.int .i64 x))]/\B=[some ⟨(cJ s).map .v,88⟩]) ⟨0,G,s.lo,U,M,rfl,ho,hG,by simpa [Ca] using hJ,rfl,rfl⟩ ?_
   rintro _ _ _ L2 ⟨j,G2,x,q3,hj,rfl,T,i,u4,rfl,rfl⟩ again;have u5:=(hY (F.join G2)).inv _ _ u4;refine .I O (λd1=>W.go 99 O ?_) (λd1=>W.go 99 O ?_)
   .have q9:j+1<=N:=by simp at d1;omega
    have v0:=acL ok hs o (x:=x) M (by simp at d1;omega);have u2:Le F L2:=kM.trans u5.2;have u1:Le F (F.join G2):=kM;have v2:Le G2 (F.join G2):=uF u1 (λH y hy=>by
     have hb:=i H (by rw[hy];simp);unfold LH.join;rw[hF H hb];exact hy)
    refine W.drawn aN F u2 ?_;refine .run' [1,2,3] O (.u 0 O (Vf.l O (a)) ?_);have z1:=o.1;refine .a 4 O (Ef.nc (len:=l.length) (m:=1) (cs:=zJ l) (vs:=[.int .i64 x]) O O O O O O O O O (by intro u hu;cases dJ.1 hu;rfl) (T.le (v2.trans u5.2)) (.own O O O O) M) ((λ_ _ _ h=>⟨(h.le2 u2 hF).1,aJ List.length (h.le2 u2 hF).2,.inl (aJ (List.take _) (h.le2 u2 hF).2)⟩)) ?_;rintro _ _ _ ⟨v1,d3,rfl,rfl,u6,z2⟩;have Q:(l++[x]).length=l.length+1:=U
    have q4:zJ (l++[x])=zJ l++[.int .i64 x]:=U
    obtain⟨q5,q0⟩:=U3 b S l s (show j<N by omega);rw[<-q3] at q0;have v4:xs=(I++Ca b S l s j)++GS b S (l++[x])++(q5++post):=by rw[hx,q0];simp only[tq]
    obtain⟨u7,t,rfl,_⟩:=u6.slice;rcases z2 with⟨rfl,rfl,rfl⟩ | ⟨b1,c1,rfl,rfl,⟨rfl,c0,hc0,hsz⟩ | SX⟩
    .obtain⟨_,h0,_⟩:=u6;omega
    .have u8:=hF _ rfl;have u9:dB (vb.put b1 (.cells c1 3)) 1 3 (.slice u7 (l.length+1) t) (l.length+1) (zJ l++[.int .i64 x]) (some b1):=u6.keep λH K=>by cases K;rw[aj,aj]
     have v5:G2 b1≠none:=by
      obtain⟨_,c,_,z,_⟩:=id T;rw[z];simp
     have v6:F.join G2 b1≠none:=by
      unfold LH.join;rw[u8];exact v5
     have q6:nq J (F.join (vb.put b1 (.cells c1 3))) (I++Ca b S l s j) (L2.put b1 (.cells c1 3)):=(u4.set v6 (.cells c1 3)).less (join_le (aG u1 u8 _) (zO (ij _) _ _));have u3:=ih (l++[x]) u7 t (some b1) (I++Ca b S l s j) (q5++post) F (vb.put b1 (.cells c1 3)) (L2.put b1 (.cells c1 3)) w a M v0 (by rw[Q,q4];exact u9)
      (λH K=>by
       by_cases e:H=b1
       .rw[e]
       .exact ar (by rw[aB _ _ e];rfl) K) (λH K=>by cases K;exact u8) v4 q6
     rw[Q,<-hX] at u3;refine .a 5 rfl (Ef.uz rfl rfl rfl (Sp.LJ (f1:=[]) (f2:=[pt k,pt bp,pt R,pt bf,pt bg]) u3)) ((by rintro _ _ _ ⟨_,rfl,rfl,hq⟩;exact⟨hq.le (Le.refl _),rfl,.inl rfl⟩)) ?_;rintro _ _ _ ⟨_,rfl,rfl,hq⟩;rcases hq with⟨rfl,G3,ho4,hG4,hJ4⟩ | ⟨rfl,hq⟩
     .refine .run' [6] O (.fin O (.K O (.g O ?_)));rw[Q,q4] at ho4;have z3:ad=some ⟨b1,0,none⟩:=by
       obtain⟨_,_,h1,_⟩:=id T;cases h1;rfl
      have v7:t=D:=by
       obtain⟨_,cc,h1,z,h3,_⟩:=id T;cases h1;obtain⟨_,cd,g1,g2,g3,_⟩:=id u9;cases g1;rw[aj] at g2;cases g2;have:=(v2.trans u5.2) _ _ z;rw[hc0] at this;cases this;omega
      exact .a (again _ _ _ _ M ⟨j+1,G3,x+1,by push_cast;omega,q9,rfl,ho4.fewer z3 v7 U,hG4,by rw[MI,<-q3,<-tq];exact hJ4,rfl,rfl⟩) (by exact⟨rfl,rfl,rfl,rfl,rfl,rfl,rfl,aJ some (Ra O M M),aE⟩)
     .refine .run' [6] O (.fin O (.N O (.D r O ?_)));exact .inr ⟨rfl,hq⟩
    .have q1:F.join G2 b1=none:=bN u5.2 SX;have u8:F b1=none:=bN u2 SX;have u9:dB (vb.put b1 (.cells c1 3)) 1 3 (.slice u7 (l.length+1) t) (l.length+1) (zJ l++[.int .i64 x]) (some b1):=u6.keep λH K=>by cases K;rw[aj,aj]
     have q6:nq J ((F.join G2).join (vb.put b1 (.cells c1 3))) (I++Ca b S l s j) (L2.put b1 (.cells c1 3)):=(u4.put SX (.cells c1 3)).less (join_le (Le.put q1 _) (zO (ij _) _ _));have u3:=ih (l++[x]) u7 t (some b1) (I++Ca b S l s j) (q5++post) (F.join G2) (vb.put b1 (.cells c1 3)) (L2.put b1 (.cells c1 3)) (u1.cell w) (u1.cell a) M v0 (by rw[Q,q4];exact u9)
      (λH K=>by
       by_cases e:H=b1
       .rw[e]
       .exact ar (by rw[aB _ _ e];rfl) K) (λH K=>by cases K;exact q1) v4 q6
     rw[Q,<-hX] at u3;refine .a 5 rfl (Ef.uz rfl rfl rfl (Sp.LJ (f1:=[]) (f2:=[pt k,pt bp,pt R,pt bf,pt bg]) u3)) ((by rintro _ _ _ ⟨_,rfl,rfl,hq⟩;exact⟨hq.le u1,rfl,.inl rfl⟩)) ?_;rintro _ _ _ ⟨_,rfl,rfl,hq⟩;rcases hq with⟨rfl,G3,ho4,hG4,hJ4⟩ | ⟨rfl,hq⟩
     .refine .run' [6] O (.fin O (.K O (.g O ?_)));exact .a (again _ _ _ _ M ⟨j+1,G2,x+1,by push_cast;omega,q9,rfl,T,i,by rw[MI,<-q3,<-tq];exact hJ4.less kM,rfl,rfl⟩) (by exact⟨rfl,rfl,rfl,rfl,rfl,rfl,rfl,aJ some (Ra O M M),aE⟩)
     .refine .run' [6] O (.fin O (.N O (.D r O ?_)));obtain⟨M1,g1,g2,g3⟩:=hq;exact .inr ⟨rfl,M1,g1,g2,u1.trans g3⟩
   .have z4:j=N:=by simp at d1;omega
    subst z4;refine .r r O ?_;exact .inl ⟨rfl,G2,T,i,u4⟩
  .intro rest;refine .s O (λe1=>?_) (λe1=>?_)
   .have z5:l=[]:=by
     have:l.length=0:=xX
     exact Fg this
    have z6:f=s:=by
     rw[z5] at hs;have:=hf.symm.trans hs;cases this;rfl
    refine .G O (Vf.q O (hK.1.c3)) (.go 2 O ?_);refine rest _ _ _ ⟨rj,(by rw[<-z6];exact⟨rfl,aE⟩),rfl⟩
   .refine .go 2 O ?_;refine rest _ _ _ ⟨rj,sV,rfl⟩
def Xx(b:Bl)(l:jA):GS b l []=cH b l:=by
 unfold GS cH;simp[List.length_nil,List.drop_zero,yp]
def G5{b:Bl}{p:BP}{v t a:Nat}{Q:Nat}{l:jA}{f:ei}(R:nU b)(S:b.bV[0]?=some f)(j:∀q∈l,eU b q=0)(g:l.length<=1000):
  Iter X 215 [pt v,pt t,pt a] Pf (cH b l) (GK v t a k b p m d Q l f):=by
 intro yv J ai L z T;obtain⟨w,F,G,rfl⟩:=z.fn;have B:=nq.zero T;refine Sp.e (n:=9) Tryz.func215 O λC E u1 r=>?_;refine .de [5] 99 O (.cz 4 (.inl ⟨_,rfl⟩) O O ?_);intro o h4 _;refine .de [6] 99 O (.cz 5 (.inl ⟨_,rfl⟩) O O ?_);intro s I _;have i:o≠s:=λe=>by subst e;rw[aj] at I;cases I
 have y:=B.put h4 (.cells #[.func w F G] 358);have K:=y.put I (.cells #[.nilFunc] 63);have D:=K.set (b:=s) QX (.cells #[VO v t o a s] 63);refine .g O ?_;refine .fL O O (Ef.eR O ⟨_,rfl,rfl⟩ O (aj _ _ _) O (dA _) (bQ O)) ?_;rintro _ _ _ ⟨rfl,rfl,rfl⟩;refine .G O (Vf.l O (aF (aj _ _ _) O)) (.g O ?_);have H:=afa (X:=X) R S j g z b.bV [] none 0 none [] [] (((vb.put o (.cells #[.func w F G] 358)).put s (.cells #[.nilFunc] 63)).put s (.cells #[VO v t o a s] 63)) vb _ (aF (by rw[aB _ _ i,aB _ _ i];exact aj _ _ _) rfl) (aF (aj _ _ _) rfl) U ⟨U,λx u=>by cases u⟩ dB.nil (λb' h=>ar rfl h) (λb' h=>by cases h) (by rw[Xx];simp) (D.less (join_le (Le.refl _) (ij _)));rw[<-E] at H;refine .e O (Ef.uz O O O (Sp.LJ (f1:=[]) (f2:=[pt v,pt t,pt o,pt a,pt s]) H)) ?_;rintro _ _ _ ⟨_,rfl,rfl,c⟩;refine .g O ?_;refine W.lM r O O ⟨rfl,?_⟩;rcases c with⟨_,G',_,_,c⟩ | ⟨_,c⟩
 .rw[Xx,yp] at c;exact .inl (c.less (ij _))
 .obtain⟨L1,g1,g2,_⟩:=c;exact .inr ⟨L1,g1,g2,ij _⟩
def NG(b:Nat)(i:bA)(t m:Nat)(f:ei)(L:LH):Sp X 165 [pt b,.slice i t m,.agg (cJ f).toArray] L
  (λv u=>∃g c y,v=.func (.func 215) #[] #[pt g,pt c,pt y]/\Le L u/\u.cell? ⟨g,0,none⟩=some (pt b)/\u.cell? ⟨c,0,none⟩=some (.slice i t m)/\cD u ⟨y,0,none⟩ 2 (cJ f)):=by
 refine Sp.e Tryz.func165 O λC j d r=>(.de [4] 99 O (.cz 3 (.inl ⟨_,rfl⟩) O O ?_));intro q p _;refine .de [5] 99 O (.cz 4 (.inl ⟨_,rfl⟩) O O λo x _=>?_);refine .de [6] 99 O (.cz 5 (.inl ⟨_,rfl⟩) O O λs k _=>?_);let w:q≠o:=λe=>by subst e;rw[aj] at x;cases x
 let a:q≠s:=λe=>by subst e;rw[aB _ _ w,aj] at k;cases k
 let z:o≠s:=λe=>by subst e;rw[aj] at k;cases k
 refine .D r O ⟨q,o,s,rfl,((Le.put p _).trans (Le.put x _)).trans (Le.put k _),aF (by rw[aB _ _ a,aB _ _ w];exact aj _ _ _) O,aF (by rw[aB _ _ z];exact aj _ _ _) O,DL (aj _ _ _)⟩
def oi(xs:oT):Array MapEntry:=(xs.zipIdx.map λz=>{key:=.agg (kD z.1.1).toArray,val:=.agg (px z.1).toArray,born:=z.2}).toArray
def V6(w:oT)(x:HG):oi (w++[x])=(oi w).push {key:=.agg (kD x.1).toArray,val:=.agg (px x).toArray,born:=w.length}:=by
 unfold oi;rw[List.zipIdx_append,iq];simp
def AZ{w:oT}{e:MapEntry}(h:e∈oi w):∃x,w[e.born]?=some x/\e={key:=.agg (kD x.1).toArray,val:=.agg (px x).toArray,born:=e.born}:=by
 obtain⟨z,p,rfl⟩:=fK.1 (zh.1 h);have:=List.mem_zipIdx_iff_getElem?.1 p;exact⟨z.1,this,rfl⟩
def NT{w:oT}{x:HG}(h:w[n]?=some x):(oi w)[n]?=some {key:=.agg (kD x.1).toArray,val:=.agg (px x).toArray,born:=n}:=by
 unfold oi;rw[gq,im,List.getElem?_zipIdx,h];simp
def Sx(h:aH):Value.agg (kD h).toArray=dT (yy 5 h):=rfl
def aap{p:aH}(o:l.length=p.length)(z:yy k l=yy k p):l=p:=by
 unfold yy at z;exact(List.append_inj z o).1
def Sv{x:HG}(q:x.1.length<=5)(f:x.2.length<=3):∃h v g r u o t l s m k i:Int,kD x.1=[.int .i64 h,.int .i64 v,.int .i64 g,.int .i64 r,.int .i64 u]/\
  px x=[.int .i64 h,.int .i64 v,.int .i64 g,.int .i64 r,.int .i64 u,.int .i64 o,.int .i64 t,.int .i64 l,.int .i64 s,.int .i64 m,.int .i64 k,.int .i64 i]:=by
 obtain⟨j,n,y,p,d,z⟩:=oH q;obtain⟨a,b,c,e,_⟩:=H7 f;refine⟨j,n,y,p,d,a.lo,a.hi,b.lo,b.hi,c.lo,c.hi,eo x.2,z,?_⟩;unfold px uC;rw[z,e]
 rfl
def M8{q:x8}{j:Bool}(h:L n=some (.map q k,j)):L.calm n=some (.map q k,j):=by
 unfold LH.calm;rw[h]
def Iq(L L':LH):Prop:=∀a v,L.cell? a=some v->L'.cell? a=some v
def Iq.sl(c:Iq L R)(f:bz L d n h r):bz R d n h r:=λi x u=>let⟨a,q,z⟩:=f i x u;⟨a,q,λj v g=>c _ _ (z j v g)⟩
def Iq.at(h:Iq L R){a:Addr}(b:cD L a n j):cD R a n j:=⟨b.1,λi v g=>h _ _ (b.2 i v g)⟩
def Iq.bl(h:Iq L R){b:Bl}{p:BP}(d:iK L b p):iK R b p:=⟨h.sl d.h0,h.sl d.h1,h.sl d.h2,h.sl d.h3,h.sl d.h4,d.n0,d.n1,d.n2,d.n3,d.n4,d.k4⟩
def Iq.bo(h:Iq L R){b:Bl}{p:BP}(d:vh L n b p m):vh R n b p m:=⟨λi v g=>h _ _ (d.cell i v g),h.bl d.bl⟩
def Iq.gk(h:Iq L R){a u:Nat}{b:Bl}{p:BP}{q:Nat}{l:jA}{f:ei}(g:GK n k a u b p m d q l f L):GK n k a u b p m d q l f R:=⟨h _ _ g.c1,h _ _ g.c2,h.at g.c3,h.bo g.bo,h.sl g.sl⟩
theorem Sb{q:x8}{j:Bool}(h:L n=some (.map q k,j)):Iq L (L.bT n):=λa v g=>AK g (λe=>by
 unfold LH.cell? at g;rw[e,h] at g;cases g)
def afm{a b d e:Int}(t:Bool)(Q:x6)(H:bC)(R:LH):aP Tryz.prog Q H (Instr.checkKey t 10000 185 (.agg #[a,b,c,d,e])) R=Q () R:=by
 kernel_rfl
structure MK(L:LH)(bb:Nat)(b:Bl)(p:BP)(m:Nat):Prop where
 bo:vh L bb b p m
 mp:L m=some (.map (oi (cH b b.proofs)) (cH b b.proofs).length,true)
def MK.le{b:Bl}{p:BP}(h:MK L n b p m)(o:Le L R):MK R n b p m:=⟨h.bo.le o,o _ _ h.mp⟩
def Wh(b:Bl)(p:BP)(L:LH)(h:iK L b p)(s:nU b):Sp X 127 [uw b p] L (λv L'=>∃bb m,v=pt bb/\MK L' bb b p m/\Le L L'):=by
 let⟨f,a⟩:∃f,b.bV[0]?=some f:=⟨_,bX (by have:=s.h1;omega)⟩;have h1:=s.h1;let⟨a0,a1,a2,a3,a4,k0,k1,k2,k3,k4⟩:=p;have u9:=h.h3;let⟨c,q8⟩:=u9.addr (show 0<b.bV.length by omega);obtain rfl:a3=some c:=q8;refine Sp.e Tryz.func127 O λC hX z5 r=>?_;refine .v O (Ef.makeMap) ?_;rintro _ _ _ ⟨J,rfl,rfl,u5,rfl⟩;refine .de [3] 99 O (.cz 8 (.inl ⟨_,rfl⟩) O O ?_);intro w t _;refine .g O (.cz 3 (.inl ⟨_,rfl⟩) O O ?_);intro b3 F _;have u1:J≠w:=λe=>by subst e;rw[aj] at t;cases t
 have k:w≠b3:=λe=>by subst e;rw[aj] at F;cases F
 have G:J≠b3:=λe=>by subst e;rw[aB _ _ u1,aj] at F;cases F
 have B:Le L (((L.put J (.map #[] 0)).put w (.cells (wJ b ⟨a0,a1,a2,some c,a4,k0,k1,k2,k3,k4⟩++[Value.map (some J)]).toArray 183)).put b3 (.cells #[pt w] 106)):=((Le.put u5 _).trans (Le.put t _)).trans (Le.put F _);refine .z (.run' [1,2,3,4] rfl (.u 0 rfl (Vf.l rfl (aF (aj _ _ _) rfl)) (.u 5 rfl (Vf.j rfl rfl (h1)) (.u 6 rfl (Vf.q rfl ((u9.le B).whole a rfl)) (.c 7 rfl rfl (NG w a4 b.proofs.length k4 f _) (by rintro _ _ ⟨_,_,_,rfl,o,_⟩;exact o) ?_)))));rintro _ _ ⟨bs,bp,bf,rfl,I,c1,c2,c3⟩;rename_i L2;have u2:L2 J=some (.map #[] 0,true):=I _ _ (by rw[aB _ _ G,aB _ _ u1];exact aj _ _ _);have q0:L2 b3=some (.cells #[pt w] 106,true):=I _ _ (aj _ _ _);have u3:vh L2 w b ⟨a0,a1,a2,some c,a4,k0,k1,k2,k3,k4⟩ J:=⟨λi v hv=>I.cell (aF (by rw[aB _ _ k];exact aj _ _ _) (by rw[gq];exact hv)),(h.le B).le I⟩;have q1:GK bs bp bf w b ⟨a0,a1,a2,some c,a4,k0,k1,k2,k3,k4⟩ J a4 k4 b.proofs f L2:=⟨c1,c2,c3,u3,u3.bl.h4⟩;have S:=(Sb u2).gk q1;have q9:Le L (L2.bT J):=λb' x hx=>by
  rw[bW (λe=>by subst e;rw[u5] at hx;cases hx)];exact I _ _ (B _ _ hx)
 have T:(L2.bT J) b3=some (.cells #[pt w] 106,true):=by rw[bW G.symm];exact q0
 clear c1 c2 c3 B I u5;refine .fin O ?_;refine .g O ?_;refine W.iter (L2.bT J) (gC _ _) (λK L'=>L' J=some (.map (oi K) K.length,true)) (λ_ _=>False) (G5 s a s.pb (by have:=s.p8;omega)) ⟨_,rfl,rfl,rfl⟩ oO [(16,.v (.func (.func 215) #[] #[pt bs,pt bp,pt bf])),(3,.v (pt b3))] kO O O O
  (λ_ _ _ o h=>o _ _ h) (λ_ _ _ _ h=>h) (λ_ L' o _=>S.le o) (M8 u2) O (λ_=>rfl) ?_ ?_ ?_
 .rintro d l K x post L' q lb hx D hI u6 E v0 g1 g2 C' k1 k2 q2 u7 z3;have v1:x∈cH b b.proofs:=by rw[hx];simp
  obtain⟨m1,m2⟩:=CG v1;have q3:=(s.hs m1).l5;have v2:x.2.length<=3:=by rw[m2,qS];exact s.s3
  obtain⟨y0,y1,y2,y3,y4,y5,y6,y7,y8,y9,v4,v5,e1,e2⟩:=Sv q3 v2;have e3:Pf x=[.agg #[.int .i64 y0,.int .i64 y1,.int .i64 y2,.int .i64 y3,.int .i64 y4,.int .i64 y5,.int .i64 y6,.int .i64 y7,.int .i64 y8,.int .i64 y9,.int .i64 v4,.int .i64 v5]]:=by
   show[Value.agg (px x).toArray]=_;rw[e2]
  have v6:(Value.agg #[.int .i64 y0,.int .i64 y1,.int .i64 y2,.int .i64 y3,.int .i64 y4])=dT (yy 5 x.1):=by rw[<-Sx,e1]
  have v7:(yy 5 x.1).length=5:=by have:=kr q3;unfold kD at this;rw[eT] at this;exact this
  have q4:∀y∈(oi K).toList,∃ys:List Int,ys.length=5/\y.key=dT ys/\ys≠yy 5 x.1:=by
   intro y g;obtain⟨z,hz,v8⟩:=AZ (Array.mem_def.2 g);have q5:z∈K:=fZ hz;have v9:z∈cH b b.proofs:=by rw[hx];exact yT _ q5
   obtain⟨z1,z2⟩:=CG v9;refine⟨yy 5 z.1,?_,by rw[v8];rfl,λe=>?_⟩
   .have:=kr (s.hs z1).l5;unfold kD at this;rw[eT] at this;exact this
   .have hp:=PN b b.proofs;rw[hx] at hp;have:=(IT.1 hp).2.2 z q5 x fC;exact this (aap (by rw[(s.hs z1).len,(s.hs m1).len]) e)
  rw[e3];refine .g O ?_;have z4:b3≠l:=λe=>by subst e;rw[T] at u6;cases u6
  have u4:J≠l:=λe=>by rw[<-e,hI] at g1;cases g1
  have u:J≠d:=λe=>by rw[<-e,hI] at g2;cases g2
  refine q2 _ _ _ λL3 r1 r2=>?_;refine .g O ?_;have q6:L3 J=some (.map (oi K) K.length,true):=by rw[r2 _ u4];exact hI
  have u8:Le (L2.bT J) L3:=λb' y g=>by rw[r2 _ (λe=>by subst e;rw[u6] at g;cases g)];exact D _ _ g
  have q7:=S.le u8;refine W.drawn aN (L3.bT J) (gC _ _) ?_;refine .run' [4,5,6] rfl (.u 0 rfl (Vf.l rfl (aF (by rw[bW G.symm];exact u8 _ _ T) rfl)) (.run' [1,2] rfl (.u 3 rfl (Vf.l rfl (Sb q6 _ _ (q7.bo.cell 5 _ rfl))) (.a 7 rfl (Ef.afy rfl rfl rfl rfl rfl Tryz.underlying181 q6 (λem Q H R=>afm em Q H R) (λQ H R=>by rw[v6];exact D4 Tryz.underlying185 Tryz.underlying3 wm um v7 q4 Q)) ((by rintro _ _ _ ⟨rfl,rfl,rfl⟩;exact⟨wL,rfl,.inl rfl⟩)) ?_))));rintro _ _ _ ⟨rfl,rfl,rfl⟩;refine .fin O ?_;refine .g O ?_;refine u7 _ _ _ _ .nil (by rw[aB _ _ (dG u4)];exact r1) (by rw[aB _ _ (dG u),r2 _ v0.symm];exact g2) (λb' y g=>by
   by_cases e:b'=J
   .subst e;unfold LH.bT at g;rw[ax rfl] at g;cases g
   .rw[aB _ _ e];exact u8 _ _ g) (M8 ?_)
  rw[aj,V6,e1,e2,eX,mW]
 .rintro d l L' D - E hI hd;refine .G O (Vf.l O (aF (D _ _ T) O)) (.g O ?_);have u:J≠d:=λe=>by rw[<-e,hI] at hd;cases hd
  refine W.out oO (.inr .ret) (WM.collected O hd (WM.ret r O O ⟨w,J,rfl,⟨S.bo.le (aG D E _),by rw[aB _ _ u];exact hI⟩,q9.trans (aG D E _)⟩))
 .rintro d l j L' D - E hI hd;exact hI.elim
def mE(b:Bl)(N5:aH):Int:=if fP b≠0 then fP b else if N5.all (λn=>cV n 0 ((b.bq:Int) - 1)) then 0 else 3
def abt(b:Bl)(p:BP)(e:Int)(L:LH)(v:Value)(L':LH):Prop:=Le L L'/\((e=0/\∃bb m,v=.tuple #[pt bb,.int .i64 0]/\MK L' bb b p m)\/(e≠0/\v=.tuple #[.pointer none,e]))
def Yd(b:Bl)(p:BP)(l:bA)(o:Nat)(j:aH)(L:LH)(h:iK L b p)(J:bK L l j)(Q:j.length<=1000000):
  Sp X 88 [uw b p,.slice l j o,.slice none 0 0,.slice none 0 0] L (abt b p (mE b j) L):=by
 let K:=h.n0;let R:=h.n3;refine Sp.e (n:=57) Tryz.func88 O λC S d r=>?_;refine .y O (Rm b p _ h) (.I O (λc1=>?_) (λc1=>?_))
 .refine .g O ?_;let z:fP b≠0:=by simpa using c1
  refine .r r O ?_;unfold mE;rw[ax z];exact⟨Le.refl _,.inr ⟨z,rfl⟩⟩
 let y:fP b=0:=mw
 let D:=Fq y;refine .g O ?_;refine W.mD ?_;refine .N O (.G O (Vf.jN O O O O O O (show 0<3 by decide)) (.g O ?_));refine .l (λt E B F=>∃i:Nat,t=j.length - i/\i<=j.length/\(j.take i).all (λn=>cV n 0 ((b.bq.length:Int) - 1))=true/\L=F/\E=[(4,.p 0 0),(11,.v (.int .i64 0)),(23,.sl 1 0 3 3),(24,.v (.int .i64 3)),(25,.v (.int .i64 0)),(30,.v (.slice l j.length o)),(31,.v (.int .i64 j.length)),(32,.v (.int .i64 i))]/\B=[some ⟨cL (.v (uw b p)),28⟩,some ⟨[.v (.slice l j.length o),.v (.slice none 0 0),.v (.slice none 0 0)],22⟩]) ⟨0,rfl,M,rfl,rfl,rfl,rfl⟩ ?_
 rintro _ _ _ _ ⟨i,rfl,q,s,rfl,rfl,rfl⟩ again;refine .I O (λc=>W.go 99 O ?_) (λc=>W.go 99 O ?_)
 .let q:i<j:=by simpa using c
  let w:j.take (i+1)=j.take i++[j[i]]:=ja q;obtain⟨a,rfl⟩:=J.addr q;refine .u O (Vf.b O O (q)) (.G O (Vf.l O (J.int (bX q))) (.g O ?_));rw[w1 K];refine .u O (Vf.index O O O Tryz.underlying142 wm um (show 0<3 by decide) O) (.y O (pG _ _ _ _) (.I O (λg=>W.go 99 O ?_) (λg=>W.go 99 O ?_)))
  .refine .r r O ?_;let k:¬(j.all (λn=>cV n 0 ((b.bq:Int) - 1))=true):=λe=>by
    have:=mK.1 e _ (fY q);simp at g;rw[g] at this;cases this
   let u:mE b j=3:=by unfold mE;rw[A (by simpa using y),A k]
   rw[u];exact⟨Le.refl _,.inr ⟨V,rfl⟩⟩
  .exact .a (again _ _ _ _ M ⟨i+1,rfl,M,by rw[w,List.all_append,s];simp at g;simp[g],rfl,rfl,rfl⟩) ⟨rfl,rfl,rfl,rfl,rfl,rfl,rfl,aJ some (cr M),aE⟩
 .let x:i=j:=by simp at c;omega
  rw[x,lK] at s;let G:mE b j=0:=by unfold mE;rw[A (by simpa using y),ax s]
  rw[G] at r;clear again;refine W.fA ?_;refine .N O (.G O (Vf.jN O O O O O O (show 1<3 by decide)) (.g O ?_));refine W.mD ?_;refine .K O (.g O ?_);refine W.fA ?_;refine .N O (.G O (Vf.jN O O O O O O (show 2<3 by decide)) (.g O ?_));refine W.mD ?_;refine .K O (.g O ?_);refine W.fA ?_;refine .K O (.o O (Wh b p _ h D) ?_);rintro _ _ ⟨H,m,rfl,f,I⟩;refine .D r O ?_;exact⟨I,.inl ⟨rfl,H,m,rfl,f⟩⟩
def JL(w:oT):(oi w).size=w.length:=by unfold oi;simp
def FE(b:Bl)(N5:aH):Int:=if mE b N5≠0 then mE b N5 else if cH b b.proofs=[] then 9 else 0
def acR(b:Bl)(p:BP)(l:bA)(o:Nat)(j:aH)(L:LH)(h:iK L b p)(a:bK L l j)(y:j.length<=1000000):
  Sp X 55 [uw b p,.slice l j.length o,.slice none 0 0,.slice none 0 0] L (abt b p (FE b j) L):=by
 refine Sp.e Tryz.func55 O λC z d r=>(.o O (Yd b p l o j _ h a y) ?_);intro _ _ ⟨u,c⟩;rcases c with⟨e0,bb,m,rfl,hk⟩ | ⟨e0,rfl⟩
 .refine .N O (.G O (Vf.l O (hk.bo.cell 5 _ O)) (.G O (Vf.HX O Tryz.underlying181 hk.mp) ?_));rw[JL];refine .I O (λc1=>W.go 99 O ?_) (λc1=>W.go 99 O ?_)
  .have w:=Fg mw;have q:FE b j=9:=by unfold FE;rw[A (by simpa using e0),ax w]
   refine .r r O ?_;rw[q];exact⟨u,.inr ⟨V,rfl⟩⟩
  .have f:¬(cH b b.proofs=[]):=λe=>by rw[e] at c1;cases c1
   have q:FE b j=0:=by unfold FE;rw[A (by simpa using e0),A f]
   refine .r r O ?_;rw[q];exact⟨u,.inl ⟨rfl,bb,m,rfl,hk⟩⟩
 .refine .g O ?_;have q:FE b j=mE b j:=by unfold FE;rw[ax e0]
  have v:(mE b j==0)=false:=by simpa using e0
  refine .F O ?_ (by simp[v]);refine .D r O ?_;rw[q];exact⟨u,.inr ⟨e0,rfl⟩⟩
def V5{xs:oT}{e:MapEntry}(h:e∈oi xs):(oi xs).find? (λx=>x.born==e.born)=some e:=by
 let⟨x,v,i⟩:=AZ h;have f:=(eO.1 v).1;have n:=NT v;rw[<-i] at n;have d:∀(j:Nat) (y:MapEntry),(oi xs)[j]?=y->y.born=j:=λj y g=>by
  unfold oi at g;rw[gq,im,List.getElem?_zipIdx] at g;obtain⟨z,p,rfl⟩:=il.1 g;obtain⟨u,_,rfl⟩:=il.1 p;simp
 have o:(oi xs).toList[e.born]?=e:=by rw[iN];exact n
 rw[<-GJ (xs:=oi xs),List.find?_toArray,List.find?_eq_some_iff_getElem];obtain⟨q,a⟩:=eO.1 o;refine⟨U,e.born,q,a,λj t=>?_⟩;have:=d j (oi xs).toList[j] (by rw[<-iN,bX]);rw[this];simp;omega
def TV(y:q.Nodup)(o:∀i∈q,i<n):q.length<=n:=by
 have:=List.Nodup.length_le_of_subset y (l₂:=List.range n) λi u=>fo.2 (o i u)
 simpa using this
def CI(b:Bl)(pan t:Nat)(x:HG):Bool:=
 let s:=x.2.getD pan ⟨0,0⟩
 let n:=eW b x.1 pan t
 lD b (s.lo+n)==2&&lD b (s.hi+n)==2
def aaT(b:Bl)(v t:Nat):sU b v t=(cH b b.proofs).all (CI b v t):=rfl
def xM(p:HG->Bool)(xs:oT)(seen:aU):Bool:=seen.all λj=>(xs[j]?.map p).getD true
def TU{p:HG->Bool}{w:oT}{x:HG}(h:w[n]?=some x):xM p w (q++[n])=(xM p w q&&p x):=by
 unfold xM;rw[List.all_append];simp[h]
def WA{p:HG->Bool}{w:oT}(h:∀j,j<w.length->j∈q):xM p w q=w.all p:=by
 unfold xM;rw[Fe,mK,mK]
 constructor
 .intro v x u;let⟨j,t⟩:=vr.1 u;have:=v j (h j (eO.1 t).1);rw[t] at this;exact this
 .intro v j _;cases t:w[j]? with
  | none=>rfl
  | some x=>exact v x (fZ t)
def aaP(T:Nat)(b:Bl)(p:BP)(m:Nat)(I:Nat)(L:LH)(hk:MK L T b p m)(H:nU b)(f:I<b.bq):
  Sp X 56 [pt T,.int .i64 I] L (λv L'=>∃ae:Nat,v=.int .u8 ae/\ae<256/\(∀i,ae.testBit i=(decide (i<b.bV+1)&&sU b I i))/\Le L L'):=by
 have h5:=H.h5;refine Sp.e (n:=56) Tryz.func56 O λC hX v8 r=>?_;refine .G O (Vf.l O (hk.bo.cell 3 _ O)) (.g O ?_);rw[wrap64_in _ M M];refine .l (λm' E B L'=>∃(i ae:Nat),m'=b.bV+1 - i/\i<=b.bV+1/\ae<256/\(∀k,ae.testBit k=(decide (k<i)&&sU b I k))/\Le L L'/\E=[(0,.v (pt T)),(1,.v (.int .i64 I)),(5,.v (.int .u8 ae)),(17,.v (.int .i64 ((b.bV:Int)+1))),(18,.v (.int .i64 i))]/\B=[]) ⟨0,0,rfl,M,V,λk=>by simp,Le.refl _,rfl,rfl⟩ ?_
 rintro _ _ _ L1 ⟨i,ae,rfl,hi,hM,K,Q,rfl,rfl⟩ again;have d:=hk.le Q;refine .I O (λd1=>W.go 99 O ?_) (λd1=>W.go 99 O ?_)
 .have hi:i<b.bV+1:=by simp at d1;omega
  refine .u O (Vf.l O (d.bo.cell 5 _ O)) (.v O (Ef.range O Tryz.underlying181 d.mp) ?_);rintro _ _ _ ⟨q,rfl,rfl,hq,rfl⟩;have v9:m≠q:=λe=>by subst e;rw[d.mp] at hq;cases hq
  refine .g O ?_;refine W.AA 7 O ?_;refine .l (λm' E B L'=>∃(seen:Array Nat),m'=(cH b b.proofs) - seen.size/\seen.toList.Nodup/\(∀j∈seen.toList,j<(cH b b.proofs))/\Le L1 L'/\L' q=some (.mapIter (some m) (cH b b.proofs) seen (cH b b.proofs),true)/\E=[(0,.v (pt T)),(1,.v (.int .i64 I)),(5,.v (.int .u8 ae)),(6,.v (.int .i64 i)),(7,.v (.bool (xM (CI b I i) (cH b b.proofs) seen.toList))),(17,.v (.int .i64 ((b.bV:Int)+1))),(18,.v (.int .i64 i)),(25,.v (.pointer (some ⟨q,0,none⟩)))]/\B=[]) ⟨#[],rfl,U,(λj hj=>by simp at hj),Le.put hq _,aj _ _ _,rfl,rfl⟩ ?_
  rintro _ _ _ L2 ⟨seen,rfl,q3,u1,R,q4,rfl,rfl⟩ J;have u2:∀e∈oi (cH b b.proofs),e.born<(cH b b.proofs)/\e.born<(cH b b.proofs):=λe he=>by
   obtain⟨x,hx,_⟩:=AZ he;have:=(eO.1 hx).1;exact⟨this,this⟩
  have q5:=d.le R;have q6:L1 q=none:=hq;refine .v O (Ef.next O q4 q5.mp u2) ?_;rintro _ _ _ ⟨rfl,u3⟩;rcases u3 with⟨rfl,oe,rfl⟩ | ⟨e,he,VR,rfl,rfl⟩
  .have u7:xM (CI b I i) (cH b b.proofs) seen.toList=sU b I i:=by
    rw[aaT];refine WA λj hj=>?_;have:=oe _ (Array.mem_of_getElem? (NT (bX hj)))
    simpa using this
   rw[u7];refine .K O (.g O ?_);have u9:∀c:Bool,sU b I i=c->(∀k,(if c then ae||| 2 ^ i else ae).testBit k=(decide (k<i+1)&&sU b I k)):=λc hc k=>by
    have q0:k<i+1↔(k<i\/k=i):=M
    cases c with
    | true=>
     rw[ax rfl,yN,K,Nat.testBit_two_pow]
     by_cases e:i=k
     .subst e;simp[hc]
     .simp[e,q0,dG e]
    | false=>
     rw[A U,K]
     by_cases e:i=k
     .subst e;simp[hc]
     .simp[q0,dG e]
   refine .s O (λc1=>W.go 99 O ?_) (λc1=>W.go 99 O ?_)
   .have u1:ae||| 2 ^ i<256:=Nat.or_lt_two_pow (n:=8) hM (Nat.pow_lt_pow_right V M)
    refine .p O (agd ae i _ hM M) (.g O ?_);exact .a (again _ _ _ _ M ⟨i+1,ae||| 2 ^ i,rfl,M,u1,u9 true c1,Q.trans R,rfl,rfl⟩)
   .exact .a (again _ _ _ _ M ⟨i+1,ae,rfl,M,hM,u9 false c1,Q.trans R,rfl,rfl⟩)
  .obtain⟨x,hx,q7⟩:=AZ he;have S:=V5 he;obtain⟨ek,ev,G⟩:=e;obtain⟨rfl,rfl⟩:ek=.agg (kD x.1).toArray/\ev=.agg (px x).toArray:=by cases q7;exact⟨rfl,rfl⟩
   dsimp only at hx S VR;have q8:=(eO.1 hx).1;have q9:=fZ hx;obtain⟨m1,m2⟩:=CG q9;have hh:=H.hs m1;have q1:x.2.length<=3:=by rw[m2,qS];exact H.s3
   have w:G∉seen.toList:=λo=>by
    have:seen.contains G=true:=by simpa using o
    rw[this] at VR;cases VR
   have D:(seen.push G).toList.Nodup:=by
    rw[za,List.nodup_append];exact⟨q3,U,λa ha b hb=>by rw[dJ.1 hb];exact λe=>w (e▸ha)⟩
   have F:∀j∈(seen.push G).toList,j<(cH b b.proofs).length:=λj hj=>by
    rw[za] at hj;rcases fg.1 hj with h | h
    .exact u1 j h
    .rw[dJ.1 h];exact q8
   have v0:=TV D F;rw[za,eX,mW,GH] at v0;have u4:(cH b b.proofs).length - (seen.push G).size<(cH b b.proofs).length - seen.size:=by rw[Array.size_push];omega
   obtain⟨s,hs⟩:∃s,x.2[I]?=some s:=⟨_,bX (by rw[m2,qS];exact f)⟩;have v1:HK s:=AV H hh H.pb (CY H) s (by
    have:=fZ hs;rw[m2] at this;exact this)
   have y:Le L1 (L2.put q (.mapIter (some m) (cH b b.proofs).length (seen.push G) (cH b b.proofs).length)):=aG R q6 _;have u5:=d.le y;have g:=ad2 (X:=X) T b p m x s I i _ u5.bo H hh q1 hs v1 f M;have u6:CI b I i x=(lD b (s.lo+eW b x.1 I i)==2&&lD b (s.hi+eW b x.1 I i)==2):=by
    unfold CI;rw[dL,hs];rfl
   have t:xM (CI b I i) (cH b b.proofs) (seen.push G).toList=(xM (CI b I i) (cH b b.proofs) seen.toList&&(lD b (s.lo+eW b x.1 I i)==2&&lD b (s.hi+eW b x.1 I i)==2)):=by
    rw[za,TU hx,u6]
   have q2:∀z:Nat,((z:Int)==2)=(z==2):=λz=>by
    rw[Fe,beq_iff_eq,beq_iff_eq];omega
   obtain⟨y0,y1,y2,y3,y4,y5,y6,l,y8,y9,v2,v4,e1,e2⟩:=Sv hh.l5 q1;rw[e2] at g S ⊢;rw[e1] at S ⊢;generalize hu:upS s (eW b x.1 I i)=u at g;have v5:s.lo+eW b x.1 I i=u.lo:=by rw[<-hu];rfl
   have v6:s.hi+eW b x.1 I i=u.hi:=by rw[<-hu];rfl
   rw[v5,v6,<-q2,<-q2] at t;refine .N O (.G O (Vf.entry (e:=⟨.agg #[.int .i64 y0,.int .i64 y1,.int .i64 y2,.int .i64 y3,.int .i64 y4],.agg #[.int .i64 y0,.int .i64 y1,.int .i64 y2,.int .i64 y3,.int .i64 y4,.int .i64 y5,.int .i64 y6,.int .i64 l,.int .i64 y8,.int .i64 y9,.int .i64 v2,.int .i64 v4],G⟩) O (aj _ _ _) (y _ _ d.mp) U S) (.g O ?_));rw[<-hX] at g;refine .p O g (.I O (λc1=>?_) (λc1=>?_))
   .refine .y O (OA T b p m u.lo _ u5.bo H) (.I O (λc2=>?_) (λc2=>?_))
    .refine .y O (OA T b p m u.hi _ u5.bo H) (.g O ?_);exact .a (J _ _ _ _ u4 ⟨seen.push G,rfl,D,F,y,aj _ _ _,rfl,rfl⟩) (by exact⟨rfl,rfl,rfl,rfl,aJ (λz=>some (SV.v (.bool z))) (by rw[t,c1,c2];rfl),rfl,rfl,rfl,aE⟩)
    .refine .g O ?_;refine W.AA 7 O ?_;exact .a (J _ _ _ _ u4 ⟨seen.push G,rfl,D,F,y,aj _ _ _,rfl,rfl⟩) (by exact⟨rfl,rfl,rfl,rfl,aJ (λz=>some (SV.v (.bool z))) (by rw[t,c1,c2];rfl),rfl,rfl,rfl,aE⟩)
   .refine .g O ?_;refine W.AA 7 O ?_;exact .a (J _ _ _ _ u4 ⟨seen.push G,rfl,D,F,y,aj _ _ _,rfl,rfl⟩) (by exact⟨rfl,rfl,rfl,rfl,aJ (λz=>some (SV.v (.bool z))) (by rw[t,c1];rfl),rfl,rfl,rfl,aE⟩)
 .have v7:i=b.bV.length+1:=by simp at d1;omega
  subst v7;refine .r r O ?_;exact⟨ae,rfl,hM,K,Q⟩
def aag(p:x7)(i:Nat):(cm ((List.range i).filter p)).length<=i:=by
 unfold cm;rw[eT];have:=BB p (List.range i)
 simpa using this
def VU:bK L d []:=λi z p=>by simp at p
def OU{b:Bl}{pan:Int}(h:FE b [pan]≠0):gv b pan=([],FE b [pan]):=by
 unfold FE mE at h ⊢;unfold gv
 by_cases c1:fP b≠0
 .rw[ax c1] at h ⊢;rw[ax c1,ax c1]
 .rw[A c1] at h ⊢;rw[A c1]
  by_cases c2:cV pan 0 ((b.bq:Int) - 1)=true
  .simp only[Bz,List.all_nil,Co,c2,if_true] at h ⊢;simp[ne_eq,not_true_eq_false,if_false] at h ⊢
   by_cases c:cH b b.proofs=[]
   .simp[c]
   .simp[c] at h
  .simp[c2]
def RO{b:Bl}(h:FE b [c]=0):nU b/\0<=c/\c<b.bq.length/\gv b c=if nh b c.toNat=[] then([],11) else(nh b c.toNat,0):=by
 unfold FE mE at h;unfold gv
 by_cases c1:fP b≠0
 .simp[c1,ne_eq,not_false_eq_true,if_true] at h
 .rw[A c1] at h ⊢;have p:fP b=0:=by simpa using c1
  by_cases c2:cV c 0 ((b.bq:Int) - 1)=true
  .simp only[Bz,List.all_nil,Co,c2,if_true,ne_eq,not_true_eq_false,if_false] at h
   by_cases u:cH b b.proofs=[]
   .simp[u] at h
   .have:=e9.1 c2;refine⟨Fq p,M,M,?_⟩;simp[c2,u]
  .simp only[Bz,List.all_nil,Co,c2] at h;simp at h
def abh(l:aH)(e:Int)(L:LH)(v:Value)(L':LH):Prop:=∃ad cap,v=.tuple #[.slice ad l cap,.int .i64 e]/\Le L L'/\bK L' ad l/\l<=cap
def Zj(b:Bl)(p:BP)(o:Int)(L:LH)(h:iK L b p):Sp X 12 [uw b p,o] L (abh (cm (gv b o).1) (gv b o).2 L):=by
 refine Sp.e (n:=45) Tryz.func12 O λC j u1 r=>?_;refine .de [16] 99 O (.cz 15 (.inr ⟨_,_,_,rfl⟩) O O ?_);intro F G _;have t:=Le.put G (.cells #[o] 3);have H:bK (L.put F (.cells #[.int .i64 o] 3)) (some ⟨F,0,none⟩) [o]:=cY (e:=3) aY (aj _ _ _);refine .c O (acR b p (some ⟨F,0,none⟩) 1 [o] _ (h.le t) H U) ?_;rintro _ _ ⟨x,c⟩;rcases c with⟨e0,bb,m,rfl,hk⟩ | ⟨e0,rfl⟩
 .obtain⟨s,u2,u3,a⟩:=RO e0;obtain⟨q,rfl⟩:∃q:Nat,o=(q:Int):=⟨o.toNat,M⟩;rw[kT] at a;rw[a] at r;have h5:=s.h5;have Q:=t.trans x;rename_i L2;refine .K O (.o O (aaP bb b p m q _ hk s M) ?_);rintro _ _ ⟨ae,rfl,hM,u,I⟩;refine .g O ?_;rename_i L3;rw[wrap64_in _ M M];refine .l (λn E B L'=>∃(i:Nat) (v:Value),n=b.bV.length+1 - i/\i<=b.bV.length+1/\bE L3 1 3 bL L' v (cm ((List.range i).filter (sU b q)))/\E=[(8,.v (.int .u8 ae)),(9,.f (.func 57) [] []),(10,.v v),(28,.v (.int .i64 ((b.bV.length:Int)+1))),(29,.v (.int .i64 i))]/\B=[]) ⟨0,_,rfl,M,bE.nil (Le.refl _),rfl,rfl⟩ ?_
  rintro _ _ _ L4 ⟨i,v,rfl,h1,J,rfl,rfl⟩ again;refine .I O (λc1=>?_) (λc1=>?_)
  .have R:i<b.bV.length+1:=by simp at c1;omega
   refine .g O ?_;have d:=BT (sU b q) i;have g:ae.testBit i=sU b q i:=by rw[u,jY R];rfl
   refine .e O (Ef.ag7 O O O O (ahk ae i _ hM M)) ?_;rintro _ _ _ ⟨_,rfl,rfl,rfl,rfl⟩;rw[g];refine .I O (λc2=>W.go 99 O ?_) (λc2=>W.go 99 O ?_)
   .refine .e O (Ef.grow O O O O O O O O O aY gf J (ls:=[(i:Int)]) (.own O O O O) (by have:=aag (sU b q) i;simp only[mW];omega)) ?_;rintro _ _ _ ⟨v',rfl,rfl,z,_⟩;refine .g O ?_;exact .a (again _ _ _ _ M ⟨i+1,v',rfl,M,by rw[d,ax c2,CN];exact z,rfl,rfl⟩) ⟨rfl,rfl,rfl,rfl,aJ some (cr M),aE⟩
   .exact .a (again _ _ _ _ M ⟨i+1,v,rfl,M,by rw[d];simpa [c2] using J,rfl,rfl⟩) ⟨rfl,rfl,rfl,rfl,aJ some (cr M),aE⟩
  .have R:i=b.bV.length+1:=by simp at c1;omega
   subst R;obtain⟨l,S,rfl,y⟩:=J.slice;have k:=(J.at aY).2;have K:Le L L4:=(Q.trans I).trans J.1;have D:cm ((List.range (b.bV.length+1)).filter (sU b q))=cm (nh b q):=rfl;rw[D] at k y ⊢;refine .I O (λc2=>W.go 99 O ?_) (λc2=>W.go 99 O ?_)
   .have w:nh b q=[]:=by
     have:(cm (nh b q)).length=0:=uT
     unfold cm at this;rw[eT] at this;exact Fg this
    refine .r r O ?_;rw[ax w];exact⟨none,0,rfl,K,VU,dA _⟩
   .have T:¬nh b q=[]:=λe=>by rw[e] at c2;cases c2
    refine .r r O ?_;rw[A T];exact⟨l,S,rfl,K,k,y⟩
 .have a:=OU (b:=b) (pan:=o) e0;rw[a] at r;have hf:(FE b [o] !=0)=true:=by simpa using e0
  refine .g O ?_;refine .T O ?_ (by simp[hf]);refine .D r O ?_;exact⟨none,0,rfl,t.trans x,VU,dA _⟩
def Bm:bz L d n h []:=λi z p=>by simp at p
def BlQ(b:Bl)(e:Int)(L:LH)(v:Value)(L':LH):Prop:=∃p,v=.tuple #[uw b p,e]/\Le L L'/\iK L' b p
end
structure Fi where
 b:Bl
 ro:Ro
 s:Sw
abbrev Ln:=Nat×List Int
abbrev dg:=List Ln
def FT(a:aH):sA:=⟨a.getD 0 0,a.getD 1 0,a.getD 2 0⟩
def KO(a:aH):Sg:=⟨a.getD 0 0,a.getD 1 0,a.getD 2 0,a.getD 3 0⟩
def Mf(a:aH):Want:=⟨a.getD 0 0,a.getD 1 0,a.getD 2 0,a.getD 3 0⟩
theorem ajb:∀{a:aH},a.length=3->a=[(FT a).pan,(FT a).tick,(FT a).kY]
 | [_,_,_],_=>rfl
theorem sg4:∀{a:aH},a.length=4->a=[(KO a).gU,(KO a).iR,(KO a).year,(KO a).found]
 | [_,_,_,_],_=>rfl
theorem wt4:∀{a:aH},a.length=4->a=[(Mf a).sort,(Mf a).kind,(Mf a).cO,(Mf a).pay]
 | [_,_,_,_],_=>rfl
def vE(f:Fi)(x:sA):Fi×Int:=if(oz f.b x).2=0 then({f with b:=(oz f.b x).1},0) else(f,(oz f.b x).2)
def vH(f:Fi)(x:Sg):Fi×Int:=if(oA f.ro x).2=0 then({f with ro:=(oA f.ro x).1},0) else(f,(oA f.ro x).2)
def sZ(f:Fi)(x:Want):Fi×Int:=if(nR f.s x).2=0 then({f with s:=(nR f.s x).1},0) else(f,(nR f.s x).2)
def qI(f:Fi)(x:Ln):Fi×Int:=if x.1=0 then vE f (FT x.2) else if x.1=1 then vH f (KO x.2) else sZ f (Mf x.2)
def pY(out i:Nat)(x:Ln)(s:Fi×Nat):Fi×Nat:=
 if x.1<3/\out.testBit i=false then((qI s.1 x).1,if(qI s.1 x).2=0 then s.2||| 2 ^ i else s.2) else s
def Fv(out:Nat):Nat->List Ln->Fi×Nat->Fi×Nat
 | _,[],s=>s
 | i,x::l,s=>Fv out (i+1) l (pY out i x s)
theorem vv(u:Nat)(x:Ln):∀(i:Nat) (l:dg) (s:Fi×Nat),Fv u i (l++[x]) s=pY u (i+l.length) x (Fv u i l s)
 | _,[],_=>rfl
 | i,y::l,s=>by
  show Fv u (i+1) (l++[x]) _=_;rw[vv u x (i+1) l];show _=pY u (i+(l.length+1)) x _;rw[show i+1+l.length=i+(l.length+1) by omega]
  rfl
def adl(u:k<256)(i:m<8):k||| 2 ^ m<256:=Nat.or_lt_two_pow (n:=8) u (Nat.pow_lt_pow_right V i)
def aci{x:Ln}{s:Fi×Nat}(i:k<8)(h:s.2<256):(pY n k x s).2<256:=by
 unfold pY
 split
 .simp only
  split
  .exact adl h i
  .exact h
 .exact h
def Fw{out:Nat}{f0:Fi}{xs:dg}:∀{i:Nat},i<=8->(Fv out 0 (xs.take i) (f0,0)).2<256
 | 0,_=>(by decide:0<256)
 | i+1,h=>by
  have l:=Fw (out:=out) (f0:=f0) (xs:=xs) (i:=i) M
  by_cases e:i<xs
  .rw[ja e,vv];refine aci ?_ l;rw[mi];omega
  .rw[qG M] at l ⊢;exact l
def dH(f0:Fi)(xs:dg)(out n:Nat):Fi×Nat:=Fv out 0 (xs.take n) (f0,0)
def mX(f:Fi)(x:Ln):Bs×Int:=
 if x.1<3 then(okB,(qI f x).2) else if x.1=3 then(okB,0)
 else if x.1=4 then(ly ((gv f.b (x.2.getD 0 0)).1.map λ(n:Nat)=>(n:Int)),(gv f.b (x.2.getD 0 0)).2)
 else if x.1=5 then(qk (jh f.ro (x.2.getD 0 0)).1.lo++45::qk (jh f.ro (x.2.getD 0 0)).1.hi,(jh f.ro (x.2.getD 0 0)).2)
 else(ly ((dP f.s).1.map λ(n:Nat)=>(n:Int))++[58,32]++qk (dP f.s).2.1,(dP f.s).2.2)
def ru(x:Ln)(m out:Nat):Nat×Int:=if 3<=x.1 then(out,8) else if out.testBit m then(out,4) else(out||| 2 ^ m,0)
def sY(xs:dg)(n out:Nat)(m:Int):Nat×Int:=if(n:Int)<=m then(out,3) else ru (xs.getD m.toNat (6,[])) m.toNat out
def uY(a:Bs)(e:Int):Bs:=if e=0 then a else tE e
def nO(f0:Fi)(xs:dg)(n out:Nat):Bs×Nat:=
 let x:=xs.getD n (6,[])
 let a:=mX (dH f0 xs out n).1 x
 let v:=if x.1=3 then sY xs n out (x.2.getD 0 0) else(out,a.2)
 (uY a.1 v.2,v.1)
def eG(f0:Fi)(xs:dg):Nat->Nat
 | 0=>0
 | n+1=>(nO f0 xs n (eG f0 xs n)).2
def mG(f0:Fi)(xs:dg)(n:Nat):List Bs:=(List.range n).map λi=>(nO f0 xs i (eG f0 xs i)).1
def UK(x:Fi)(w:dg)(n:Nat):mG x w (n+1)=mG x w n++[(nO x w n (eG x w n)).1]:=by
 unfold mG;rw[nI,iq];rfl
def ry(x:Fi)(w:dg)(n:Nat):(mG x w n).length=n:=by
 unfold mG;rw[eT,vt]
def aaY{w:dg}(y:n<=8)(j:k<256):(sY w n k c).1<256:=by
 unfold sY
 split
 .exact j
 .rename_i h;unfold ru
  split
  .exact j
  .split
   .exact j
   .exact adl j M
def Fs{f0:Fi}{xs:dg}:∀{n:Nat},n<=8->eG f0 xs n<256
 | 0,_=>(by decide:0<256)
 | n+1,h=>by
  have l:=Fs (f0:=f0) (xs:=xs) (n:=n) M;show(nO f0 xs n (eG f0 xs n)).2<256;unfold nO;dsimp only
  split
  .exact aaY M l
  .exact l
def eQ(f0:Fi)(xs:dg):Fi×Nat:=dH f0 xs (eG f0 xs xs) xs
def IH(f0:Fi):List Ln:=(List.range f0.b.bq).map (λ(i:Nat)=>(4,[(i:Int)]))++(List.range f0.ro.samples).map (λ(i:Nat)=>(5,[(i:Int)]))
def nM(f:Fi)(l:dg):List Bs:=l.map λx=>uY (mX f x).1 (mX f x).2
def iI(f0:Fi)(xs:dg):List Bs:=nM (eQ f0 xs).1 (IH f0++[(6,[])])
section
open Go.Proofs
def Dm(L L':LH):Prop:=∀b o wr,L b=some (o,wr)->∃tj,L' b=some (o,tj)
theorem Dm.of_le(h:Le L R):Dm L R:=λb o wr d=>⟨wr,h _ _ d⟩
theorem Dm.trans(h:Dm L R)(z:Dm R J):Dm L J:=λb o wr d=>let⟨w1,q⟩:=h b o wr d;z b o w1 q
theorem Dm.cell(h:Dm L R){a:Addr}{v:Value}(b:L.cell? a=some v):R.cell? a=v:=by
 unfold LH.cell? at b ⊢;cases d:L a.block with
 | none=>rw[d] at b;cases b
 | some x=>
  let⟨o,wr⟩:=x;let⟨u,p⟩:=h _ _ _ d;rw[d] at b;rw[p];cases o <;> first | exact b | cases b
def Dm.sl(c:Dm L R)(f:bz L d k h r):bz R d k h r:=λi x u=>let⟨a,q,z⟩:=f i x u;⟨a,q,λj v g=>c.cell (z j v g)⟩
def Dm.ro(h:Dm L R){r:Ro}{p:BP}(b:iG L r p):iG R r p:=⟨h.sl b.h0,h.sl b.h1,h.sl b.h2,h.sl b.h3,h.sl b.h4,b.n0,b.n1,b.n2,b.n3,b.n4,b.k4⟩
def Dm.bl(h:Dm L R){r:Bl}{p:BP}(b:iK L r p):iK R r p:=⟨h.sl b.h0,h.sl b.h1,h.sl b.h2,h.sl b.h3,h.sl b.h4,b.n0,b.n1,b.n2,b.n3,b.n4,b.k4⟩
def Dm.rows(c:Dm L R){l:List (List α)}(a:gB L d k h l):gB R d k h l:=by
 obtain⟨t,q,z,r⟩:=a;exact⟨t,q,c.sl z,λx u=>⟨c.sl (r x u).sl,(r x u).len,(r x u).cap⟩⟩
def Dm.sw{L':LH}(h:Dm L L'){p:Wp}(b:eE L s p):eE L' s p:=⟨h.rows b.lo,h.sl b.st,h.sl b.wt,b.cap⟩
def PD(x i:Nat)(L:LH)(u:x<256)(q:i<8):Sp X 119 [.int .u8 x,.int .i64 i] L (λv z=>v=x.testBit i/\L=z):=by
 refine Sp.e Tryz.func119 O λC j d r=>(.g O ?_);exact .r r O ⟨aJ Value.bool (XY ⟨x,u⟩ ⟨i,q⟩),rfl⟩
def UI(x i:Nat)(L:LH)(u:x<256)(q:i<8):Sp X 135 [.int .u8 x,.int .i64 i] L (λv z=>v=.int .u8 ((x||| 2 ^ i:Nat):Int)/\L=z):=by
 refine Sp.e Tryz.func135 O λC j d r=>(.g O ?_);exact .r r O ⟨aJ (Value.int .u8) (UJ ⟨x,u⟩ ⟨i,q⟩),rfl⟩
structure Fp where
 b:BP
 r:BP
 s:Wp
abbrev fiL(f:Fi)(p:Fp):List Value:=wJ f.b p.b++jU f.ro p.r++cX f.s p.s
structure lH(I L:LH)(bf:Nat)(f:Fi)(p:Fp):Prop where
 le:Le I L
 n:I bf=none
 o:L bf=some (.cells (fiL f p).toArray 123 (0,0),true)
 b:iK I f.b p.b
 r:iG I f.ro p.r
 s:eE I f.s p.s
def nL(bf:Nat):Value:=.agg #[pt bf,.func (.func 175) #[pt bf] #[],.func (.func 176) #[pt bf] #[],.func (.func 177) #[pt bf] #[]]
def Wi(k:mS)(p:Kp)(L:LH)(f:nT L k p):Sp X 133 [Fo k p] L (λv u=>∃a,v=nL a/\lH L u a ⟨k.b,k.ro,k.s⟩ ⟨p.b,p.r,p.s⟩):=by
 refine Sp.e (n:=20) Tryz.func133 O λC j d r=>(.go 17 O (.cz 3 (.inl ⟨_,rfl⟩) O O ?_));intro a x _;refine .D r O ⟨a,rfl,Le.put x _,x,aj _ _ _,f.b,f.r,f.s⟩
def Post.all{v:LH}(p:Le R L)(q:Le R J)(h:Post R L J v):Le L v:=λb x u=>by
 cases e:R b with
 | none=>exact h.keep b x e u
 | some y=>
  have:=p _ _ e;rw[u] at this;cases this;exact h.le _ _ (q _ _ e)
def lH.step{v:LH}{f:Fi}{p:Fp}(h:lH R L k f p)(x:Le R J)(a:Post R L J v):lH J v k f p:=by
 refine⟨a.le,?_,a.keep _ _ h.n h.o,h.b.le x,h.r.le x,h.s.le x⟩;cases e:J k with
 | none=>rfl
 | some y=>
  rcases a.fresh k xT with q | q
  .exact ar h.n q
  .rw[h.o] at q;cases q
def jr{c:aR}{vs:aR}{t:km}{u:Bool}(h:L k=some (.cells c.toArray e t,u))(y:vs.length=n)(b:(c.drop m).take n=vs):cD L ⟨k,m,none⟩ n vs:=by
 refine⟨y,λj v g=>?_⟩;rw[bM];refine aF h ?_;subst b;rw[List.getElem?_take] at g
 split at g
 .rw[List.getElem?_drop] at g
  simpa using g
 .cases g
def jB(I L:LH):LH:=λb=>match I b with
 | none=>L b
 | some _=>none
def uM(I L:LH):Le (jB I L) L:=λb x u=>by
 unfold jB at u;cases e:I b with
 | none=>rw[e] at u;exact u
 | some y=>rw[e] at u;cases u
def om(h:R n=none):jB R L n=L n:=by unfold jB;rw[h]
def oM{x:Obj×Bool}(h:jB R L n=some x):R n=none/\L n=x:=by
 unfold jB at h;cases e:R n with
 | none=>rw[e] at h;exact⟨rfl,h⟩
 | some y=>rw[e] at h;cases h
def Ke{v:LH}(a:Post R L J v):Le (jB R L) v:=λb x u=>a.keep _ _ (oM u).1 (oM u).2
def CQ(h:Le L J):Le (jB R L) (jB R J):=λb x u=>by
 obtain⟨q,z⟩:=oM u;rw[om q];exact h _ _ z
structure jG(I L J L':LH)(bf:Nat):Prop where
 keep:∀b x,I b=none->b≠bf->L b=some x->L' b=some x
 fresh:∀b,J b≠none->I b≠none\/L b=none
def jG.qq{v:LH}(a:Nat)(h:Post R L J v):jG R L J v a:=⟨λb x q _ r=>h.keep b x q r,h.fresh⟩
def jG.put{v:LH}(h:jG R L J v n)(o:Obj):jG R L J (v.put n o) n:=⟨λb x q z r=>by rw[aB _ _ z];exact h.keep b x q z r,h.fresh⟩
def jG.out{v:LH}(h:jG R L J v n)(d:L n=none):Le (jB R L) (jB J v):=λb x u=>by
 obtain⟨q,z⟩:=oM u;let i:=qF λe=>(h.fresh b e).elim (λg=>g q) λg=>by rw[z] at g;cases g
 rw[om i];exact h.keep b x q (λe=>by subst e;rw[z] at d;cases d) z
def lH.dm{v:LH}{f:Fi}{p:Fp}(h:lH R L k f p)(a:Dm R J)(u:Post R L J v):lH J v k f p:=by
 refine⟨u.le,?_,u.keep _ _ h.n h.o,a.bl h.b,a.ro h.r,a.sw h.s⟩;cases e:J k with
 | none=>rfl
 | some y=>
  rcases u.fresh k xT with q | q
  .exact ar h.n q
  .rw[h.o] at q;cases q
def lH.up{f:Fi}{p:Fp}(h:lH R L k f p)(u:Le L J):lH R J k f p:=⟨h.le.trans u,h.n,u _ _ h.o,h.b,h.r,h.s⟩
def jG.up{v g:LH}(h:jG R L J v n)(o:Le v g):jG R L J g n:=⟨λb x q z r=>o _ _ (h.keep b x q z r),h.fresh⟩
def jG.refl(a:Nat):jG R L R L a:=⟨λ_ _ _ _ h=>h,λ_ h=>.inl h⟩
def jG.trans{v i f:LH}(h:jG R L J v n)(z:jG J v i f n)(d:v n≠none):jG R L i f n:=by
 have t:∀b x,R b=none->L b=some x->J b=none:=λb x q r=>qF λe=>(h.fresh b e).elim (λg=>g q) λg=>by rw[r] at g;cases g
 refine⟨λb x q y r=>z.keep b x (t b x q r) y (h.keep b x q y r),λb u=>?_⟩;rcases z.fresh b u with g | g
 .exact h.fresh b g
 .by_cases e:R b=none
  .refine .inr ?_;cases o:L b with
   | none=>rfl
   | some x=>
    by_cases y:b=n
    .subst y;exact ar g d
    .rw[h.keep b x e y o] at g;cases g
  .exact .inl e
def Il(I L:LH)(bf:Nat)(f:Fi)(a:Bs)(w:Value)(v:Value)(L':LH):Prop:=v=.tuple #[str a,w]/\∃J p,Dm I J/\lH J L' bf f p/\jG I L J L' bf
def OT(I L:LH)(bf:Nat)(f:Fi)(e:Int)(v:Value)(L':LH):Prop:=v=e/\∃J p,Dm I J/\lH J L' bf f p/\jG I L J L' bf
structure IB(X:aM Tryz.prog):Prop where
 add:∀(b:Bl) (p:BP) (x:sA) (L:LH),iK L b p->Sp X 223 [uw b p,.agg (ju x).toArray] L (BlQ (oz b x).1 (oz b x).2 L)
structure E3(X:aM Tryz.prog):Prop where
 af5:∀(b:Bl) (p:BP) (pan:Int) (L:LH),iK L b p->Sp X 12 [uw b p,.int .i64 pan] L (abh (cm (gv b pan).1) (gv b pan).2 L)
def adt(e:IB X)(I L:LH)(t:Nat)(f:Fi)(p:Fp)(x:sA)(l:bA)(m:Nat)(h:lH I L t f p)(k:bK L l [x.pan,x.tick,x.kY]):Sp X 175 [pt t,.slice l 3 m] L (OT I L t (vE f x).1 (vE f x).2):=by
 obtain⟨a,rfl⟩:=k.addr (i:=0) U;have j:=(e.add f.b p.b x I h.b).frame h.le;have z:=k;refine Sp.e Tryz.func175 O λC K d r=>(.t O (.run' [0,1,2,4,7,10] O (.u 5 O (Vf.b O O ((show 0<3 by decide))) (.u 8 O (Vf.b O O ((show 1<3 by decide))) (.u 11 O (Vf.b O O ((show 2<3 by decide))) (.u 3 O (Vf.q O (jr (vs:=wJ f.b p.b) h.o O O)) ?_))))));refine .u 6 O (Vf.l O (z.int O)) (.u 9 O (Vf.l O (z.int O)) (.u 12 O (Vf.l O (z.int (i:=2) O)) (.run' [13,18] O ?_)));rw[<-K] at j;refine .c 14 rfl rfl j (by rintro _ _ ⟨J,⟨_,_,u,_⟩,v⟩;exact v.all h.le u) ?_;rintro _ _ ⟨J,⟨D,rfl,u,g⟩,v⟩;refine .run' [15,16,17] O ?_;rename_i F;have y:=v.all h.le u;refine .a 19 rfl (Ef.lG rfl) ((by rintro _ _ _ ⟨rfl,rfl,rfl⟩;exact⟨y,rfl,.inl rfl⟩)) ?_;rintro _ _ _ ⟨rfl,rfl,rfl⟩;refine .run' [20] O (.fin O (.g O ?_));have q:=h.step u v
 by_cases c:(oz f.b x).2=0
 .have w:vE f x=({f with b:=(oz f.b x).1},0):=ax c;rw[w] at r;rw[c];refine .T O (.g O ?_);refine .fL O O (Ef.BX O ⟨_,rfl,rfl⟩ O (bM _ _ _) q.o O (show 5<=14 by decide) (bQ O)) ?_;rintro _ _ _ ⟨rfl,rfl,rfl⟩;refine .D r O ?_;exact⟨rfl,J,{p with b:=D},.of_le u,⟨aG q.le q.n _,q.n,aj _ _ _,g,q.r,q.s⟩,(jG.qq t v).put _⟩
 .have w:vE f x=(f,(oz f.b x).2):=A c;rw[w] at r;refine .F O ?_ lA;refine .D r O ?_;exact⟨rfl,J,p,.of_le u,q,.qq t v⟩
end
def yg{r:Nat}{c:aK}{t:km}{j:Bool}{d:Option (TypeId×Nat)->LH->Prop}(h:L r=some (.cells c e t,j)):aP P d Q (shape r) L=d (some (e,c.size)) L:=by
 unfold shape;simp[aP,h]
def UM{c:aK}{t:km}{j:Bool}{d:Option (Addr×TypeId)->LH->Prop}(h:L n=some (.cells c e t,j)):aP P d Q (viewAt n) L=d none L:=by
 unfold viewAt;rw[Z,yg h]
 rfl
def Rg{r:Nat}{c:aK}{t:km}{j:Bool}{d:Option Nat->LH->Prop}(h:L r=some (.cells c e t,j)):aP P d Q (cellsIn r) L=d (some c.size) L:=by
 unfold cellsIn;rw[Z,yg h]
 rfl
def HA{a:Addr}{c:aK}{t:km}{j:Bool}{d:Addr->LH->Prop}(h:L a.block=some (.cells c e t,j)):aP P d Q (Conv.seenAt a) L=d a L:=by
 unfold Conv.seenAt;rw[Z,UM h]
 rfl
def Vf.ahY{s d:bh}{c:aK}{i:km}{j:Bool}(u:bZ E x=some (.v (.pointer (some ⟨n,k,none⟩))))(q:P.underlying s=some (.pointer t))(z:P.underlying d=some .unsafePointer)(y:(P.info? t).map (·.size)=some (m+1))(f:L n=some (.cells c e i,j))(K:k<c.size):Vf P (.convert s d x) E B L (.v (.pointer (some ⟨n,k,none⟩))):=λT R β h _ o=>by
 let g:=(bR (h.val u)).symm;refine⟨_,rfl,λp w b D F Q H I=>?_⟩;let l:=o _ _ f;simp only[execOp,g];rw[Z];unfold convert;rw[Z,aD q,Z,aD z];simp only;unfold Conv.unsafePointer;rw[Z,aD q,Z,aD z];simp only;rw[Z,HA (a:=⟨n,k,none⟩) l,Z,Rg (r:=n) l];simp only[Z,aI];rw[cQ y];let J:decide (k≥c.size)=false:=mB M;simp only[J,yQ,Nat.succ_ne_zero,decide_false,By,iM,if_false];exact I
def Vf.ahI{s d:bh}{c:aK}{i:km}{j:Bool}(u:bZ E x=some (.v (.pointer (some ⟨n,k,none⟩))))(q:P.underlying s=some .unsafePointer)(z:P.underlying d=some (.pointer t))(y:(P.info? t).map (·.size)=some (m+1))(f:L n=some (.cells c e i,j))
  (g:liesAt P P.depth e (c.size / P.cellsOf e) k t 1=true):Vf P (.convert s d x) E B L (.v (.pointer (some ⟨n,k,none⟩))):=λT R β h _ o=>by
 let b:=(bR (h.val u)).symm;refine⟨_,rfl,λp w I K D Q H J=>?_⟩;let l:=o _ _ f;simp only[execOp,b];rw[Z];unfold convert;rw[Z,aD q,Z,aD z];simp only;unfold Conv.unsafePointer;rw[Z,aD q,Z,aD z];simp only;rw[Z,HA (a:=⟨n,k,none⟩) l,Z,cQ y];simp only[Nat.succ_ne_zero,decide_false,By];rw[Z];unfold variablesAt;simp only[Z];rw[gG,yg (r:=n) l];simp only[Z,aI,g,Bool.or_true,if_true];exact J
def Vf.WU{a:Addr}(z:bZ E x=some (.v (.slice (some a) n k)))(b:k≠0):Vf P (.call {callee:=.builtin .unsafeSliceData,args:=#[x],argTypes:=#[t]}) E B L a:=λT R β h _ o=>by
 let q:=(bR (h.val z)).symm;refine⟨_,rfl,λp w s l d Q H c=>?_⟩;simp[execOp,resolve,oY,iH,nG,q,pure,Sem.bind,bind,invoke,builtin];show aP P _ _ (Builtin.unsafeSliceData_ _ _ _>>= λu=>pure (Next.value u)) R;rw[Z];show aP P _ _ (if k≠0 then pure (Value.pointer (some a)) else _) R;rw[ax b,aI];exact c
def AG{L:LH}{H:Value->LH->Prop}{Q:ByteArray->LH->Prop}{b:Nat}:∀(l:List UInt8) (off:Nat) (acc:List UInt8),(∀(i:Nat) (x:UInt8),l[i]?=some x->L.cell? ⟨b,off+i,none⟩=uy x)->aP P Q H (loadBytes ⟨b,off,none⟩ ⟨⟨acc⟩⟩ l) L=Q ⟨⟨acc++l⟩⟩ L
 | [],_,acc,_=>by
  rw[List.append_nil];rfl
 | x::l,off,acc,h=>by
  have h0:=h 0 x rfl;rw[Nat.add_zero] at h0;let ih:=AG (Q:=Q) (H:=H) l (off+1) (acc++[x]) λi y hy=>by
   have:=h (i+1) y hy;rw[show off+(i+1)=off+1+i by omega] at this;exact this
  rw[List.append_assoc] at ih;show aP P Q H (loadBytes ⟨b,off,none⟩ ⟨⟨acc⟩⟩ (l.length+1)) L=_;unfold loadBytes;rw[Z,Gr h0];let hp:(ByteArray.mk ⟨acc⟩).push ((x.toNat:Int).toNat.toUInt8)=⟨⟨acc++[x]⟩⟩:=by
   show ByteArray.mk ((Array.mk acc).push _)=_;simp
  show aP P Q H (loadBytes ((⟨b,off,none⟩:Addr).add 1) ((ByteArray.mk ⟨acc⟩).push ((x.toNat:Int).toNat.toUInt8)) l.length) L=_;rw[bM,hp];exact ih
def WY{t u p:bh}{b n:Nat}(f:0<n)(a:n<=9223372036854775807):Builtin.unsafeString_ #[t,u] p #[.pointer (some ⟨b,0,none⟩),.int .i64 (n:Int)]=(elemOf t>>= λi=>variablesAt ⟨b,0,none⟩ i n>>= λv=>if v=true then(loadBytes ⟨b,0,none⟩ .empty n>>= λs=>freeze ⟨b,0,none⟩ n>>= λ_=>pure (Value.string s)) else unsupported (.unsafePointer "String: not so many bytes at ptr")):=by
 let q:¬(n:Int)<0:=M
 let z:¬(n:Int)>IntKind.i64.max:=by show¬(n:Int)>9223372036854775807;omega
 let r:¬(n:Int)=0:=M
 show(asInt (.int .i64 (n:Int))>>= _)=_;let d:(#[t,u]:Array TypeId)[0]?=some t:=rfl;simp only[asInt,asIntOf,bind,Sem.bind,pure,d,q,z,r,if_false,kT]
def Ef.string{C:Cx P}{w:fD}{p:bh}{K:cR}{o:cZ}{n s:bh}{y:aW}{b:Nat}{c:aK}{k:km}{l:ko}(D:bZ E x=some (.v (.pointer (some ⟨b,0,none⟩))))(g:bZ E y=l)(f:0<l.length)(F:l.length<=9223372036854775807)
  (G:P.underlying t=some (.pointer n))(I:L b=some (.cells c e k,true))(S:liesAt P P.depth e (c.size / P.cellsOf e) 0 n l.length=true)(W:∀(i:Nat) (z:UInt8),l[i]?=z->c[i]?=uy z):
  Ef C ⟨w,.call {callee:=.builtin .unsafeString,args:=#[x,y],argTypes:=#[t,s]},p,H,K,o⟩ E B L (λX B' L'=>X=str l/\B'=B/\L'=L.put b (.cells c e (frz k ⟨b,0,none⟩ l.length))):=by
 intro T R β h J;have q:=(bR (h.val D)).symm;have ey:=(bR (h.val g)).symm;have a:=J.le _ _ I;refine⟨rfl,?_⟩;simp only[execOp,resolve,oY,iH,nG,q,ey,pure,Sem.bind,bind,invoke,builtin];show aP P _ _ (Builtin.unsafeString_ _ _ _>>= λu=>pure (Next.value u)) R;rw[Z,WY f F];unfold elemOf variablesAt freeze;simp only[Z];rw[aD G];simp only[aI];rw[gG,yg (r:=b) a];simp only[aI,Z,S,if_true];have j:=λQ d=>AG (P:=P) (L:=R) (Q:=Q) (H:=d) (b:=b) l 0 [] λi z hz=>aF a (by rw[jJ];exact W i z hz);show aP P _ _ (loadBytes ⟨b,0,none⟩ ⟨⟨[]⟩⟩ l.length) R;rw[j];show aP P _ _ (.freeze ⟨b,0,none⟩ l.length (.pure ())) R;simp only[aP,a];exact⟨str l,B,_,⟨rfl,rfl,rfl⟩,rfl,J.wZ I (aj _ _ _) (λb' m=>aB _ _ m),λ_ _=>rfl⟩
def Vf.adD{s:bh}{y:aW}{a:Addr}{k:BinOp}(u:bZ E x=a)(g:bZ E y=a)(d:P.underlying t=some (.pointer e))(i:(P.info? e).map (·.size)=↑(m+1))(f:k=.eql\/k=.neq):Vf P (.binOp k t x y s) E B L (zx k true):=λT R β h _ o=>by
 let q:=(bR (h.val u)).symm;let j:=(bR (h.val g)).symm;let z:∀(Q:mc) (H:bC) (n:Nat),Q true R->aP P Q H (Op.equalIn (n+1) t a a) R:=λQ H n c=>by
  rw[Op.equalIn,Z,aD d];rw[Z,cQ i];rw[ax (Nat.succ_ne_zero m)];unfold sameAddr;rw[beq_self_eq_true,ax rfl,beq_self_eq_true];exact c
 refine⟨_,rfl,?_⟩;rcases f with rfl | rfl
 .exact λp=>cE.uD q j (λ_ _ c=>by exact c) (λn _ _ c=>z _ _ _ c) O
 .exact λp=>cE.uD q j (λ_ _ c=>by exact c) (λn _ _ c=>z _ _ _ c) O
def Vf.quo{y:aW}{k:fE}{b:Int}(u:bZ E x=some (.v (.int k c)))(g:bZ E y=some (.v (.int k b)))(d:b≠0):Vf P (.binOp .quo t x y e) E B L (.v (.int k (k.wrap (c.tdiv b)))):=λT R β h _ _=>
 ⟨_,rfl,λp=>cE.bin ((bR (h.val u)).symm) ((bR (h.val g)).symm) (A d)⟩
def Ta(q:P.cellsOf e=1)(o:k+n<=m)(a:0<P.depth):liesAt P P.depth e (m / P.cellsOf e) k e n=true:=by
 let⟨d,a⟩:∃d,P.depth=d+1:=⟨P.depth - 1,M⟩;have u:sameLayout P P.depth e e=true:=by
  rw[a];unfold sameLayout;rw[beq_self_eq_true,Bool.true_or]
 rw[q,Nat.div_one];rw[a] at u ⊢;unfold liesAt;rw[a];unfold rowAt;simp only[q,Nat.div_one,Nat.mod_one,u,beq_self_eq_true,GF,Co];rw[jY o];simp
section
open Go.Proofs
def aiI:Array Value->Sem Value:=Extern.AbiNoEscape.same
def eMk:Array Value->Sem Value:=Extern.BytealgMakeNoZero.makeNoZero #[3] #[361]
def ae7:Ext Tryz.prog 259 Tryz.f259 aiI:=⟨Tryz.func259,aN,rfl,aN,aN⟩
def ahi:Ext Tryz.prog 260 Tryz.f260 eMk:=⟨Tryz.func260,aN,rfl,aN,aN⟩
def ahG(v:Value)(L:LH):pK Tryz.prog 259 [v] L (λu q=>u=v/\L=q):=pK.pure ae7 λ_ _ _=>rfl
theorem DR:∀(n t:Nat) (m:aK),(Extern.BytealgMakeNoZero.digits n t m).size=m.size+n
 | 0,_,m=>rfl
 | n+1,t,m=>by
  unfold Extern.BytealgMakeNoZero.digits;rw[DR n,Array.size_push];omega
def ai6(n:Nat)(y:n<=281474976710656)(L:LH):pK Tryz.prog 260 [n] L (λu v=>∃b m c,L b=none/\u=.slice (some ⟨b,0,none⟩) n m/\n<=m/\c.size=m/\v=L.put b (.cells c 5)):=by
 refine⟨_,_,ahi,λR l=>?_⟩;show aP _ _ _ (underlying 361>>= _) R;rw[Z,aD Tryz.underlying361];have q:(decide ((n:Int)<0)||decide ((n:Int)>2 ^ 48))=false:=by
  rw[mB M,mB M];rfl
 simp only[q,iM,if_false,kT];rw[Z,sx];intro m z;obtain⟨r,rfl⟩:∃r,m=n+r:=by
  unfold pN at z;simp only[Question.forced,iM,if_false,Question.cut] at z;obtain⟨t,s⟩:=z;exact⟨_,s⟩
 rw[Z];refine qB ?_;rw[Z,sx];intro bytes _;rw[Z,jD];intro b d;rw[aI];exact⟨_,⟨b,n+r,_,bN l d,rfl,M,by rw[DR];show 0+(n+r)=n+r;omega,rfl⟩,Post.new l d _⟩
structure Dg(I L:LH)(bb:Nat)(z:Value)(l:List UInt8):Prop where
 le:Le I L
 n:I bb=none
 zz:z=.pointer none\/z=pt bb
 o:∃ad cap,L bb=some (.cells #[z,.slice ad l.length cap] 363 (0,0),true)/\∃ob,dB L 1 5 (.slice ad l.length cap) l.length (l.map uy) ob/\∀b,ob=some b->I b=none/\b≠bb
def DO(I L:LH)(q:Nat)(z:Value)(v:Value)(p:z=.pointer none\/z=pt q)(j:L q=some (.cells #[z,v] 363 (0,0),true)):Sp X 242 [pt q] L (λu i=>u=.tuple #[]/\(∀b,b≠q->i b=L b)/\i q=some (.cells #[pt q,v] 363 (0,0),true)):=by
 rcases p with rfl | rfl
 .refine Sp.e Tryz.func242 O λC f d r=>(.G O (Vf.l O ((show _=some (Value.pointer none) from aF j O))) (.N O (.G O (Vf.ahY O Tryz.underlying360 Tryz.underlying266 KV j (Nat.zero_lt_succ 1)) (.g O ?_))));refine .e O (Ef.ext O (ahG _ _)) ?_;rintro _ _ _ ⟨_,rfl,rfl,rfl,rfl⟩;refine .u O (Vf.ahI O Tryz.underlying266 Tryz.underlying360 KV j aN) (.g O (.fL O O (Ef.BX O ⟨_,rfl,rfl⟩ O (bM _ _ _) j O (show 1<=2 by decide) (bQ O)) ?_));rintro _ _ _ ⟨rfl,rfl,rfl⟩;refine .g O (W.lM r O O ⟨rfl,λb a=>aB _ _ a,aj _ _ _⟩)
 .refine Sp.e Tryz.func242 O λC f d r=>(.G O (Vf.l O ((show _=some (pt q) from aF j O))) (.I O (λh=>ar (show false=true from h) V) (λ_=>(.G O (Vf.l O ((show _=some (pt q) from aF j O))) ?_))));refine .G O (Vf.adD O O Tryz.underlying360 KV (.inr O)) (.K O (.g O (W.lM r O O ⟨rfl,λ_ _=>rfl,j⟩)))
def Dg.checked{z:Value}{l:ko}(h:Dg R L n z l)(q:∀b,b≠n->J b=L b)(a:∀v,L n=some (.cells #[z,v] 363 (0,0),true)->J n=some (.cells #[pt n,v] 363 (0,0),true)):Dg R J n (pt n) l:=by
 let⟨m,y,_,o,i,j,t,g,d⟩:=h;refine⟨λb x u=>?_,y,.inr O,o,i,a _ j,t,g.keep λb f=>q b (d b f).2,d⟩;rw[q b (λe=>by subst e;rw[y] at u;cases u)];exact m _ _ u
def uk(I L:LH)(i:Nat)(z:Value)(l w:ko)(h:Dg I L i z l)(o:l+w.length<=100000):Sp X 219 [pt i,str w] L (λu W=>Dg I W i (pt i) (l++w)):=by
 let⟨_,_,p,F,s,j,_⟩:=id h;refine Sp.e Tryz.func219 O λC hX B r=>(.o O (DO L L i z _ p j) ?_);rintro _ _ ⟨rfl,G,H⟩;have h:=h.checked G (λv g=>by rw[j] at g;cases g;exact H);rename_i E;let⟨m,y,_,F,s,j,ob,hw,d⟩:=h;refine .g rfl (.u rfl (Vf.l rfl ((aF j rfl))) (.g rfl (.e rfl (Ef.nc rfl rfl rfl rfl rfl rfl rfl rfl rfl (by intro u hu;obtain⟨_,_,rfl⟩:=fK.1 hu;rfl) hw (YC.str rfl rfl) M) ?_)));rintro _ _ _ ⟨v1,k,rfl,rfl,J,K⟩;rename_i Q;have a:Q i=E i/\Le I Q/\∀b,k=some b->I b=none/\b≠i:=by
  rcases K with⟨rfl,rfl,_⟩ | ⟨b,c,rfl,rfl,⟨rfl,_⟩ | SX⟩
  .exact⟨rfl,m,λb d=>by cases d⟩
  .let⟨R,q⟩:=d b rfl;exact⟨aB _ _ q.symm,aG m R _,λb' x=>by cases x;exact⟨R,q⟩⟩
  .have q:b≠i:=λe=>by rw[e,j] at SX;cases SX
   exact⟨aB _ _ q.symm,m.trans (Le.put SX _),λb' x=>by cases x;exact⟨bN m SX,q⟩⟩
 obtain⟨S,f2,T⟩:=a;obtain⟨D,t,rfl,_⟩:=J.slice;rw[j] at S;refine .g O ?_;refine .fL O O (Ef.BX O ⟨_,rfl,rfl⟩ O (bM _ _ _) S O (show 1+1<=2 by decide) (bQ O)) ?_;rintro _ _ _ ⟨rfl,rfl,rfl⟩;refine .D r O ?_;have f:(l++w).length=l.length+w.length:=eX;refine⟨aG f2 y _,y,.inr O,D,t,by rw[f];exact aj _ _ _,k,?_,T⟩;rw[f,iq];exact J.keep λb d=>aB _ _ (T b d).2
def acI(I L:LH)(q n:Nat)(m:Le I L)(y:I q=none)(o:L q=some (.cells #[pt q,.slice none 0 0] 363 (0,0),true))(l:n<=1000000):Sp X 243 [pt q,n] L (λu v=>u=.tuple #[]/\Dg I v q (pt q) []):=by
 refine Sp.e Tryz.func243 O λC F k r=>(.t O (.run' [0,1,2,6,9,10,11] O (.u 3 O (Vf.l O ((show _=some (Value.slice none 0 0) from aF o O))) (.u 12 O (Vf.l O ((show _=some (Value.slice none 0 0) from aF o O))) (.run' [4,5,7,13] O ?_)))));have J:IntKind.i64.wrap (IntKind.i64.wrap (2 * ((0:Nat):Int))+(n:Int))=(n:Int):=by
  rw[show IntKind.i64.wrap (2 * ((0:Nat):Int))=0 from rfl,Int.zero_add];exact wrap64_in _ M M
 rw[J];refine .a 8 rfl (Ef.ext rfl (ai6 n M L)) ((by rintro _ _ _ ⟨_,rfl,rfl,_,_,_,d,_,_,_,rfl⟩;exact⟨Le.put d _,rfl,.inl rfl⟩)) ?_;rintro _ _ _ ⟨_,rfl,rfl,b,f,c,d,rfl,w,h,rfl⟩;refine .u 14 O (Vf.EB O Tryz.underlying361 ahS O O O O (fj _) (fj _)) ?_;have s:(if f=0 then some (⟨b,0,none⟩:Addr) else Option.map (λa:Addr=>a.add (0 * 1)) (some ⟨b,0,none⟩))=some ⟨b,0,none⟩:=by
  split
  .rfl
  .simp[bM]
 rw[s,wH,wH];refine .run' [15] O (.fin O (.g O ?_));have z:b≠q:=λe=>by rw[e,o] at d;cases d
 have t:(L.put b (.cells c 5)) q=some (.cells #[pt q,.slice none 0 0] 363 (0,0),true):=(aB _ _ z.symm).trans o;refine .u O (Vf.l O ((aF t O))) (.v O (Ef.copy O O O O (.nil O) (dA _) (aj _ _ _) (fj _) (λu K=>by simp at K)) ?_);rintro _ _ _ ⟨rfl,rfl,rfl⟩;refine .g O ?_;have g:((L.put b (.cells c 5)).put b (.cells c 5)) q=some (.cells #[pt q,.slice none 0 0] 363 (0,0),true):=(aB _ _ z.symm).trans t;refine .fL O O (Ef.BX O ⟨_,rfl,rfl⟩ O (bM _ _ _) g O (show 1+1<=2 by decide) (bQ O)) ?_;rintro _ _ _ ⟨rfl,rfl,rfl⟩;refine .g O ?_;exact W.lM r O O ⟨rfl,aG (aG (m.trans (Le.put d _)) (bN m d) _) y _,y,.inr O,some ⟨b,0,none⟩,f,aj _ _ _,some b,⟨f,c,rfl,(aB _ _ z).trans (aj _ _ _),M,fj _,rfl,λi x D=>by simp at D⟩,λG p=>by cases p;exact⟨bN m d,z⟩⟩
def aer(I L:LH)(f n:Nat)(m:Le I L)(y:I f=none)(j:L f=some (.cells #[.pointer none,.slice none 0 0] 363 (0,0),true))(d:n<=1000000):Sp X 218 [pt f,n] L (λu v=>Dg I v f (pt f) []):=by
 refine Sp.e Tryz.func218 O λC p o r=>(.o O (DO L L f _ _ (.inl O) j) ?_);rintro _ _ ⟨rfl,q,z⟩;rename_i h;refine .g O (.F O ?_ U);refine .t O (.run' [0,1,2,5,6,7,11] O (.u 3 O (Vf.l O ((aF z O))) (.u 8 O (Vf.l O ((aF z O))) (.run' [4,9,10,12] O (.fin O (.g O ?_))))));let i:Le I h:=λb x a=>by
  rw[q b (λe=>by subst e;rw[y] at a;cases a)];exact m _ _ a
 refine .s O (λc=>?_) (λc=>?_)
 .refine .o O (acI I h f n i y z d) ?_;rintro _ _ ⟨rfl,t⟩;refine .g O (W.lM r O O t)
 .refine .g O (W.lM r O O ⟨i,y,.inr O,none,0,z,none,dB.nil,λb g=>by cases g⟩)
def Zk(I L:LH)(s:Nat)(z:Value)(l:ko)(h:Dg I L s z l)(f:0<l.length)(h9:l.length<=100000):Sp X 221 [pt s] L (λu F=>u=str l/\Le I F):=by
 let⟨k,y,_,ad,m,j,d,D,G⟩:=h;cases d with
 | none=>let⟨_,e,_⟩:=D;omega
 | some b=>
  let⟨v,c,H,K,Q,q,_,R⟩:=D;cases H;let⟨S,T⟩:=G b rfl;refine Sp.e Tryz.func221 O λC hX B r=>(.g O ?_);have a:(λx=>if x=b then none else L x:LH) b=none:=ax rfl;have t:∀x,x≠b->(λx=>if x=b then none else L x:LH) x=L x:=λx g=>A g;generalize(λx=>if x=b then none else L x:LH)=J at a t;have p:Le J L:=λx o g=>by
   by_cases e:x=b
   .rw[e,a] at g;cases g
   .rw[<-t x e];exact g
  have w:=(t s T.symm).trans j;refine W.drawn aN J p ?_;refine .run' [0,1,2,5,6,7] rfl (.u 3 rfl (Vf.l rfl ((show _=some (Value.slice (some ⟨b,0,none⟩) l.length m) from aF w rfl))) (.u 8 rfl (Vf.l rfl ((show _=some (Value.slice (some ⟨b,0,none⟩) l.length m) from aF w rfl))) (.u 4 rfl (Vf.WU rfl M) (.run' [9] rfl (.a 10 rfl (Ef.string rfl rfl f M Tryz.underlying397 K (Ta aN M V) (λi z E=>R i _ (by rw[im,E];rfl))) ((by rintro _ _ _ ⟨rfl,rfl,rfl⟩;exact⟨aG p a _,rfl,.inl rfl⟩)) ?_)))));rintro _ _ _ ⟨rfl,rfl,rfl⟩;refine .run' [11] O (.fin O (.D r O ?_));exact⟨rfl,aG k S _⟩
def oQ(r:iW):Bs:=r.flatMap λw=>32::w
theorem zM(x:Bs):∀r:List Bs,ql (x::r)=x++oQ r
 | []=>by simp[ql,oQ]
 | y::r=>by
  show x++32::ql (y::r)=_;rw[zM y r];simp[oQ]
def Hw(q:iW)(w:Bs):oQ (q++[w])=oQ q++[32]++w:=by simp[oQ]
def uV:∀q:List Bs,(∀w∈q,w.length<=10)->(oQ q)<=11 *q.length
 | [],_=>by simp[oQ]
 | w::q,h=>by
  have v:=uV q λw u=>h w (fG _ u);let z:=h w (fC ..);show(32::w++oQ q).length<=11 * (q.length+1);rw[eX,pR];omega
def aaJ{a:Addr}{cap:Nat}{w:Bs}{r:iW}(h:bz L a 1 dv (w::r))(b:r+1<=cap):bz L (if cap=1 then a else Option.map (λa:Addr=>a.add (1 * 1)) a) 1 dv r:=by
 by_cases e:cap=1
 .have:r=[]:=Fg M;subst this;exact λi z p=>by simp at p
 .have:=Uf h rfl
  by_cases q:r.length+1=1
  .have:r=[]:=Fg M;subst this;exact λi z p=>by simp at p
  .rw[A q] at this;rwa[A e]
def aes(S:bA)(m:Nat)(l:iW)(L:LH)(o:bz L S 1 dv l)(hc:l<=m)(hn:l.length<=1000)(K:∀w∈l,w.length<=10):Sp X 303 [.slice S l.length m,str [32]] L (λu D=>u=str (ql l)/\Le L D):=by
 rcases l with _ | ⟨x,_ | ⟨y,r⟩⟩
 .refine Sp.e (n:=75) Tryz.func303 O λC hX F r=>?_;refine .g O ?_;refine .T O ?_ U;refine .D r O ?_;exact⟨rfl,Le.refl _⟩
 .obtain⟨a,rfl⟩:=o.addr (i:=0) (Nat.zero_lt_one);refine Sp.e (n:=75) Tryz.func303 O λC hX F r=>?_;refine .g O ?_;refine .F O ?_ U;refine .g O ?_;refine .T O ?_ U;refine .g rfl (.u rfl (Vf.b rfl rfl ((show 0<[x].length from Nat.zero_lt_one))) (.g rfl (.u rfl (Vf.l rfl (ox o (show[x][0]?=some x from rfl))) (.g rfl (.r r rfl ?_)))));exact⟨rfl,Le.refl _⟩
 .have hN:(x::y::r).length=r.length+2:=rfl;have q4:r.length+2<=1000:=hn;rw[zM];generalize f:y::r=q at *;have T:0<q.length:=by rw[<-f];simp
  clear f;refine Sp.e (n:=75) Tryz.func303 O λC hX F r=>?_;refine .g O ?_;refine .F O ?_ bU;refine .g O ?_;refine .F O ?_ bU;refine .g O ?_;have q5:(x::q).length=q.length+1:=rfl;refine .T O (.de [28] 99 O ?_);have G:IntKind.i64.wrap (((x::q).length:Int) - 1)=(q.length:Int):=by
   rw[pR,show((q.length+1:Nat):Int) - 1=(q.length:Int) by omega];exact wrap64_in _ M M
  rw[G];refine .u O (Vf.quo O O M) ?_;have u4:1000000000<=IntKind.i64.wrap ((9223372036854775807:Int).tdiv (q.length:Int)):=by
   have h1:(9223372036854775807:Int).tdiv (q.length:Int)=9223372036854775807 / (q.length:Int):=OY V;have h2:(9223372036854775807:Int) / (q.length:Int)<=9223372036854775807:=Int.ediv_le_self _ V;have h3:(1000000000:Int)<=9223372036854775807 / (q.length:Int):=by
    rw[Int.le_ediv_iff_mul_le M];omega
   rw[h1,wrap64_in _ M h2];exact h3
  refine .g O ?_;refine .F O ?_ bU;refine .g O ?_;have k:IntKind.i64.wrap (0+IntKind.i64.wrap ((([32]:Bs).length:Int) *IntKind.i64.wrap (((x::q).length:Int) - 1)))=(q.length:Int):=by
   rw[G,show((([32]:Bs).length:Nat):Int)=1 from rfl,Int.one_mul,wrap64_in (q.length:Int) M M,Int.zero_add];exact wrap64_in _ M M
  refine .l (λm' E B D=>∃i n:Nat,m'=(x::q).length - i/\i<=(x::q).length/\n<=1000+10 *i/\L=D/\E=[(0,.v (.slice S (x::q).length m)),(1,.v (str [32])),(5,.v (.int .i64 n)),(39,.v (.slice S (x::q).length m)),(40,.v (.int .i64 (x::q).length)),(41,.v (.int .i64 i))]/\B=[]) ⟨0,q.length,rfl,fj _,M,rfl,rfl,rfl⟩ ?_ (by exact⟨rfl,rfl,aJ (λz=>some (SV.v (.int .i64 z))) k,rfl,rfl,rfl,aE⟩)
  rintro _ _ _ _ ⟨i,n,rfl,J,u5,rfl,rfl,rfl⟩ again;refine .I O (λc1=>W.go 99 O ?_) (λc1=>W.go 99 O ?_)
  .have J:i<(x::q).length:=by have:=gN c1;omega
   obtain⟨a,rfl⟩:=o.addr J;have hx:=bX J;have u6:=K _ (fY J);generalize(x::q)[i]=w at hx u6;refine .u O (Vf.b O O (J)) (.G O (Vf.l O (ox o hx)) (.g O ?_));have e:IntKind.i64.wrap (9223372036854775807 - (n:Int))=9223372036854775807 - (n:Int):=wrap64_in _ M M;refine .F O ?_ (by rw[e];simp;omega);refine .g O ?_;exact .a (again _ _ _ _ M ⟨i+1,n+w.length,rfl,J,M,rfl,rfl,rfl⟩) (by exact⟨rfl,rfl,aJ some (aJ SV.v (aJ (Value.int .i64) (by show IntKind.i64.wrap ((n:Int)+(w.length:Int))=_;rw[Int.natCast_add];exact wrap64_in _ M M))),rfl,rfl,aJ some (cr M),aE⟩)
  .clear again k u4;have u7:n<=1000000:=by omega
   clear u5;refine .cz 8 (.inl ⟨_,rfl⟩) O O ?_;intro b H _;refine .c O (aer L _ b n (Le.put H _) H (aj _ _ _) u7) ?_;rintro _ _ d;rename_i L1;refine .g O ?_;obtain⟨a,rfl⟩:=o.addr (i:=0) M;refine .u rfl (Vf.b rfl rfl ((show 0<(x::q).length by omega))) (.g rfl (.u rfl (Vf.l rfl (ox (o.le d.le) (show(x::q)[0]?=some x from rfl))) (.g rfl ?_)));have q3:=K x (fC ..);refine .c O (uk L _ b _ [] x d bU) ?_;rintro u1 _ d;rename_i g;refine .G O (Vf.EB (i:=1) (j:=(x::q).length) O Tryz.underlying33 KW O O O O M hc) ?_;have c:=aaJ o hc;have u8:(x::q).length - 1=q.length:=rfl;rw[u8];generalize(if m=1 then some a else Option.map (λa:Addr=>a.add (1 * 1)) (some a))=ta at c ⊢;refine .g O ?_;refine .l (λm' E B D=>∃i:Nat,m'=q.length - i/\i<=q.length/\Dg L D b (pt b) (x++oQ (q.take i))/\E=[(1,.v (str [32])),(8,.v (pt b)),(63,.v (.slice ta q.length (m - 1))),(64,.v (.int .i64 q.length)),(65,.v (.int .i64 i))]/\B=[]) ⟨0,rfl,fj _,by simpa [oQ] using d,rfl,rfl⟩ ?_
   rintro _ _ _ L3 ⟨j,rfl,t,d,rfl,rfl⟩ again;refine .I O (λc2=>W.go 99 O ?_) (λc2=>W.go 99 O ?_)
   .have t:j<q.length:=by have:=gN c2;omega
    obtain⟨a',rfl⟩:=c.addr t;have s:=bX t;have Q:=K _ (fG _ (fY t));have u9:q.take (j+1)=q.take j++[q[j]]:=ja t;have R:=uV (q.take j) λw h=>K _ (fG _ (yo h));rw[mi,yR M] at R;have I:=Hw (q.take j) q[j];rw[<-u9] at I;generalize q[j]=w at s Q I;refine .u O (Vf.b O O (t)) (.G O (Vf.l O (ox (c.le d.le) s)) (.o O (uk L _ b _ _ [32] d QF) ?_));rintro u2 _ q0;refine .o O (uk L _ b _ _ w q0 (by rw[eX,eX,mW];omega)) ?_;rintro u3 _ p;refine .g O ?_;exact .a (again _ _ _ _ M ⟨j+1,rfl,t,by rw[I];simpa only[tq] using p,rfl,rfl⟩)
   .have q1:j=q.length:=by have:=jX c2;omega
    subst q1;rw[qG (dA _)] at d;have R:=uV q λw h=>K _ (fG _ h);have q6:0<(oQ q).length:=by
     cases q with
     | nil=>exact ar T V
     | cons w q=>show 0<(32::w++oQ q).length;simp
    refine .c O (Zk L _ b _ _ d QG QG) ?_;rintro _ _ ⟨rfl,q2⟩;refine .D r O ?_;exact⟨rfl,q2⟩
def ab5:Bs:=[48,49,50,51,52,53,54,55,56,57,97,98,99,100,101,102,103,104,105,106,107,108,109,110,111,112,113,114,115,116,117,118,119,120,121,122]
def P2:Bs:=(List.range 100).flatMap λn=>[(48+n / 10).toUInt8,(48+n % 10).toUInt8]
def aiD:∀n:Fin 10,(ab5.drop n.val).take (n.val+1 - n.val)=cu n.val:=iu
def aiE:∀n:Fin 100,10<=n.val->(P2.drop (n.val * 2)).take (n.val * 2+2 - n.val * 2)=cu n.val:=iu
def Wv:P2.length=200:=iu
def adQ(n:Nat)(L:LH)(y:n<100):Sp X 253 [.int .i64 n] L (λu v=>u=str (cu n)/\L=v):=by
 refine Sp.e Tryz.func253 O λC q d r=>(.I O (λc=>?_) (λc=>?_))
 .have b:n<10:=by have:=gN c;omega
  refine .G O (Vf.CZ (l:=ab5) (i:=n) (j:=n+1) O O O O O O (by rw[wrap64_in _ M M];omega) M (by show n+1<=36;omega)) ?_;have:=aiD ⟨n,b⟩;simp only at this;rw[this];refine .g O ?_;exact .r r O ⟨rfl,rfl⟩
 .have b:10<=n:=by have:=jX c;omega
  refine .G O (Vf.CZ (l:=P2) (i:=n * 2) (j:=n * 2+2) aN O O O O (by rw[wrap64_in _ M M];omega) (by rw[wrap64_in ((n:Int) * 2) M M,wrap64_in _ M M];omega) M (by rw[Wv];omega)) ?_;have:=aiE ⟨n,y⟩ b;simp only at this;rw[this];refine .g O ?_;exact .r r O ⟨rfl,rfl⟩
def Ze(n:Nat)(L:LH)(y:n<100):Sp X 226 [n,.int .i64 10] L (λu v=>u=str (cu n)/\L=v):=by
 refine Sp.e Tryz.func226 O λC j d r=>(.N O (.N O ?_ U));refine .g O (.T O ?_ bU);refine .y O (adQ n _ y) (.g O (.r r O ⟨rfl,rfl⟩))
def abj(n:Nat)(L:LH)(y:n<100):Sp X 187 [n] L (λu v=>u=str (cu n)/\L=v):=by
 refine Sp.e Tryz.func187 O λC j d r=>(.y O (Ze n _ y) (.g O ?_));exact .r r O ⟨rfl,rfl⟩
def Di(n:Nat)(L:LH)(y:n<100):Sp X 149 [n] L (λu v=>u=str (cu n)/\L=v):=by
 refine Sp.e Tryz.func149 O λC j d r=>(.y O (abj n _ y) (.g O ?_));exact .r r O ⟨rfl,rfl⟩
def pz:∀n:Fin 100,(cu n.val).length<=2:=iu
def Ov(J:bA)(m:Nat)(l:aU)(L:LH)(G:bK L J (l.map Int.ofNat))(y:l.length<=100)(d:∀n∈l,n<100):Sp X 301 [.slice J l m] L (λu K=>u=str (ql (l.map cu))/\Le L K):=by
 refine Sp.e (n:=20) Tryz.func301 O λC j Q r=>?_;refine .g O ?_;refine .l (λR E B K=>∃(i:Nat) (k:bA) (uc:Nat),R=l.length - i/\i<=l.length/\bE L 1 9 dv K (.slice k i uc) ((l.take i).map cu)/\E=[(3,.v (.slice k i uc)),(6,.v (.slice J l.length m)),(7,.v (.int .i64 l.length)),(8,.v (.int .i64 i))]/\B=[]) ⟨0,none,0,rfl,fj _,bE.nil (Le.refl _),rfl,rfl⟩ ?_
 rintro _ _ _ h ⟨i,k,uc,rfl,z,f,rfl,rfl⟩ again;refine .I O (λc1=>W.go 99 O ?_) (λc1=>W.go 99 O ?_)
 .have z:i<l.length:=by have:=gN c1;omega
  obtain⟨a,rfl⟩:=G.addr (i:=i) (by rw[eT];exact z);have H:=bX z;have p:(l.map Int.ofNat)[i]?=some (Int.ofNat l[i]):=by rw[im,H];rfl
  have b:=d _ (fY z);have e:l.take (i+1)=l.take i++[l[i]]:=ja z;have o:((l.take i).map cu).length=i:=by rw[eT,mi];omega
  generalize l[i]=n at H p b e;refine .u O (Vf.b O O (z)) (.G O (Vf.l O ((G.le f.1).int p)) (.y O (Di n _ b) (.v O (Ef.grow O O O O O O O O O dR kE f (ls:=[cu n]) (.own O O O O) ((by rw[o,mW];omega))) ?_)));rintro _ _ _ ⟨v1,rfl,rfl,g,_⟩;rw[show(l.take i).map cu++[cu n]=(l.take (i+1)).map cu by rw[e,iq];rfl] at g;obtain⟨c,t,rfl,_⟩:=g.slice;rw[show((l.take (i+1)).map cu).length=i+1 by rw[eT,mi];omega] at g ⊢;refine .g O ?_;exact .a (again _ _ _ _ M ⟨i+1,c,t,rfl,z,g,rfl,rfl⟩)
 .have x:i=l.length:=by have:=jX c1;omega
  subst x;rw[qG (dA _)] at f;have I:(l.map cu).length=l.length:=eT ..;rw[<-I] at f;have D:=(f.at dR).2;obtain⟨_,_,S,q⟩:=f.slice;cases S;rw[<-I];have s:∀w∈l.map cu,w.length<=10:=λw T=>by
   obtain⟨n,y,rfl⟩:=fK.1 T;have:=pz ⟨n,d n y⟩;simp only at this;omega
  refine .c O (aes k uc _ _ D q M s) ?_;rintro _ _ ⟨rfl,F⟩;refine .D r O ?_;exact⟨rfl,f.1.trans F⟩
section
variable {X:aM Proofs.Tryz.prog}
open Extern in
def ab6(args:aK):Sem Value:=ReflectliteValue.unpack (args.getD 0 (.tuple #[]))
open Extern in
def agw:Array Value->Sem Value:=ReflectliteValue.methodAny (ReflectliteValue.valueError "reflectlite.Value.Type" 0) λt _ _ _=>ReflectliteType.toType t
open Extern in
def ab7:Array Value->Sem Value:=ReflectliteValue.method (ReflectliteValue.valueError "reflectlite.Value.IsNil" 0) ReflectliteValue.isNil
open Extern in
def agx:Array Value->Sem Value:=ReflectliteType.typeOf
open Extern in
def ab8:Array Value->Sem Value:=ReflectliteValue.method (ReflectliteValue.valueError "reflectlite.Value.Elem" 0) ReflectliteValue.elem
open Extern in
def ab9:Array Value->Sem Value:=ReflectliteValue.set
open Extern in
def aca:Array Value->Sem Value:=ReflectliteType.abiMethod λt=>(λa:Nat=>Value.int IntKind.u8 (a:Int))<$>Rtype.kind t
open Extern in
def agy:Array Value->Sem Value:=ReflectliteType.relation "AssignableTo" ReflectliteType.assignableTo
open Extern in
def agz:Array Value->Sem Value:=ReflectliteType.method ReflectliteType.elem
open Extern in
def agA:Array Value->Sem Value:=ReflectliteType.relation "Implements" ReflectliteType.implements_
def XV:Ext Tryz.prog 145 Tryz.f145 ab6:=⟨Tryz.func145,aN,rfl,aN,aN⟩
def aeW:Ext Tryz.prog 146 Tryz.f146 agw:=⟨Tryz.func146,aN,rfl,aN,aN⟩
def aeX:Ext Tryz.prog 147 Tryz.f147 ab7:=⟨Tryz.func147,aN,rfl,aN,aN⟩
def aeY:Ext Tryz.prog 184 Tryz.f184 agx:=⟨Tryz.func184,aN,rfl,aN,aN⟩
def aeZ:Ext Tryz.prog 185 Tryz.f185 ab8:=⟨Tryz.func185,aN,rfl,aN,aN⟩
def ae0:Ext Tryz.prog 186 Tryz.f186 ab9:=⟨Tryz.func186,aN,rfl,aN,aN⟩
def XW:Ext Tryz.prog 295 Tryz.f295 aca:=⟨Tryz.func295,aN,rfl,aN,aN⟩
def ae3:Ext Tryz.prog 322 Tryz.f322 agy:=⟨Tryz.func322,aN,rfl,aN,aN⟩
def ae4:Ext Tryz.prog 324 Tryz.f324 agz:=⟨Tryz.func324,aN,rfl,aN,aN⟩
def ae5:Ext Tryz.prog 325 Tryz.f325 agA:=⟨Tryz.func325,aN,rfl,aN,aN⟩
abbrev qT(t:Nat):Value:=.pointer (some ⟨7,t,none⟩)
abbrev TQ(t:Nat):Value:=.iface 318 (.agg #[qT t])
section
variable {R:LH}{Q:bC}{H:bC}{c:FuncId×Value->LH->Prop}
def ah1(d:Value):aP Tryz.prog Q H (ab6 #[.iface 214 (.agg #[d])]) R=∀b,R b=none->Q (.agg #[qT 214,.pointer (some ⟨b,0,none⟩),.int .u64 153]) (R.put b (.cells #[d] 214)):=aN
def ah2(a:Addr):aP Tryz.prog Q H (ab6 #[.iface 216 a]) R=∀b,R b=none->Q (.agg #[qT 216,.pointer (some ⟨b,0,none⟩),.int .u64 150]) (R.put b (.cells #[a] 216)):=aN
def ajq(a:Addr):aP Tryz.prog Q H (agw #[.agg #[qT 216,a,.int .u64 150]]) R=Q (TQ 216) R:=aN
def ac6(h:Value):aP Tryz.prog c H (method (Tryz.prog.types.size+Made.depth) 318 (.agg #[h]) "Kind") R=c (295,h) R:=by kernel_rfl
def ahA(h:Value):aP Tryz.prog c H (method (Tryz.prog.types.size+Made.depth) 318 (.agg #[h]) "Elem") R=c (324,.agg #[h]) R:=by kernel_rfl
def ahB(h:Value):aP Tryz.prog c H (method (Tryz.prog.types.size+Made.depth) 318 (.agg #[h]) "Implements") R=c (325,.agg #[h]) R:=by kernel_rfl
def ahz(h:Value):aP Tryz.prog c H (method (Tryz.prog.types.size+Made.depth) 318 (.agg #[h]) "AssignableTo") R=c (322,.agg #[h]) R:=by kernel_rfl
def ah4:aP Tryz.prog Q H (aca #[qT 216]) R=Q (.int .u8 22) R:=aN
def ah3:aP Tryz.prog Q H (aca #[qT 214]) R=Q (.int .u8 25) R:=aN
def ajw:aP Tryz.prog Q H (agz #[.agg #[qT 216]]) R=Q (TQ 214) R:=aN
def ajx:aP Tryz.prog Q H (agA #[.agg #[qT 214],TQ 161]) R=Q true R:=aN
def ajs(v:Value):aP Tryz.prog Q H (agx #[.iface 214 v]) R=Q (TQ 214) R:=aN
def ajv:aP Tryz.prog Q H (agy #[.agg #[qT 214],TQ 214]) R=Q true R:=aN
end
open Extern
def rlm(z:Sem Value)(f:TypeId->Addr->Nat->Nat->Sem Value)(v:Value):
  ReflectliteValue.method z f #[v]=(do match <-ReflectliteValue.parts v with | none=>z | some (t,a,fl)=>f t a fl (fl % 32)):=rfl
def rls(v x:Value):ReflectliteValue.set #[v,x]=(do
  let(some (dst,a,fl),some (src,b,_)):=(<-ReflectliteValue.parts v,<-ReflectliteValue.parts x)
   | unsupported (.noEntry "extern/(internal/reflectlite.Value).Set.zeroValue")
  if fl / ReflectliteValue.flagAddr % 2==0 then unsupported (.noEntry "extern/(internal/reflectlite.Value).Set.unaddressable")
  let g <-loadVar src b
  if <-Rtype.directlyAssignable dst src then storeVar dst a g
  else if <-Rtype.implements dst src then
   if(<-Rtype.kind src)==20 then
    match g with
    | .nilIface=>unsupported (.noEntry "extern/reflectlite: a nil value of one interface type handed on as a value of another")
    | _=>storeVar dst a g
   else storeVar dst a (.iface src g)
  else panicString ("reflectlite.Set: value of type "++(<-Rtype.spelt src)++ " is not assignable to type "++(<-Rtype.spelt dst))
  pure (.tuple #[])):=rfl
section
variable {R:LH}{Q:bC}{H:Value->LH->Prop}
def N7(a:Addr){Q:Xg}:aP Tryz.prog Q H (ReflectliteValue.parts (.agg #[qT 216,a,.int .u64 150])) R=Q (some (216,a,150)) R:=aN
def Ww(a:Addr){Q:Xg}:aP Tryz.prog Q H (ReflectliteValue.parts (.agg #[qT 214,a,.int .u64 409])) R=Q (some (214,a,409)) R:=aN
def aaq(a:Addr){Q:Xg}:aP Tryz.prog Q H (ReflectliteValue.parts (.agg #[qT 214,a,.int .u64 153])) R=Q (some (214,a,153)) R:=aN
def acb{Q:Option TypeId->LH->Prop}:aP Tryz.prog Q H (Rtype.elem? 216) R=Q (some 214) R:=aN
def ahE(p:Addr):aP Tryz.prog Q H (ReflectliteValue.mk 214 p ReflectliteValue.flagAddr) R=Q (.agg #[qT 214,p,.int .u64 409]) R:=aN
def VA{Q:mc}:aP Tryz.prog Q H (Rtype.directlyAssignable 214 214) R=Q true R:=aN
def ajr{a:Addr}(d:R.cell? ⟨n,0,none⟩=a):aP Tryz.prog Q H (ab7 #[.agg #[qT 216,.pointer (some ⟨n,0,none⟩),.int .u64 150]]) R=Q false R:=by
 unfold ab7;rw[rlm,Z,N7];show aP Tryz.prog Q H (ReflectliteValue.isNil 216 ⟨n,0,none⟩ 150 22) R=_;have:ReflectliteValue.isNil 216 ⟨n,0,none⟩ 150 22=(do match <-loadVar 216 ⟨n,0,none⟩ with | .chan none | .nilFunc | .nilIface | .map none | .pointer none | .slice none _ _=>pure true | _=>pure false):=rfl;rw[this,Z,rM XD d]
 rfl
def ajt{a:Addr}(d:R.cell? ⟨n,0,none⟩=some (.pointer (some a))):aP Tryz.prog Q H (ab8 #[.agg #[qT 216,.pointer (some ⟨n,0,none⟩),.int .u64 150]]) R=Q (.agg #[qT 214,.pointer (some a),.int .u64 409]) R:=by
 unfold ab8;rw[rlm,Z,N7];show aP Tryz.prog Q H (ReflectliteValue.elem 216 ⟨n,0,none⟩ 150 22) R=_;have:ReflectliteValue.elem 216 ⟨n,0,none⟩ 150 22=(do match 22,<-loadVar 216 ⟨n,0,none⟩,<-Rtype.elem? 216 with | 20,i,_=>ReflectliteValue.unpack i | 22,.pointer none,_=>pure ReflectliteValue.zeroV | 22,.pointer (some p),some e=>ReflectliteValue.mk e p ReflectliteValue.flagAddr | _,_,_=>ReflectliteValue.valueError "reflectlite.Value.Elem" 22):=rfl;rw[this,Z,rM XD d,Z,acb];exact ahE a
def aju{x y:Value}(d:R.cell? ⟨k,0,none⟩=x)(u:single x=true)(s:R n=some (.cells #[y] e (0,0),true))(c:∀r,r n=some (.cells #[x] e (0,0),true)->(∀b,b≠n->r b=R b)->Q (.tuple #[]) r):
  aP Tryz.prog Q H (ab9 #[.agg #[qT 214,.pointer (some ⟨n,0,none⟩),.int .u64 409],.agg #[qT 214,.pointer (some ⟨k,0,none⟩),.int .u64 153]]) R:=by
 unfold ab9;rw[rls,Z,Ww,Z,aaq];simp only;rw[A V,Z,rN aez Ue (vs:=[x]) ⟨rfl,λi v z=>by
  cases i with
  | zero=>simp at z;subst z;exact d
  | succ i=>simp at z⟩,Z,VA]
 simp only[if_true];rw[Z];unfold storeVar;rw[Z,cQ Ue];refine ky (e:=e) [x] 0 _ R s U (λv g=>by cases dJ.1 g;exact u) (λr f q=>?_);exact c r (by rw[f];rfl) q
end
end
def kA(L:LH):Prop:=L.cell? ⟨0,0,none⟩=(TQ 161)
def kA.le(h:kA L)(o:Le L R):kA R:=o.cell h
def Y3(t:Value)(L:LH):Sp X 109 [.nilIface,t] L (λv u=>v=false/\L=u):=by
 refine Sp.e Tryz.func109 O λC j d r=>(.g O ?_);exact .r r O ⟨rfl,rfl⟩
def adI{b:Nat}{x y:Value}(u:single x=true)(d:L.cell? ⟨b,0,none⟩=x)(s:L n=some (.cells #[y] 214 (0,0),true)):
  pK Tryz.prog 186 [.agg #[qT 214,.pointer (some ⟨n,0,none⟩),.int .u64 409],.agg #[qT 214,.pointer (some ⟨b,0,none⟩),.int .u64 153]] L (λv i=>v=.tuple #[]/\i=L.put n (.cells #[x] 214)):=
 ⟨_,_,ae0,λR l=>aju (l.cell d) u (l _ _ s) λr q z=>⟨_,⟨rfl,rfl⟩,Post.set l s q z⟩⟩
def ag3(a b:Nat)(d y:Value)(t:Value)(g:single d=true)(L:LH)(c:L.cell? ⟨b,0,none⟩=some (.pointer (some ⟨a,0,none⟩)))(s:L a=some (.cells #[y] 214 (0,0),true)):
  Sp X 148 [.iface 214 (.agg #[d]),t,.agg #[qT 216,.pointer (some ⟨b,0,none⟩),.int .u64 150],TQ 214] L (λv z=>v=true/\z a=some (.cells #[d] 214 (0,0),true)/\∀f x,f≠a->L f=some x->z f=x):=by
 refine Sp.e Tryz.func148 O λC j w r=>(.g O ?_);refine .loop (λm E B z=>m=0/\E=[(0,.v (.iface 214 (.agg #[d]))),(3,.v (TQ 214)),(6,.p 0 0)]/\B=[some ⟨cL (.v (.agg #[qT 216,.pointer (some ⟨b,0,none⟩),.int .u64 150])),269⟩]/\L=z) ⟨rfl,rfl,rfl,rfl⟩ ⟨rfl,rfl,rfl,aE⟩ ⟨rfl,aE⟩ ?_
 rintro _ _ _ _ ⟨rfl,rfl,rfl,rfl⟩ again;refine .v O (Ef.ext O (pK.pure aeY λ_ _ _=>ajs _)) ?_;rintro _ _ _ ⟨_,rfl,rfl,rfl,rfl⟩;refine .v O (Ef.inv O O O (λ_ _ _=>ahz _) (.inr (pK.pure ae3 λ_ _ _=>ajv))) ?_;rintro _ _ _ ⟨_,rfl,rfl,rfl,rfl⟩;refine .N O (.v O (Ef.ext O (pK.read aeZ λ_ _ R l=>ajt (l.cell c))) ?_);rintro _ _ _ ⟨_,rfl,rfl,rfl,rfl⟩;refine .v O (Ef.ext O (pK.alloc XV λ_ _ _=>ah1 _)) ?_;rintro _ _ _ ⟨_,rfl,rfl,k,q,rfl,rfl⟩;refine .g O ?_;have i:a≠k:=λe=>by subst e;rw[s] at q;cases q
 refine .e O (Ef.ext O (adI g (aF (aj _ _ _) O) ((aB _ _ i).trans s))) ?_;rintro _ _ _ ⟨_,rfl,rfl,rfl,rfl⟩;refine .D r O ⟨rfl,aj _ _ _,λf x o u=>by rw[aB _ _ o,aB _ _ (λe=>by subst e;rw[q] at u;cases u)];exact u⟩
def agQ(a:Nat)(d y:Value)(g:single d=true)(L:LH)(c:kA L)(s:L a=some (.cells #[y] 214 (0,0),true)):
  Sp X 109 [.iface 214 (.agg #[d]),.iface 216 (.pointer (some ⟨a,0,none⟩))] L (λv o=>v=.bool true/\o a=some (.cells #[d] 214 (0,0),true)/\∀b x,b≠a->L b=some x->o b=x):=by
 refine Sp.e Tryz.func109 O λC j p r=>(.v O (Ef.ext O (pK.alloc XV λ_ _ _=>ah2 _)) ?_);rintro _ _ _ ⟨_,rfl,rfl,k,m,rfl,rfl⟩;refine .g O ?_;have i:a≠k:=λe=>by subst e;rw[s] at m;cases m
 have t:=aF (aj L k (.cells #[.pointer (some ⟨a,0,none⟩)] 216)) (off:=0) (v:=.pointer (some ⟨a,0,none⟩)) rfl;refine .e O (Ef.ext O (pK.pure aeW λ_ _ _=>ajq _)) ?_;rintro _ _ _ ⟨_,rfl,rfl,rfl,rfl⟩;refine .v O (Ef.inv O O O (λ_ _ _=>ac6 _) (.inr (pK.pure XW λ_ _ _=>ah4))) ?_;rintro _ _ _ ⟨_,rfl,rfl,rfl,rfl⟩;refine .K O (.v O (Ef.ext O (pK.read aeX λ_ _ R l=>ajr (l.cell t))) ?_);rintro _ _ _ ⟨_,rfl,rfl,rfl,rfl⟩;refine .K O (.v O (Ef.inv O O O (λ_ _ _=>ahA _) (.inr (pK.pure ae4 λ_ _ _=>ajw))) ?_);rintro _ _ _ ⟨_,rfl,rfl,rfl,rfl⟩;refine .v O (Ef.inv O O O (λ_ _ _=>ac6 _) (.inr (pK.pure XW λ_ _ _=>ah3))) ?_;rintro _ _ _ ⟨_,rfl,rfl,rfl,rfl⟩;refine .N O (.G O (Vf.l O (c.le (Le.put m _))) (.v O (Ef.inv O O O (λ_ _ _=>ahB _) (.inr (pK.pure ae5 λ_ _ _=>ajx))) ?_));rintro _ _ _ ⟨_,rfl,rfl,rfl,rfl⟩;refine .K O (.o O (ag3 a k d y _ g _ t ((aB _ _ i).trans s)) ?_);rintro _ _ ⟨rfl,q,z⟩;refine .D r O ?_;exact⟨rfl,q,λb x f u=>z b x f (by rw[aB _ _ (λe=>by subst e;rw[m] at u;cases u)];exact u)⟩
def bz.nil{α:Type}{L:LH}{k:Nat}{h:α->List Value}{r:List α}(c:bz L none k h r):r=[]:=by
 cases r with
 | nil=>rfl
 | cons x r=>let⟨a,q⟩:=c.addr (i:=0) U;cases q
def bz.empty:bz L d k h ([]:List α):=λi x u=>by simp at u
def NK(a:Int)(L:LH):Sp X 188 [a] L (λv u=>v=false/\L=u):=by
 refine Sp.e Tryz.func188 O λC j d r=>(.g O ?_);exact .r r O ⟨by simp[lv],rfl⟩
def aeO(a b:Int)(L:LH):Sp X 150 [a,b] L (λv u=>v=I6 a b/\L=u):=by
 refine Sp.e Tryz.func150 O λC j d r=>(.y O (NK _ _) (.y O (NK _ _) (.K O (.g O ?_))));refine .F O (.I O (λc=>W.go 99 O ?_) (λc=>W.go 99 O ?_))
 .exact .r r O ⟨by unfold I6;rw[ax lA];rfl,rfl⟩
 refine .s O (λc2=>W.go 99 O ?_) (λc2=>W.go 99 O ?_)
 .exact .r r O ⟨by unfold I6;rw[A lA,ax uT];rfl,rfl⟩
 .exact .r r O ⟨by unfold I6;rw[A lA,A uT];rfl,rfl⟩
def Rs(l h:bA)(p I:Nat)(a b:aH)(L:LH)(s:bK L l a)(d:bK L h b)(u:a.length<=1000000)(q:b.length<=1000000):Sp X 112 [.slice l a p,.slice h b I] L (λv k=>v=.int .i64 (cmpL a b)/\L=k):=by
 refine Sp.e (n:=36) Tryz.func112 O λC j J r=>?_;refine .g O ?_;refine .l (λm E B k=>∃i:Nat,m=a - i/\i<=a/\i<=b/\cmpL (a.drop i) (b.drop i)=cmpL a b/\E=[(0,.v (.slice l a.length p)),(1,.v (.slice h b.length I)),(9,.v (.slice l a.length p)),(10,.v (.int .i64 a.length)),(11,.v (.int .i64 i))]/\B=[]/\L=k) ⟨0,rfl,M,M,U,rfl,rfl,rfl⟩ ?_ ⟨rfl,rfl,rfl,rfl,rfl,aE⟩
 rintro _ _ _ _ ⟨i,rfl,K,D,c,rfl,rfl,rfl⟩ again;refine .I O (λe=>W.go 99 O ?_) (λe=>W.go 99 O ?_)
 .have f:i<a.length:=by simpa using e
  have hd:=lj f;obtain⟨w,rfl⟩:=s.addr f;refine .u O (Vf.b O O (f)) (.G O (Vf.l O (s.int (bX f))) (.I O (λg=>W.go 99 O ?_) (λg=>W.go 99 O ?_)))
  .have y:b.drop i=[]:=nX (by simp at g;omega);exact .r r O ⟨by rw[<-c,hd,y];rfl,rfl⟩
  have t:i<b.length:=by simp at g;omega
  have z:=lj t;obtain⟨F,rfl⟩:=d.addr t;refine .u O (Vf.b O O (t)) (.G O (Vf.l O (d.int (bX t))) (.y O (aeO _ _ _) (.I O (λx=>W.go 99 O ?_) (λx=>W.go 99 O ?_))))
  .exact .r r O ⟨by rw[<-c,hd,z,cmpL,ax Lu];rfl,rfl⟩
  .exact .a (again _ _ _ _ M ⟨i+1,rfl,M,M,by rw[<-c,hd,z,cmpL,A Lu],rfl,rfl,rfl⟩) ⟨rfl,rfl,rfl,rfl,aJ some (cr M),aE⟩
 .have f:a.drop i=[]:=nX Av;have o:i=a.length:=by simp at e;omega
  refine .s O (λg=>W.go 99 O ?_) (λg=>W.go 99 O ?_)
  .have t:i<b.length:=by simp at g;omega
   exact .r r O ⟨by rw[<-c,f,lj t];rfl,rfl⟩
  .have t:b.drop i=[]:=nX (by simp at g;omega);exact .r r O ⟨by rw[<-c,f,t];rfl,rfl⟩
def UY(u:bA)(c:Nat)(l:aH)(L:LH)(h:bz L u 1 bL l)(y:l.length<=1000000):Sp X 97 [.slice u l c] L (sz L 1 bL l):=by
 refine Sp.e Tryz.func97 O λC j v r=>(.I O (λq=>W.go 99 O ?_) (λq=>W.go 99 O ?_))
 .have e:u=none:=by cases u with | none=>rfl | some a=>simp at q
  subst e;obtain rfl:=h.nil;refine .r r O ⟨none,0,rfl,Le.refl _,bz.empty,dA _⟩
 refine .cz 5 (.inr ⟨_,_,_,rfl⟩) O O λb d _=>?_;refine .e O (Ef.grow O O O O O O O O O aY gf (bE.new (Le.put d _) (aj _ _ _) d) (.sl (h.le (Le.put d _)) aY O) bU) ?_;rintro _ _ _ ⟨i,rfl,rfl,z,_⟩;refine .D r O (z.rJ aY)
def afb:∀m:Nat,m<32->∀i:Nat,i<5->(IntKind.u8.wrap ((((BitVec.ofInt IntKind.u8.bits ((m:Int).fdiv (2 ^ min i IntKind.u8.bits))&&& BitVec.ofInt IntKind.u8.bits 1).toNat):Nat):Int)==1)=m.testBit i:=iu
def afc(m i:Nat)(o:m<32)(u:i<5)(L:LH):Sp X 107 [.int .u8 m,i] L (λv q=>v=m.testBit i/\L=q):=by
 refine Sp.e Tryz.func107 O λC j d r=>(.g O ?_);exact .r r O ⟨by rw[<-afb m o i u];rfl,rfl⟩
def aek:∀m:Nat,m<32->∀i:Nat,i<5->IntKind.u8.wrap ((((BitVec.ofInt IntKind.u8.bits (m:Int)||| BitVec.ofInt IntKind.u8.bits (IntKind.u8.wrap (1 * 2 ^ min i IntKind.u8.bits))).toNat):Nat):Int)=((m||| 2 ^ i:Nat):Int):=iu
def ael(m i:Nat)(o:m<32)(u:i<5)(L:LH):Sp X 139 [.int .u8 m,i] L (λv q=>v=.int .u8 ((m||| 2 ^ i:Nat):Int)/\L=q):=by
 refine Sp.e Tryz.func139 O λC j d r=>(.g O ?_);exact .r r O ⟨by rw[<-aek m o i u];rfl,rfl⟩
def We(p:x7)(i:Nat):(cm ((List.range i).filter p))<=i:=by
 unfold cm;rw[eT];have:=BB p (List.range i)
 simpa using this
def uH(m:Nat)(o:m<32)(L:LH):Sp X 69 [.int .u8 m] L (sz L 1 bL (cm (bB m))):=by
 refine Sp.e Tryz.func69 O λC j t r=>(.g O ?_);refine .l (λn E B g=>∃(i:Nat) (v:Value),n=5 - i/\i<=5/\bE L 1 3 bL g v (cm ((List.range i).filter (m.testBit ·)))/\E=[(0,.v (.int .u8 m)),(3,.v v),(4,.f (.func 107) [] []),(6,.v (.int .i64 i))]/\B=[]) ⟨0,_,rfl,M,bE.nil (Le.refl _),rfl,rfl⟩ ?_
 rintro _ _ _ h ⟨i,v,rfl,q,u,rfl,rfl⟩ again;refine .I O (λc1=>W.go 99 O ?_) (λc1=>W.go 99 O ?_)
 .have a:i<5:=by simp at c1;omega
  have d:=BT (m.testBit ·) i;refine .e O (Ef.uz O O O (Sp.LJ (afc m i o a h))) ?_;rintro _ _ _ ⟨_,rfl,rfl,rfl,rfl⟩;refine .I O (λc2=>W.go 99 O ?_) (λc2=>W.go 99 O ?_)
  .refine .e O (Ef.grow O O O O O O O O O aY gf u (ls:=[(i:Int)]) (.own O O O O) (by have:=We (m.testBit ·) i;simp[mW];omega)) ?_;rintro _ _ _ ⟨b,rfl,rfl,z,_⟩;refine .g O (.a (again _ _ _ _ M ⟨i+1,b,rfl,M,by rw[d,ax c2,CN];exact z,rfl,rfl⟩) ⟨rfl,rfl,rfl,aJ some (cr M),aE⟩)
  .exact .a (again _ _ _ _ M ⟨i+1,v,rfl,M,by rw[d];simpa [c2] using u,rfl,rfl⟩) ⟨rfl,rfl,rfl,aJ some (cr M),aE⟩
 .have a:i=5:=by simp at c1;omega
  subst a;refine .r r O (u.rJ aY)
def La(a b c:Int)(L:LH)(s:0<=a/\a<=4000)(q:0<=b/\b<=4000)(z:0<=c/\c<=4000):Sp X 143 [.agg #[a,b,c]] L (λv u=>v=bu [a,b,c]/\Le L u):=by
 refine Sp.e Tryz.func143 O λC j d r=>(.g O (.cz 1 (.inl ⟨_,rfl⟩) O O ?_));intro k m _;refine .u O (Vf.Ie O Tryz.underlying143 wm V) (.g O ?_);let y:bK (L.put k (.cells #[.int .i64 a,.int .i64 b,.int .i64 c] 143)) (some ⟨k,0,none⟩) [a,b,c]:=cY aY (aj _ _ _);refine .p O (EH (some ⟨k,0,none⟩) 3 [a,b,c] _ y U bU) (.D r O ⟨rfl,Le.put m _⟩)
def SS(s:Sw)(p:Wp)(L:LH)(y:s.aC.length<=5):Sp X 68 [gZ s p] L (λv u=>v=.int .u8 ((2 ^ s.aC.length - 1:Nat):Int)/\L=u):=by
 refine Sp.e (n:=9) Tryz.func68 O λC j d r=>?_;refine .g O ?_;have:s.aC.length=0\/s.aC.length=1\/s.aC.length=2\/s.aC.length=3\/s.aC.length=4\/s.aC.length=5:=M
 refine .r r O ?_;refine⟨?_,rfl⟩;rcases this with e | e | e | e | e | e <;> rw[e] <;> rfl
def ZR(v:Value)(L:LH):Sp X 72 [v] L (λv u=>v=true/\L=u):=by
 refine Sp.e Tryz.func72 O λC j d r=>(.g O ?_);exact .r r O ⟨rfl,rfl⟩
abbrev v3(a b c:Int):Value:=.agg #[.int .i64 a,.int .i64 b,.int .i64 c]
def VZ(s:Sw)(p:Wp)(a b c:Int)(L:LH)(i:s.ay.length<=3):Sp X 106 [gZ s p,v3 a b c] L (sz L 1 bL ([a,b,c].take s.ay)):=by
 refine Sp.e Tryz.func106 O λC j d r=>(.g O (.cz 3 (.inl ⟨_,rfl⟩) O O ?_));intro k m _;refine .u O (Vf.af3 O O Tryz.underlying143 wm (show s.ay.length<=3 by omega) V) (.g O ?_);have y:bK (L.put k (.cells #[.int .i64 a,.int .i64 b,.int .i64 c] 143)) (some ⟨k,0,none⟩) [a,b,c]:=cY (e:=143) aY (aj _ _ _);have f:([a,b,c].take s.ay.length).length=s.ay.length:=bU
 have u:=UY (X:=X) (some ⟨k,0,none⟩) 3 ([a,b,c].take s.ay) _ (y.take s.ay) M;rw[f] at u;rw[<-j] at u;refine .c O u ?_;rintro _ _ ⟨l,q,rfl,v,z,x⟩;refine .D r O ?_;exact⟨l,q,rfl,(Le.put m _).trans v,z,x⟩
def wC{x:Want}(u:s.aC[n]?=x):aZ s (q++[n])=aZ s q++[x]:=by
 unfold aZ;rw[Fh];simp[u]
def FJ(w:aU)(j:Nat):(cm w)[j]?=(w[j]?).map λ(n:Nat)=>(n:Int):=by unfold cm;rw[im]
def jF(w:aU):(cm w)=w.length:=by simp[cm]
def oE(m:Nat):(bB m).length<=5:=by
 unfold bB;have:=BB (m.testBit ·) (List.range 5)
 simpa using this
def tn(s:Sw)(w:aU):Prop:=∀i∈w,i<s.aC
def xI{x:Want}(u:s.aC[n]?=x):fb s (q++[n])=fb s q+x.pay:=by
 unfold fb;rw[wC u,iq,iH,nG,lz]
def P3(v:eD s)(w:aU):0<=fb s w/\fb s w<=30 *w:=by
 unfold fb;let q:=kH 30 ((aZ s w).map (·.pay)) λx u=>by
  obtain⟨y,g,rfl⟩:=fK.1 u;let⟨i,_,d⟩:=Fc.1 g;have:=v.wt y (fZ d);exact⟨this.p0,by have:=this.p1;omega⟩
 let z:((aZ s w).map (·.pay))<=w.length:=by
  rw[eT];exact List.length_filterMap_le _ _
 exact⟨q.1,M⟩
def P4(s:Sw)(p:Wp)(m:Nat)(L:LH)(a:eE L s p)(f:eD s)(Q:m<32)(R:tn s (bB m)):Sp X 73 [gZ s p,.int .u8 m] L (λv k=>v=fb s (bB m)/\Le L k):=by
 refine Sp.e (n:=26) Tryz.func73 O λC hX d r=>?_;refine .o O (uH m Q L) ?_;rintro _ _ ⟨l,I,rfl,g,c,S⟩;refine .g O ?_;rename_i h;have a:=a.le g;have T:=oE m;generalize bB m=w at *;rw[jF];refine .l (λn E B k=>∃(j:Nat),n=w.length - j/\j<=w.length/\h=k/\E=[(2,.p 0 0),(5,.v (.int .i64 (fb s (w.take j)))),(9,.v (.slice l w.length I)),(10,.v (.int .i64 w.length)),(11,.v (.int .i64 j))]/\B=[some ⟨cL (.v (gZ s p)),132⟩]) ⟨0,rfl,M,rfl,rfl,rfl⟩ ?_
 rintro _ _ _ _ ⟨j,rfl,t,rfl,rfl,rfl⟩ again;refine .I O (λJ=>W.go 99 O ?_) (λJ=>W.go 99 O ?_)
 .have o:j<w.length:=by simpa using J
  have b:w[j]?=some w[j]:=bX o;have K:=R _ (fZ b);have z:w.take (j+1)=w.take j++[w[j]]:=ja o;generalize w[j]=i at *;have u:s.aC[i]?=some s.aC[i]:=bX K;have u1:=P3 f (w.take j);have y:=P3 f (w.take (j+1));rw[z,xI u] at y;simp only[eX,mi,mW] at y;obtain⟨u2,rfl⟩:=c.addr (show j<(cm w).length by rw[jF];exact o);obtain⟨H,D⟩:=a.wt.addr K;obtain⟨qa,qb,qc,qd,qe,q⟩:=p;obtain rfl:qc=some H:=D;have e:=a.wt;refine .u O (Vf.b O O (o)) (.G O (Vf.l O (c.int (x:=(i:Int)) (by rw[FJ,b];rfl))) (.G O (Vf.j O O (K)) (.g O ?_)));have F:h.cell? ((H.add (i * 4)).add 3)=some (.int .i64 s.aC[i].pay):=by rw[Dr];exact e.get u (j:=3) O
  refine .u O (Vf.l O (F)) (.g O ?_);exact .again (again _ _ _ _ M ⟨j+1,rfl,M,rfl,rfl,rfl⟩) ⟨rfl,aJ some (Ra (by rw[z,xI u]) (by rw[z,xI u];omega) (by rw[z,xI u];omega)),rfl,rfl,aJ some (cr M),aE⟩ ⟨rfl,aE⟩
 .have G:j=w.length:=by simp at J;omega
  subst G;refine .r r O ?_;rw[lK];exact⟨rfl,g⟩
def I7:∀(a b:aU),decide (cmpL (cm a) (cm b)<0)=zU a b
 | [],[]=>rfl
 | [],_::_=>rfl
 | _::_,[]=>rfl
 | x::a,y::b=>by
  have l:=I7 a b;unfold cm at l ⊢;rw[iH,iH,cmpL,zU];unfold I6;rcases Nat.lt_trichotomy x y with h | h | h
  .rw[ax (show((x:Nat):Int)<(y:Int) by omega)];simp[h]
  .subst h;simp[l]
  .rw[A (show¬((x:Nat):Int)<(y:Int) by omega),ax (show((y:Nat):Int)<(x:Int) by omega)];let q:¬x<y:=by omega
   let z:x≠y:=M
   simp[q,z]
abbrev plV(t s d:Int×Int×Int)(a:Int):Value:=.agg #[.int .i64 t.1,.int .i64 t.2.1,.int .i64 t.2.2,.int .i64 s.1,.int .i64 s.2.1,.int .i64 s.2.2,.int .i64 d.1,.int .i64 d.2.1,.int .i64 d.2.2,.int .i64 a]
abbrev l3(x:Int×Int×Int):List Int:=[x.1,x.2.1,x.2.2]
def Sm3(x:Int×Int×Int):Prop:=(0<=x.1/\x.1<=4000)/\(0<=x.2.1/\x.2.1<=4000)/\(0<=x.2.2/\x.2.2<=4000)
def S9(t s d:Int×Int×Int)(a:Int)(L:LH)(l:Sm3 s)(x:Sm3 d)(J:0<=a/\a<=4000):Sp X 144 [plV t s d a] L (λv h=>v=↑(bu (l3 s) - bu (l3 d) - a)/\Le L h):=by
 let⟨i,s1,k⟩:=s;let⟨g,e,m⟩:=d;let⟨q,z,c⟩:=l;let⟨u,y,w⟩:=x;have p:bu [i,s1,k]=i+s1+k:=by simp[bu]
 have b:bu [g,e,m]=g+e+m:=by simp[bu]
 simp only at q z c u y w;refine Sp.e Tryz.func144 O λC K I r=>(.g rfl (.z (.run' [0,1,3,4,7,8] rfl (.c 2 rfl rfl (La i s1 k _ q z c) Q1 ?_))));rintro _ _ ⟨rfl,j⟩;refine .c 5 rfl rfl (La g e m _ u y w) (by rintro _ _ ⟨rfl,o⟩;exact j.trans o) ?_;rintro _ _ ⟨rfl,f⟩;refine .run' [6,9,10] O (.fin O (.g O ?_));rw[p,b,wrap64_in (i+s1+k - (g+e+m)) M M,wrap64_in _ M M,<-p,<-b];refine .r r O ⟨rfl,j.trans f⟩
abbrev aeV:List Value:=[.slice none 0 0,.slice none 0 0,.int .i64 0,.slice none 0 0]
abbrev swZ:Value:=.agg aeV.toArray
def Em(s:Sw)(p:Wp)(Q R:bA)(S T:Nat)(is k:aH)(L:LH)(h:eE L s p)(hn:Sm s)(h2:bK L Q is)(h3:bK L R k)(u5:is.length<=1000000)(b:k.length<=1000000):
  Sp X 66 [gZ s p,.slice Q is S,.slice R k.length T] L (λv L'=>Le L L'/\((uL s is k≠0/\v=.tuple #[swZ,.int .i64 (uL s is k)])\/(uL s is k=0/\v=.tuple #[gZ s p,.int .i64 0]))):=by
 have n1:=hn.hl;have n3:=hn.hw;refine Sp.e (n:=52) Tryz.func66 O λC hX q5 r=>?_;refine .y O (MF s p L h hn) (.I O (λe1=>?_) (λe1=>?_))
 .refine .g O ?_;have I:e8 s≠0:=by simpa using e1
  have q:uL s is k=e8 s:=by unfold uL;rw[ax I]
  refine .r r O ?_;exact⟨Le.refl _,.inl ⟨by rw[q];exact I,by rw[q];rfl⟩⟩
 have I:e8 s=0:=xX
 have t:uL s is k=if(is.all λi=>cV i 0 ((s.ay.length:Int) - 1))&&k.all λd=>cV d 0 ((s.aC.length:Int) - 1) then 0 else 3:=by unfold uL;rw[A (by simp[I])]
 refine .de [22] 99 O (.cz 21 (.inr ⟨_,_,_,rfl⟩) O O ?_);intro c u1 _;refine .g O ?_;have e:=Le.put u1 (.cells #[.slice Q is.length S,.slice R k.length T] 22);have l:=aj L c (.cells #[.slice Q is.length S,.slice R k.length T] 22);generalize q6:L.put c (.cells #[.slice Q is.length S,.slice R k.length T] 22)=g at e l;refine .l (λm E B L'=>∃(i:Nat),m=2 - i/\i<=2/\g=L'/\(1<=i->(is.all λi=>cV i 0 ((s.ay.length:Int) - 1))=true)/\(2<=i->(k.all λd=>cV d 0 ((s.aC.length:Int) - 1))=true)/\E=[(3,.p 0 0),(6,.p 1 0),(21,.v (.slice (some ⟨c,0,none⟩) 2 2)),(22,.v (.int .i64 2)),(23,.v (.int .i64 i))]/\B=[some ⟨cL (.v (gZ s p)),52⟩,some ⟨cL (.v swZ),132⟩]) ⟨0,rfl,M,rfl,λh=>by omega,λh=>by omega,rfl,rfl⟩ ?_
 rintro _ _ _ _ ⟨i,rfl,hi,rfl,y,u6,rfl,rfl⟩ again;refine .I O (λq=>W.go 99 O ?_) (λq=>W.go 99 O ?_)
 .have u2:i<2:=by simp at q;omega
  refine .u O (Vf.b O O (u2)) ?_;obtain⟨ad,J,w,F,u3,u7,q3,z,q4,G⟩:∃(ad:bA) (J:Nat) (w:aH) (F:Nat),bK g ad w/\[Value.int .i64 s.ay.length,.int .i64 s.aC.length][i]?=some (.int .i64 F)/\F<=1000/\g.cell? ⟨c,i,none⟩=some (.slice ad w.length J)/\w.length<=1000000/\
    ((w.all λx=>cV x 0 ((F:Int) - 1))=true->(1<=i+1->(is.all λi=>cV i 0 ((s.ay.length:Int) - 1))=true)/\(2<=i+1->(k.all λd=>cV d 0 ((s.aC.length:Int) - 1))=true))/\((w.all λx=>cV x 0 ((F:Int) - 1))=false->uL s is k=3):=by
   obtain rfl | rfl:i=0\/i=1:=M
   .refine⟨Q,S,is,s.ay.length,h2.le e,rfl,M,aF l O,u5,λu=>⟨λ_=>u,λh=>by omega⟩,λu=>?_⟩;rw[t,u];rfl
   .refine⟨R,T,k,s.aC.length,h3.le e,rfl,M,aF l O,b,λu=>⟨λ_=>y (dA _),λ_=>u⟩,λu=>?_⟩;rw[t,u,zg];rfl
  obtain⟨G,u4⟩:=G;have K:g.cell? (Addr.add ⟨c,0,none⟩ i)=some (.slice ad w.length J):=by rw[bM,jJ];exact z
  refine .u O (Vf.l O (K)) (.g O ?_);refine .l (λm E B L'=>∃(j:Nat),m=w.length - j/\j<=w.length/\g=L'/\((w.take j).all λx=>cV x 0 ((F:Int) - 1))=true/\E=[(3,.p 0 0),(6,.p 1 0),(9,.v (.int .i64 i)),(21,.v (.slice (some ⟨c,0,none⟩) 2 2)),(22,.v (.int .i64 2)),(23,.v (.int .i64 i)),(28,.v (.slice ad w.length J)),(29,.v (.int .i64 w.length)),(30,.v (.int .i64 j))]/\B=[some ⟨cL (.v (gZ s p)),52⟩,some ⟨cL (.v swZ),132⟩]) ⟨0,rfl,M,rfl,rfl,rfl,rfl⟩ ?_
  rintro _ _ _ _ ⟨j,rfl,hj,rfl,H,rfl,rfl⟩ D;refine .I O (λe3=>W.go 99 O ?_) (λe3=>W.go 99 O ?_)
  .have o:j<w.length:=by simpa using e3
   obtain⟨xa,rfl⟩:=u3.addr o;have u8:w.take (j+1)=w.take j++[w[j]]:=ja o;refine .u O (Vf.b O O (o)) (.G O (Vf.l O (u3.int (bX o))) (.G O (Vf.index O O O Tryz.underlying202 wm um u2 u7) (.g O ?_)));rw[wrap64_in _ M M];refine .p O (gX _ _ _ _) (.I O (λe4=>W.go 99 O ?_) (λe4=>W.go 99 O ?_))
   .have a:cV w[j] 0 ((F:Int) - 1)=false:=by simpa using e4
    have h3:=u4 (by rw[List.all_eq_false];exact⟨w[j],fY o,by rw[a];simp⟩);refine .r r O ?_;exact⟨e,.inl ⟨by rw[h3];decide,by rw[h3];rfl⟩⟩
   .have a:cV w[j] 0 ((F:Int) - 1)=true:=by simpa using e4
    exact .again (D _ _ _ _ M ⟨j+1,rfl,M,rfl,by rw[u8,List.all_append,H];simpa using a,rfl,rfl⟩) ⟨rfl,rfl,rfl,rfl,rfl,rfl,rfl,rfl,aJ some (cr M),aE⟩ ⟨rfl,rfl,aE⟩
  .have u9:j=w.length:=by simp at e3;omega
   subst u9;rw[lK] at H;obtain⟨q1,q2⟩:=G H;exact .again (again _ _ _ _ M ⟨i+1,rfl,M,rfl,q1,q2,rfl,rfl⟩) ⟨rfl,rfl,rfl,rfl,aJ some (cr M),aE⟩ ⟨rfl,rfl,aE⟩
 .have q0:i=2:=by simp at q;omega
  subst q0;have f:uL s is k=0:=by rw[t,y M,u6 M];rfl
  refine .r r O ?_;exact⟨e,.inr ⟨f,rfl⟩⟩
def afG:∀m:Nat,m<32->∀i:Nat,i<5->m||| 2 ^ i<32:=iu
def NU:(∀i∈q,i<5)->qV q<32:=by
 generalize y:q.length=n
 induction n generalizing q with
 | zero=>intro _;rw[Dt] at y;subst y;decide
 | succ n l=>
  intro h;let u:q≠[]:=λe=>by subst e;simp at y
  obtain⟨k,x,rfl⟩:∃k x,q=k++[x]:=⟨q.dropLast,q.getLast u,(IP u).symm⟩;rw[zW];exact afG _ (l (by simp at y;omega) λi v=>h i (yT _ v)) _ (h x U)
def adz(s:Sw)(p:Wp)(I:bA)(c:Nat)(l:aH)(L:LH)(F:s.aC.length<=5)(o:bK L I l)(T:l.length<=1000000):
  Sp X 104 [gZ s p,.slice I l c] L (λv J=>L=J/\((wj s l≠0/\v=.tuple #[.int .u8 0,.int .i64 (wj s l)])\/(wj s l=0/\v=.tuple #[.int .u8 (qV (kl l)),.int .i64 0]))):=by
 refine Sp.e (n:=40) Tryz.func104 O λC j G r=>?_;refine .g O ?_;refine .l (λm E B J=>∃(i:Nat),m=l - i/\i<=l/\tK ((s.aC:Int) - 1) (Ac l i) (l.drop i)=wj s l/\(∀k∈kl (l.take i),k<5)/\L=J/\E=[(1,.v (.slice I l c)),(2,.p 0 0),(6,.v (.int .u8 (qV (kl (l.take i))))),(9,.v (.slice I l c)),(10,.v (.int .i64 l.length)),(11,.v (.int .i64 i))]/\B=[some ⟨cL (.v (gZ s p)),132⟩]) ⟨0,rfl,M,rfl,by simp[kl],rfl,rfl,rfl⟩ ?_
 rintro _ _ _ _ ⟨i,rfl,h1,z,b,rfl,rfl,rfl⟩ again;refine .I O (λK=>W.go 99 O ?_) (λK=>W.go 99 O ?_)
 .have t:i<l:=by simpa using K
  obtain⟨H,rfl⟩:=o.addr t;have D:l.take (i+1)=l.take i++[l[i]]:=ja t;rw[lj t,tK] at z;refine .u O (Vf.b O O (t)) (.G O (Vf.l O (o.int (bX t))) (.g O ?_));rw[wrap64_in ((s.aC:Int) - 1) M M];refine .p O (gX _ _ _ _) (.I O (λq=>W.go 99 O ?_) (λq=>W.go 99 O ?_))
  .rw[ax wu] at z;refine .r r O ?_;exact⟨rfl,.inl ⟨by rw[<-z];decide,by rw[<-z];rfl⟩⟩
  rw[A wu] at z;have Q:0<=l[i]/\l[i]<5:=by simp[cV] at q;omega
  have g:l[i]=((l[i].toNat:Nat):Int):=M
  have R:=NU b;have e:kl (l.take (i+1))=kl (l.take i)++[l[i].toNat]:=by unfold kl;rw[D,iq];rfl
  have y:∀k∈kl (l.take (i+1)),k<5:=λk hk=>by
   rw[e] at hk;rcases fg.1 hk with hk | hk
   .exact b k hk
   .rw[dJ.1 hk];omega
  have w:=ael (X:=C.X) (qV (kl (l.take i))) l[i].toNat R M L;rw[<-g,<-zW,<-e] at w;refine .s O (λu=>?_) (λu=>?_)
  .have h:0<i:=by simpa using u
   have a:Ac l i=some l[i - 1]:=by unfold Ac;rw[A M];exact bX M
   rw[a] at z;have S:IntKind.i64.wrap ((i:Int) - 1)=((i - 1:Nat):Int):=by rw[wrap64_in _ M M];omega
   refine .g O ?_;rw[S];refine .u O (Vf.b O O ((show i - 1<l.length by omega))) (.G O (Vf.l O (o.int (bX (show i - 1<l.length by omega)))) (.I O (λd=>W.go 99 O ?_) (λd=>W.go 99 O ?_)))
   .rw[ax (by simpa [Fx] using d)] at z;refine .r r O ?_;exact⟨rfl,.inl ⟨by rw[<-z];decide,by rw[<-z];rfl⟩⟩
   .rw[A (by simpa [Fx] using d)] at z;refine .p O w (.g O ?_);exact .again (again _ _ _ _ M ⟨i+1,rfl,M,by rw[vD t];exact z,y,rfl,rfl,rfl⟩) ⟨rfl,rfl,rfl,rfl,rfl,aJ some (cr M),aE⟩ ⟨rfl,aE⟩
  .have h:i=0:=by simp at u;omega
   subst h;refine .y O w (.g O ?_);exact .again (again _ _ _ _ M ⟨1,rfl,M,by rw[vD t];exact z,y,rfl,rfl,rfl⟩) ⟨rfl,rfl,rfl,rfl,rfl,aJ some (cr M),aE⟩ ⟨rfl,aE⟩
 .have x:i=l:=by simp at K;omega
  subst x;rw[List.drop_length] at z;have f:wj s l=0:=z.symm;refine .r r O ?_;rw[lK];exact⟨rfl,.inr ⟨f,rfl⟩⟩
def yx(s:Sw)(x:Want):Value:=
 if x.sort=0 then .iface 377 (.agg #[x.kind]) else if x.sort=1 then .iface 379 (.agg #[x.kind,x.cO]) else .iface 375 (.agg #[x.kind,kN s x])
def Kx(h:eD s)(x:Want):0<=kN s x/\kN s x<=36:=by
 let q:0<=bu ((fT s x.kind).take ((fT s x.kind) - x.cO.toNat))/\bu ((fT s x.kind).take ((fT s x.kind) - x.cO.toNat))<=36:=by
  let o:fT s x.kind∈s.ay\/fT s x.kind=[]:=by
   unfold fT;rw[dL];cases e:s.ay[x.kind.toNat]? with
   | none=>exact .inr rfl
   | some l=>exact .inl (fZ e)
  rcases o with o | o
  .let u:=h.lf _ o;have:=kH 9 ((fT s x.kind).take ((fT s x.kind) - x.cO.toNat)) λy g=>by have:=u.r y (yo g);omega
   let v:=u.l4;rw[mi] at this;omega
  .rw[o];simp[bu]
 have:=h.k0;unfold kN;omega
def Ti(h:eD s)(o:l∈s.ay):0<=bu l/\bu l<=36:=by
 let x:=h.lf _ o;have:=kH 9 l λy g=>by have:=x.r y g;omega
 let u:=x.l4;omega
def N2(s:Sw)(p:Wp)(x:Want)(L:LH)(W:eE L s p)(l:eD s)(u:Dq s.ay x):Sp X 183 [gZ s p,.agg (gj x).toArray] L (λv E=>v=yx s x/\L=E):=by
 refine Sp.e Tryz.func183 O λC hX d r=>(.I O (λF=>?_) (λF=>?_))
 .refine .g O ?_;have w:x.sort=0:=by simpa using F
  exact .r r O ⟨by unfold yx;rw[ax w];rfl,rfl⟩
 have w:¬x.sort=0:=by simpa using F
 refine .I O (λG=>?_) (λG=>?_)
 .refine .g O ?_;have g:x.sort=1:=by simpa using G
  exact .r r O ⟨by unfold yx;rw[A w,ax g];rfl,rfl⟩
 have g:¬x.sort=1:=Li
 have f:=u.s0;have h2:=u.s2;have H:=u.k0;have u1:=u.k1;have Q:=u.a0;have J:=u.a1;have u2:x.sort=2:=M
 rw[Dc,A g] at H;rw[Bp,A w] at Q;rw[Db,A w,A g] at J;have m:x.kind.toNat<s.ay.length:=M
 have o:s.ay[x.kind.toNat]?=some s.ay[x.kind.toNat]:=bX m;obtain⟨la,K⟩:=W.lo.addr m;have q:=W.lo;rw[K] at q;obtain⟨a,c,hc,R,u3⟩:=q.row o;have z:=Ej o;have k:fT s x.kind=s.ay[x.kind.toNat]:=z;rw[z] at J;have I:=l.lf _ (fZ o);have u4:=I.l4;obtain⟨qa,qb,qc,h,qe,qf⟩:=p;obtain rfl:qa=some la:=K;have b:kN s x=max 0 (bu ((s.ay[x.kind.toNat]).take ((s.ay[x.kind.toNat]).length - x.cO.toNat)) - s.jO):=by unfold kN;rw[k]
 have u5:=Kx l x;have B:=l.k0;have u6:=l.k3;have D:=kH 9 ((s.ay[x.kind.toNat]).take ((s.ay[x.kind.toNat]).length - x.cO.toNat)) λy S=>by have:=I.r y (yo S);omega
 rw[mi] at D;refine .G O (Vf.NH O O O O O O (show x.kind=((x.kind.toNat:Nat):Int) by omega) m) (.G O (Vf.l O (hc)) (.t O (.run' [0,1,2,3,4,5,6,7,10,11,12] O ?_)));obtain⟨j,t⟩:∃j,(s.ay[x.kind.toNat]).length - x.cO.toNat=j:=⟨_,rfl⟩;have hw:IntKind.i64.wrap (((s.ay[x.kind.toNat]).length:Int) - x.cO)=(j:Int):=by rw[wrap64_in _ M M];omega
 rw[t] at b D;have i:((s.ay[x.kind.toNat]).take j).length=j:=Lo
 have e:=EH (X:=C.X) a c ((s.ay[x.kind.toNat]).take j) L (R.take j) M λy S=>by have:=I.r y (yo S);omega
 rw[i] at e;rw[hw];refine .u 8 rfl (Vf.af4 rfl rfl Tryz.underlying22 wm (show j<=c by omega)) (.c 9 rfl rfl e jw ?_);rintro _ _ ⟨rfl,rfl⟩;refine .run' [13] O ?_;rw[wrap64_in _ M M];refine .run' [14,15,16,17] O (.fin O (.D r O ?_));refine⟨?_,rfl⟩;have T:(if bu ((s.ay[x.kind.toNat]).take j) - s.jO>0 then bu ((s.ay[x.kind.toNat]).take j) - s.jO else 0)=kN s x:=by
  rw[b];split <;> omega
 unfold yx;rw[A w,A g,<-T]
 rfl
def dC(P:Pl):List Value:=(P.t++P.s++P.d++[P.a]).map (Value.int .i64)
def B3(n:Int)(l:aH):Prop:=∃a b c,l=[a,b,c]/\(0<=a/\a<=n)/\(0<=b/\b<=n)/\(0<=c/\c<=n)
structure PB(n:Int)(P:Pl):Prop where
 t:B3 n P.t
 s:B3 n P.s
 d:B3 n P.d
 a:0<=P.a/\P.a<=n
def B3.mono{m:Int}(h:B3 c l)(o:c<=m):B3 m l:=let⟨a,b,d,e,q,z,r⟩:=h;⟨a,b,d,e,M,M,M⟩
def PB.mono{m:Int}{P:Pl}(h:PB c P)(o:c<=m):PB m P:=⟨h.t.mono o,h.s.mono o,h.d.mono o,by have:=h.a;omega⟩
def B3.add{c m:Int}{l:aH}(h:B3 c l)(k:Nat){x:Int}(f:0<=x)(q:x<=m):B3 (c+m) (kZ l k x):=by
 obtain⟨a,b,d,rfl,s,u,v⟩:=h
 match k with
 | 0=>exact⟨a+x,b,d,rfl,M,M,M⟩
 | 1=>exact⟨a,b+x,d,rfl,M,M,M⟩
 | 2=>exact⟨a,b,d+x,rfl,M,M,M⟩
 | k+3=>exact⟨a,b,d,by cases k <;> rfl,M,M,M⟩
def PB.serve(v:eD s){P:Pl}{x:Want}(u:Dq s.ay x)(h:PB c P):PB (c+60) (tL s P x):=by
 let b:=Kx v x;let f:=u.s0;let z:=u.s2;let q:=u.a0;let j:=u.a1;let y:c<=c+60:=M
 unfold tL
 split
 .exact⟨h.t.add _ M M,h.s.mono y,h.d.mono y,QH⟩
 .rename_i i
  split
  .rename_i p;rw[Bp,A i] at q;rw[Db,A i,ax p] at j
   split
   .exact⟨h.t.mono y,h.s.mono y,h.d.mono y,by have:=h.a;show 0<=P.a+x.cO/\P.a+x.cO<=c+60;omega⟩
   .exact⟨h.t.mono y,h.s.mono y,h.d.add _ M M,QH⟩
  .exact⟨h.t.add _ M M,h.s.add _ M M,h.d.mono y,QH⟩
def E4(b:Nat)(L:LH)(P:Pl)(v:Value)(L':LH):Prop:=v=.tuple #[]/\(∀b',b'≠b->L' b'=L b')/\L' b=some (.cells (dC P).toArray 263 (0,0),true)
def B3.len(h:B3 c l):l.length=3:=by obtain⟨a,b,d,rfl,_⟩:=h;rfl
def B3.get(h:B3 c l)(k:Nat):0<=l.getD k 0/\l.getD k 0<=c:=by
 obtain⟨a,b,d,rfl,s,u,q⟩:=h
 match k with
 | 0=>exact s
 | 1=>exact u
 | 2=>exact q
 | k+3=>simp;omega
def oI{P:Pl}(h:PB c P):(dC P).length=10:=by
 unfold dC;simp[h.t.len,h.s.len,h.d.len]
def Jf{P:Pl}(h:PB c P)(f:k<3):(dC P)[k]?=P.t.getD k 0:=by
 obtain⟨d,t1,t2,e,_⟩:=h.t;unfold dC;rw[e]
 match k,f with
 | 0,_=>rfl
 | 1,_=>rfl
 | 2,_=>rfl
def Sy{P:Pl}(h:PB c P)(f:k<3):(dC P)[3+k]?=P.s.getD k 0:=by
 let⟨d,t1,t2,e,_⟩:=h.t;let⟨i,s1,u,q,_⟩:=h.s;unfold dC;rw[e,q]
 match k,f with
 | 0,_=>rfl
 | 1,_=>rfl
 | 2,_=>rfl
def acf{P:Pl}(h:PB c P)(f:k<3):(dC P)[6+k]?=P.d.getD k 0:=by
 let⟨v,t1,t2,e,_⟩:=h.t;let⟨i,s1,z,q,_⟩:=h.s;let⟨g,a,m,u,_⟩:=h.d;unfold dC;rw[e,q,u]
 match k,f with
 | 0,_=>rfl
 | 1,_=>rfl
 | 2,_=>rfl
def ace{P:Pl}(h:PB c P):(dC P)[9]?=P.a:=by
 let⟨v,t1,t2,e,_⟩:=h.t;let⟨i,s1,k,q,_⟩:=h.s;let⟨g,z,m,u,_⟩:=h.d;unfold dC;rw[e,q,u]
 rfl
def Kq{P:Pl}(h:PB c P)(f:k<3)(j:n=k)(x:Int):bY (dC P).toArray n [↑(P.t.getD k 0+x)]=(dC {P with t:=kZ P.t k x}).toArray:=by
 rw[j];let⟨v,t1,t2,e,_⟩:=h.t;let⟨i,s1,z,q,_⟩:=h.s;let⟨g,a,m,u,_⟩:=h.d;unfold dC;simp[e,q,u]
 match k,f with
 | 0,_=>rfl
 | 1,_=>rfl
 | 2,_=>rfl
def TM{P:Pl}(h:PB c P)(f:k<3)(j:n=3+k)(x:Int):bY (dC P).toArray n [↑(P.s.getD k 0+x)]=(dC {P with s:=kZ P.s k x}).toArray:=by
 rw[j];let⟨v,t1,t2,e,_⟩:=h.t;let⟨i,s1,z,q,_⟩:=h.s;let⟨g,a,m,u,_⟩:=h.d;unfold dC;simp[e,q,u]
 match k,f with
 | 0,_=>rfl
 | 1,_=>rfl
 | 2,_=>rfl
def adx{P:Pl}(h:PB c P)(f:k<3)(j:n=6+k)(x:Int):bY (dC P).toArray n [↑(P.d.getD k 0+x)]=(dC {P with d:=kZ P.d k x}).toArray:=by
 rw[j];let⟨v,t1,t2,e,_⟩:=h.t;let⟨i,s1,z,q,_⟩:=h.s;let⟨g,a,m,u,_⟩:=h.d;unfold dC;simp[e,q,u]
 match k,f with
 | 0,_=>rfl
 | 1,_=>rfl
 | 2,_=>rfl
def adw{P:Pl}(h:PB c P)(x:Int):bY (dC P).toArray 9 [↑(P.a+x)]=(dC {P with a:=P.a+x}).toArray:=by
 let⟨v,t1,t2,e,_⟩:=h.t;let⟨i,s1,k,q,_⟩:=h.s;let⟨g,z,m,u,_⟩:=h.d;unfold dC;simp[e,q,u]
 rfl
def uf{d:Pl}{c:aK}(h:c=(dC d).toArray):E4 n L d (.tuple #[]) (L.put n (.cells c 263)):=
 ⟨rfl,λb x=>aB _ _ x,by subst h;exact aj _ _ _⟩
def WO(b:Nat)(k:Nat)(P:Pl)(L:LH)(u:k<3)(v:PB 4000 P)(d:L b=some (.cells (dC P).toArray 263 (0,0),true)):Sp X 334 [.agg #[k],pt b] L (E4 b L {P with t:=kZ P.t k 1}):=by
 let f:=oI v;let i:=v.t.get k;let z:L.cell? ((Addr.add ⟨b,0,none⟩ 0).add (k * 1))=P.t.getD k 0:=by rw[bM,bM];exact aF d (by rw[gq,vq,show 0+0+k=k by omega];exact Jf v u)
 refine Sp.e Tryz.func334 O λC j q r=>(.g rfl (.f (.run' [0,1,2,3,4,8,9] rfl (.u 5 rfl (Vf.qj rfl rfl rfl rfl rfl rfl (u)) (.a 6 rfl (Ef.val rfl (Vf.l rfl (z))) dV ?_)))));rintro _ _ _ ⟨rfl,rfl,rfl⟩;refine .run' [7] O ?_;rw[wrap64_in _ M M];refine .u 10 O (Vf.qj O O O O O O (u)) ?_;rw[bM,bM];refine .x 11 rfl (Ef.eR rfl ⟨_,rfl,rfl⟩ rfl d rfl QI (bQ rfl)) dV ?_;refine .fin O ?_;refine .g O ?_;exact W.lM r O O (uf (Kq v u (show 0+0+k * 1=k by omega) 1))
def T5(b:Nat)(k a:Int)(P:Pl)(L:LH)(q:k<0)(s:0<=a/\a<=100)(v:PB 4000 P)(d:L b=some (.cells (dC P).toArray 263 (0,0),true)):Sp X 335 [.agg #[k,a],pt b] L (E4 b L {P with a:=P.a+a}):=by
 let f:=oI v;let i:=v.a;let z:L.cell? (Addr.add ⟨b,0,none⟩ 9)=P.a:=by rw[bM];exact aF d (by rw[gq];exact ace v)
 refine Sp.e Tryz.func335 O λC j u r=>(.I O (λp=>W.go 99 O ?_) (λp=>W.go 99 O ?_))
 .refine .f (.run' [0,1,2,4,5] rfl (.x 3 rfl (Ef.val rfl (Vf.l rfl (z))) dV ?_));refine .run' [6] O ?_;rw[wrap64_in _ M M];refine .run' [7,8] rfl (.x 9 rfl (Ef.eR rfl ⟨_,rfl,rfl⟩ rfl d rfl (by rw[wG,f];show 0+9+1<=10;decide) (bQ rfl)) dV ?_);refine .fin O (.g O ?_);exact .r r O (uf (adw v a))
 .simp at p;omega
def T6(b:Nat)(k:Nat)(a:Int)(P:Pl)(L:LH)(u:k<3)(s:0<=a/\a<=100)(v:PB 4000 P)(q:L b=some (.cells (dC P).toArray 263 (0,0),true)):Sp X 335 [.agg #[k,a],pt b] L (E4 b L {P with d:=kZ P.d k a}):=by
 let f:=oI v;let o:=v.d.get k;let z:L.cell? ((Addr.add ⟨b,0,none⟩ 6).add (k * 1))=P.d.getD k 0:=by rw[bM,bM];exact aF q (by rw[gq,vq,show 0+6+k=6+k by omega];exact acf v u)
 refine Sp.e Tryz.func335 O λC j i r=>(.I O (λp=>W.go 99 O ?_) (λp=>W.go 99 O ?_))
 .simp at p;omega
 .refine .f (.run' [0,1,2,3,4,7,8,10,11] rfl (.u 5 rfl (Vf.qj rfl rfl rfl rfl rfl rfl (u)) (.x 6 rfl (Ef.val rfl (Vf.l rfl (z))) dV ?_)));refine .run' [9] O ?_;rw[wrap64_in _ M M];refine .u 12 O (Vf.qj O O O O O O (u)) ?_;rw[bM,bM];refine .x 13 rfl (Ef.eR rfl ⟨_,rfl,rfl⟩ rfl q rfl (by rw[wG,f];show 0+6+k * 1+1<=10;omega) (bQ rfl)) dV ?_;refine .fin O ?_;refine .g O ?_;exact W.lM r O O (uf (adx v u (show 0+6+k * 1=6+k by omega) a))
def WQ(b:Nat)(k:Nat)(a:Int)(P:Pl)(L:LH)(u:k<3)(D:0<=a/\a<=100)(v:PB 4000 P)(e:L b=some (.cells (dC P).toArray 263 (0,0),true)):Sp X 333 [.agg #[k,a],pt b] L (E4 b L {P with t:=kZ P.t k 1,s:=kZ P.s k a}):=by
 let f:=oI v;let F:=v.t.get k;let I:=v.s.get k;let z:L.cell? ((Addr.add ⟨b,0,none⟩ 0).add (k * 1))=P.t.getD k 0:=by rw[bM,bM];exact aF e (by rw[gq,vq];rw[show 0+0+k=k by omega];exact Jf v u)
 refine Sp.e (n:=28) Tryz.func333 O λC j J r=>?_;refine .g rfl (.f (.run' [0,1,2,3,4,8,9] rfl (.u 5 rfl (Vf.qj rfl rfl rfl rfl rfl rfl (u)) (.a 6 rfl (Ef.val rfl (Vf.l rfl (z))) dV ?_))));rintro _ _ _ ⟨rfl,rfl,rfl⟩;refine .run' [7] O ?_;rw[wrap64_in _ M M];refine .u 10 O (Vf.qj O O O O O O (u)) ?_;rw[bM,bM];refine .a 11 rfl (Ef.eR rfl ⟨_,rfl,rfl⟩ rfl e rfl QI (bQ rfl)) dV ?_;rintro _ _ _ ⟨rfl,rfl,rfl⟩;refine .fin O ?_;rename_i c;let p:=Kq v u (show 0+0+k * 1=k by omega) 1;let q:PB (4000+1) {P with t:=kZ P.t k 1}:=⟨B3.add (m:=1) v.t _ M M,v.s.mono M,v.d.mono M,by have:=v.a;show 0<=P.a/\P.a<=4000+1;omega⟩;have o:=oI q;have i:c.put b (.cells (bY (dC P).toArray (0+0+k * 1) [↑(P.t.getD k 0+1)]) 263) b=some (.cells (dC {P with t:=kZ P.t k 1}).toArray 263 (0,0),true):=by rw[p];exact aj _ _ _
 have y:∀g,g≠b->c.put b (.cells (bY (dC P).toArray (0+0+k * 1) [↑(P.t.getD k 0+1)]) 263) g=c g:=λg h=>aB _ _ h
 change W C _ _ _ _ _ (c.put b (.cells (bY (dC P).toArray (0+0+k * 1) [↑(P.t.getD k 0+1)]) 263))
 generalize c.put b (.cells (bY (dC P).toArray (0+0+k * 1) [↑(P.t.getD k 0+1)]) 263)=K at i y ⊢;have w:K.cell? ((Addr.add ⟨b,0,none⟩ 3).add (k * 1))=P.s.getD k 0:=by rw[bM,bM];exact aF i (by rw[gq,vq];rw[show 0+3+k=3+k by omega];exact Sy q u)
 refine .f (.run' [0,1,2,3,4,7,8,10,11] rfl (.u 5 rfl (Vf.qj rfl rfl rfl rfl rfl rfl (u)) (.a 6 rfl (Ef.val rfl (Vf.l rfl (w))) dV ?_)));rintro _ _ _ ⟨rfl,rfl,rfl⟩;refine .run' [9] O ?_;rw[wrap64_in (P.s.getD k 0+a) M M];refine .u 12 O (Vf.qj O O O O O O (u)) ?_;rw[bM,bM];refine .a 13 rfl (Ef.eR rfl ⟨_,rfl,rfl⟩ rfl i rfl QJ (bQ rfl)) dV ?_;rintro _ _ _ ⟨rfl,rfl,rfl⟩;refine .fin O ?_;refine .g O ?_;have l:=TM q u (show 0+3+k * 1=3+k by omega) a;exact W.lM r O O ⟨rfl,λg x=>(aB _ _ x).trans (y g x),(uf l).2.2⟩
def aaG{s:Sw}(q:eD s){C:Cx Tryz.prog}{E:cK}{B:aX}{L:LH}{w:fD}{m:bh}{t:ck}{l:cR}{o:cZ}{y z:aW}{n:fX}{x:Want}(u:Dq s.ay x){b:Nat}{P:Pl}(i:PB 4000 P)(d:L b=some (.cells (dC P).toArray 263 (0,0),true))(g:bZ E y=yx s x)(h:bZ E z=pt b):
  Ef C ⟨w,.call {callee:=.invoke y "muscovado/saw.serve",args:=#[z],argTypes:=n},m,t,l,o⟩ E B L (qM B (E4 b L (tL s P x))):=by
 let K:=u.s0;let D:=u.s2;let p:=u.k0;let I:=u.k1;let r:=q.l3;let F:=Kx q x;let a:=u.a0;let j:=u.a1;let k:nJ E [z]=some [pt b]:=by
  unfold nJ zy zy;rw[h]
  rfl
 let J:x.sort=0\/x.sort=1\/x.sort=2:=M
 unfold yx at g;unfold tL;rcases J with e | e | e
 .rw[ax e] at g ⊢;rw[Dc,A M] at p;let c:x.kind=((x.kind.toNat:Nat):Int):=by omega
  rw[c] at g;exact Ef.inv g O k (λQ H R=>by kernel_rfl) (.inl (WO b x.kind.toNat P L M i d))
 .rw[A M,ax e] at g ⊢;rw[Dc,ax e] at p;rw[Bp,A M] at a;rw[Db,A M,ax e] at j
  by_cases f:x.kind<0
  .rw[ax f];exact Ef.inv g O k (λQ H R=>by kernel_rfl) (.inl (T5 b x.kind x.cO P L f M i d))
  .rw[A f];let c:x.kind=((x.kind.toNat:Nat):Int):=by omega
   rw[c] at g;exact Ef.inv g O k (λQ H R=>by kernel_rfl) (.inl (T6 b x.kind.toNat x.cO P L M M i d))
 .rw[A M,A M] at g ⊢;rw[Dc,A M] at p;let c:x.kind=((x.kind.toNat:Nat):Int):=by omega
  rw[c] at g;exact Ef.inv g O k (λQ H R=>by kernel_rfl) (.inl (WQ b x.kind.toNat (kN s x) P L M M i d))
def Mg(v:eD s){x:Want}(u:s.aC[n]?=x):Dq s.ay x:=v.wt x (fZ u)
def Sk{w:aU}{x:Want}(u:s.aC[n]?=x):uB s (w++[n])=uB s w+if x.sort=2 then 1 else 0:=by
 unfold uB;rw[wC u,List.countP_append]
 by_cases e:x.sort=2 <;> simp[e]
def ab3(s:Sw)(w:aU):0<=uB s w/\uB s w<=w:=by
 unfold uB;let q:(aZ s w).countP (λx=>x.sort==2)<=(aZ s w).length:=List.countP_le_length;let z:(aZ s w).length<=w.length:=List.length_filterMap_le _ _;omega
def ab4(s:Sw)(p:Wp)(m:Nat)(L:LH)(a:eE L s p)(g:eD s)(hm:m<32)(hw:tn s (bB m)):Sp X 179 [gZ s p,.int .u8 m] L (λv I=>v=uB s (bB m)/\Le L I):=by
 refine Sp.e (n:=37) Tryz.func179 O λC hX d r=>?_;refine .o O (uH m hm L) ?_;rintro _ _ ⟨ad,J,rfl,c,b,u1⟩;refine .g O ?_;rename_i T;have a:=a.le c;have u2:=oE m;generalize bB m=w at *;rw[jF];refine .l (λn E B I=>∃(j:Nat),n=w.length - j/\j<=w.length/\T=I/\E=[(2,.p 0 0),(5,.v (.int .i64 (uB s (w.take j)))),(9,.v (.slice ad w.length J)),(10,.v (.int .i64 w.length)),(11,.v (.int .i64 j))]/\B=[some ⟨cL (.v (gZ s p)),132⟩]) ⟨0,rfl,M,rfl,rfl,rfl⟩ ?_
 rintro _ _ _ _ ⟨j,rfl,hj,rfl,rfl,rfl⟩ again;refine .I O (λK=>W.go 99 O ?_) (λK=>W.go 99 O ?_)
 .have o:j<w.length:=by simpa using K
  have k:w[j]?=some w[j]:=bX o;have D:=hw _ (fZ k);have F:w.take (j+1)=w.take j++[w[j]]:=ja o;generalize w[j]=i at *;have u:s.aC[i]?=some s.aC[i]:=bX D;have h:=Mg g u;have t:=Sk (w:=w.take j) u;rw[<-F] at t;have G:=ab3 s (w.take j);rw[mi] at G;obtain⟨u3,rfl⟩:=b.addr (show j<(cm w).length by rw[jF];exact o);obtain⟨y,H⟩:=a.wt.addr D;have l:=a;obtain⟨qa,qb,qc,qd,qe,q⟩:=p;obtain rfl:qc=some y:=H;have Q:=a.wt;refine .u O (Vf.b O O (o)) (.G O (Vf.l O (b.int (x:=(i:Int)) (by rw[FJ,k];rfl))) (.t O (.run' [0,1,2,3,4] O (.u 5 O (Vf.j O O (D)) ?_))));refine .u 6 rfl (Vf.q rfl (Q.whole u rfl)) (.c 7 rfl rfl (N2 s _ s.aC[i] T l g h) jw ?_);rintro _ _ ⟨rfl,rfl⟩;refine .fin O ?_;have f:=h.s0;have z:=h.s2;have R:s.aC[i].sort=0\/s.aC[i].sort=1\/s.aC[i].sort=2:=M
  rcases R with e | e | e
  .rw[show yx s s.aC[i]=.iface 377 (.agg #[.int .i64 s.aC[i].kind]) by unfold yx;rw[ax e]];rw[A M,Int.add_zero] at t;refine .K O (.N O (.g O ?_));exact .again (again _ _ _ _ M ⟨j+1,rfl,M,rfl,rfl,rfl⟩) ⟨rfl,by rw[t];rfl,rfl,rfl,aJ some (cr M),aE⟩ ⟨rfl,aE⟩
  .rw[show yx s s.aC[i]=.iface 379 (.agg #[.int .i64 s.aC[i].kind,.int .i64 s.aC[i].cO]) by unfold yx;rw[A M,ax e]];rw[A M,Int.add_zero] at t;refine .K O (.K O (.N O (.g O ?_)));exact .again (again _ _ _ _ M ⟨j+1,rfl,M,rfl,rfl,rfl⟩) ⟨rfl,by rw[t];rfl,rfl,rfl,aJ some (cr M),aE⟩ ⟨rfl,aE⟩
  .rw[show yx s s.aC[i]=.iface 375 (.agg #[.int .i64 s.aC[i].kind,.int .i64 (kN s s.aC[i])]) by unfold yx;rw[A M,A M]];rw[ax e] at t;refine .N O (.g O ?_);exact .again (again _ _ _ _ M ⟨j+1,rfl,M,rfl,rfl,rfl⟩) ⟨rfl,by rw[t];exact aJ some (Ra O M M),rfl,rfl,aJ some (cr M),aE⟩ ⟨rfl,aE⟩
 .have S:j=w.length:=by simp at K;omega
  subst S;refine .r r O ?_;rw[lK];exact⟨rfl,c⟩
def PB0:PB 0 Mw:=⟨⟨0,0,0,rfl,M,M,M⟩,⟨0,0,0,rfl,M,M,M⟩,⟨0,0,0,rfl,M,M,M⟩,by show(0:Int)<=0/\(0:Int)<=0;omega⟩
def BU{w:aU}{x:Want}(u:s.aC[n]?=x):oq s (w++[n])=tL s (oq s w) x:=by
 unfold oq;rw[wC u,zi];rfl
def PB.ahb(v:eD s){P:Pl}(o:0<=l.getD k 0/\l.getD k 0<=8)(h:PB c P):PB (c+288) (pX s l P k):=by
 let u:0<=bu (s.ay.getD k [])/\bu (s.ay.getD k [])<=36:=by
  rw[dL];cases e:s.ay[k]? with
  | none=>exact⟨V,V⟩
  | some y=>exact Ti v (fZ e)
 let q:=BA o.1 u.1;let z:=Dx o.2 u.2 u.1 V;exact⟨h.t.add _ o.1 M,h.s.add _ q M,h.d.mono M,by have:=h.a;show 0<=P.a/\P.a<=c+288;omega⟩
def afq{a b:Int}(f:k<3):nth [SV.v a,SV.v b,SV.v c] k=[a,b,c].getD k 0:=by
 match k,f with
 | 0,_=>rfl
 | 1,_=>rfl
 | 2,_=>rfl
def M5(L:LH)(b:Nat):L.bT b b=none:=Q3
def tJ(s:Sw)(w:aU)(l:aH)(k:Nat):Pl:=(List.range k).foldl (pX s l) (oq s w)
def Ep(s:Sw)(w:aU)(l:aH)(k:Nat):tJ s w l (k+1)=pX s l (tJ s w l k) k:=by
 unfold tJ;rw[nI,zi];rfl
def KM(v:eD s)(d:tn s q):∀j,j<=q.length->PB (60 *j) (oq s (q.take j)):=by
 intro j
 induction j with
 | zero=>intro _;exact PB0
 | succ j l=>
  intro t;let z:=bX t;let i:=d _ (fZ z);let u:=bX i;rw[ja t,BU u];have:=(l M).serve v (Mg v u)
  rwa [show 60 * (j:Int)+60=60 * ((j+1:Nat):Int) by omega] at this
def CS(v:eD s)(u:tn s q)(d:q.length<=5)(o:∀k,0<=l.getD k 0/\l.getD k 0<=8):∀k:Nat,PB (300+288 *k) (tJ s q l k):=by
 intro k
 induction k with
 | zero=>
  have:=KM v u q (dA _);rw[lK] at this;exact this.mono M
 | succ k z=>
  rw[Ep];have:=z.ahb v (o k)
  rwa [show 300+288 * (k:Int)+288=300+288 * ((k+1:Nat):Int) by omega] at this
def TF(s:Sw)(p:Wp)(m:Nat)(D G H:Int)(L:LH)(hs:eE L s p)(Q:eD s)(hm:m<32)(hw:tn s (bB m))(h0:0<=D/\D<=8)(h1:0<=G/\G<=8)(h2:0<=H/\H<=8):
  Sp X 142 [gZ s p,.int .u8 m,v3 D G H] L (λv L'=>v=.agg (dC (fh s (bB m) [D,G,H])).toArray/\Le L L'):=by
 let f1:=Q.l3;let g:∀k,0<=[D,G,H].getD k 0/\[D,G,H].getD k 0<=8:=λk=>by
  match k with
  | 0=>exact h0
  | 1=>exact h1
  | 2=>exact h2
  | k+3=>simp
 refine Sp.e (n:=63) Tryz.func142 O λC hX f2 r=>?_;refine .g O (.cz 7 (.inl ⟨_,rfl⟩) O O ?_);intro K v9 _;have q5:=Le.put v9 (.cells (dC Mw).toArray 263);have g7:=aj L K (.cells (dC Mw).toArray 263)
 change W _ _ _ _ _ _ (L.put K (.cells (dC Mw).toArray 263))
 generalize L.put K (.cells (dC Mw).toArray 263)=L0 at q5 g7 ⊢;refine .o O ((uH m hm (L0.bT K)).frame (gC L0 K)) ?_;rintro _ _ ⟨F,⟨ad,d6,rfl,d7,q6,d8⟩,q7⟩;refine .g O ?_;rename_i L1;have u1:F K=none:=by
  cases e:F K with
  | none=>rfl
  | some y=>
   rcases q7.fresh K xT with h | h
   .exact ar (M5 L0 K) h
   .rw[g7] at h;cases h
 have g1:L1 K=some (.cells (dC Mw).toArray 263 (0,0),true):=q7.keep _ _ (M5 L0 K) g7;have d9:=q7.le;have z1:Le L F:=(X4 v9 q5).trans d7;have hs:=hs.le z1;have z2:=oE m;have z3:∀j,j<=(bB m).length->PB 300 (oq s ((bB m).take j)):=λj hj=>(KM Q hw j hj).mono M;have q8:∀k,k<=3->PB 4000 (tJ s (bB m) [D,G,H] k):=λk hk=>(CS Q hw z2 g k).mono M;obtain⟨w,i0⟩:∃w,bB m=w:=⟨_,rfl⟩;rw[i0] at q6 hw z2 z3 q8 r ⊢;rw[jF];refine .l (λn E B L'=>∃(j:Nat),n=w.length - j/\j<=w.length/\Le F L'/\L' K=some (.cells (dC (oq s (w.take j))).toArray 263 (0,0),true)/\E=[(3,.p 0 0),(5,.p 1 0),(6,.p 2 0),(7,.v (pt K)),(13,.v (.slice ad w.length d6)),(14,.v (.int .i64 w.length)),(15,.v (.int .i64 j))]/\B=[some ⟨cL (.v (gZ s p)),132⟩,some ⟨cL (.v (v3 D G H)),143⟩,some ⟨(dC Mw).map .v,263⟩]) ⟨0,rfl,M,d9,g1,rfl,rfl⟩ ?_
 rintro _ _ _ L2 ⟨j,rfl,hj,z,gb,rfl,rfl⟩ again;refine .I O (λe1=>W.go 99 O ?_) (λe1=>W.go 99 O ?_)
 .have u5:j<w.length:=by simpa using e1
  have z4:w[j]?=some w[j]:=bX u5;have hi:=hw _ (fZ z4);have i1:w.take (j+1)=w.take j++[w[j]]:=ja u5;generalize w[j]=i at *;have u:s.aC[i]?=some s.aC[i]:=bX hi;have z5:=Mg Q u;have z6:=BU (w:=w.take j) u;rw[<-i1] at z6;have i2:=z3 j hj;obtain⟨f3,rfl⟩:=q6.addr (show j<(cm w).length by rw[jF];exact u5);obtain⟨wa,i3⟩:=hs.wt.addr hi;have i4:=hs.le z;obtain⟨qa,qb,qc,qd,qe,qf⟩:=p;obtain rfl:qc=some wa:=i3;have i5:=hs.wt;have i6:=(q6.le z).int (i:=j) (x:=(i:Int)) (by rw[FJ,z4];rfl);refine .u O (Vf.b O O (u5)) (.G O (Vf.l O (i6)) (.g O ?_));refine W.drawn aN F z ?_;refine .run' [0,1,2,3,4] rfl (.u 5 rfl (Vf.j rfl rfl (hi)) (.u 6 rfl (Vf.q rfl (i5.whole u rfl)) (.c 7 rfl rfl (N2 s _ s.aC[i] L2 i4 Q z5) (by rintro _ _ ⟨rfl,rfl⟩;exact z) ?_)));rintro _ _ ⟨rfl,rfl⟩;refine .a 8 rfl (aaG Q z5 (i2.mono M) gb rfl rfl) ((by rintro _ _ _ ⟨_,rfl,rfl,rfl,q9,v0⟩;exact⟨λb x u=>by rw[q9 b (λe=>by subst e;rw[u1] at u;cases u)];exact z b x u,rfl,.inl rfl⟩)) ?_;rintro _ _ _ ⟨_,rfl,rfl,rfl,q9,v0⟩;refine .fin O ?_;refine .g O ?_;rw[<-z6] at v0;exact .again (again _ _ _ _ M ⟨j+1,rfl,M,λb x u=>by rw[q9 b (λe=>by subst e;rw[u1] at u;cases u)];exact z b x u,v0,rfl,rfl⟩) ⟨rfl,rfl,rfl,rfl,rfl,rfl,aJ some (cr M),aE⟩ ⟨rfl,rfl,rfl,aE⟩
 .have i7:j=w.length:=by simp at e1;omega
  subst i7;rw[lK] at gb;have i8:L2 K=some (.cells (dC (tJ s w [D,G,H] 0)).toArray 263 (0,0),true):=gb;refine .l (λn E B L'=>∃(k:Nat),n=s.ay.length - k/\k<=s.ay.length/\Le F L'/\L' K=some (.cells (dC (tJ s w [D,G,H] k)).toArray 263 (0,0),true)/\E=[(5,.p 1 0),(6,.p 2 0),(7,.v (pt K)),(31,.v (.slice p.la s.ay.length p.lc)),(32,.v (.int .i64 s.ay.length)),(33,.v (.int .i64 k))]/\B=[some ⟨cL (.v (gZ s p)),132⟩,some ⟨cL (.v (v3 D G H)),143⟩,some ⟨(dC Mw).map .v,263⟩]) ⟨0,rfl,M,z,i8,rfl,rfl⟩ ?_
  rintro _ _ _ L3 ⟨k,rfl,hk,u2,gc,rfl,rfl⟩ S;refine .I O (λe2=>W.go 99 O ?_) (λe2=>W.go 99 O ?_)
  .have v1:k<s.ay.length:=by simpa using e2
   have I:k<3:=M
   have hl:s.ay[k]?=some s.ay[k]:=bX v1;obtain⟨la,z7⟩:=hs.lo.addr v1;have q:=hs.lo;rw[z7] at q;obtain⟨a,c,hc,z8,d8⟩:=q.row hl;have v2:=Q.lf _ (fZ hl);have f4:=v2.l4;have z9:=Ej hl;have J:=q8 k M;have v4:=Ti Q (fZ hl);have u3:=g k;have v5:0<=[D,G,H].getD k 0 *bu s.ay[k]:=BA u3.1 v4.1;have v6:[D,G,H].getD k 0 *bu s.ay[k]<=8 * 36:=Dx u3.2 v4.2 v4.1 V;obtain⟨qa,qb,qc,qd,qe,qf⟩:=p;obtain rfl:qa=some la:=z7;have u4:=EH (X:=C.X) a c s.ay[k] F z8 M λy hy=>by have:=v2.r y hy;omega
   generalize s.ay[k]=lf at *;have d3:=Ep s w [D,G,H] k;have f5:=J.t.get k;have f6:=J.s.get k;generalize tJ s w [D,G,H] k=P at *;have f:=oI J;have v7:L3.cell? ((Addr.add ⟨K,0,none⟩ 0).add (k * 1))=some (.int .i64 (P.t.getD k 0)):=by rw[bM,bM];exact aF gc (by rw[gq,vq];rw[show 0+0+k=k by omega];exact Jf J I)
   obtain⟨R,u6⟩:∃R,[D,G,H].getD k 0=R:=⟨_,rfl⟩;have l:nth [SV.v (.int .i64 D),SV.v (.int .i64 G),SV.v (.int .i64 H)] (0+k * 1)=some (.v (.int .i64 R)):=by rw[vq,jJ,<-u6];exact afq I
   rw[u6] at u3 v5 v6;refine .u O (Vf.b O O (v1)) (.G O (Vf.l O (u2.cell hc)) (.g O (.f (.run' [0,1,4,8] O (.u 2 O (Vf.qj O O O O O O (I)) ?_)))));refine .u 5 rfl (Vf.qi rfl rfl rfl rfl rfl rfl (I)) (.u 6 rfl (Vf.vZ rfl rfl rfl rfl (l)) (.a 3 rfl (Ef.val rfl (Vf.l rfl (v7))) dV ?_));rintro _ _ _ ⟨rfl,rfl,rfl⟩;refine .run' [7] O ?_;rw[wrap64_in _ M M];refine .u 9 O (Vf.qj O O O O O O (I)) ?_;rw[bM,bM];refine .a 10 rfl (Ef.eR rfl ⟨_,rfl,rfl⟩ rfl gc rfl QI (bQ rfl)) dV ?_;rintro _ _ _ ⟨rfl,rfl,rfl⟩;refine .fin O ?_;rename_i u7;have i9:=Kq J I (show 0+0+k * 1=k by omega) R;have v8:PB (4000+8) {P with t:=kZ P.t k R}:=⟨B3.add (m:=8) J.t _ u3.1 u3.2,J.s.mono M,J.d.mono M,by have:=J.a;show 0<=P.a/\P.a<=4000+8;omega⟩;have o:=oI v8;have u9:u7.put K (.cells (bY (dC P).toArray (0+0+k * 1) [.int .i64 (P.t.getD k 0+R)]) 263) K=some (.cells (dC {P with t:=kZ P.t k R}).toArray 263 (0,0),true):=by rw[i9];exact aj _ _ _
   have q0:Le F (u7.put K (.cells (bY (dC P).toArray (0+0+k * 1) [.int .i64 (P.t.getD k 0+R)]) 263)):=λb x u=>by
    rw[aB _ _ (λe=>by subst e;rw[u1] at u;cases u)];exact u2 b x u
   change W C _ _ _ _ _ (u7.put K (.cells (bY (dC P).toArray (0+0+k * 1) [.int .i64 (P.t.getD k 0+R)]) 263))
   generalize u7.put K (.cells (bY (dC P).toArray (0+0+k * 1) [.int .i64 (P.t.getD k 0+R)]) 263)=L4 at u9 q0 ⊢;have T:L4.cell? ((Addr.add ⟨K,0,none⟩ 3).add (k * 1))=some (.int .i64 (P.s.getD k 0)):=by rw[bM,bM];exact aF u9 (by rw[gq,vq];rw[show 0+3+k=3+k by omega];exact Sy v8 I)
   have d4:=TM v8 I (show 0+3+k * 1=3+k by omega) (R *bu lf);have u4:=EH (X:=C.X) a c lf L4 (z8.le q0) M λy hy=>by have:=v2.r y hy;omega
   refine .f (.run' [0,1,4,7,11] O (.u 2 O (Vf.qj O O O O O O (I)) (.u 5 O (Vf.qi O O O O O O (I)) (.u 6 O (Vf.vZ O O O O (l)) ?_))));refine DD.IG 3 8 rfl rfl rfl rfl rfl rfl rfl rfl (Ef.val rfl (Vf.l rfl (by exact T))) (Ef.call rfl u4) dV YI ?_ ?_
   .rintro _ _ _ ⟨rfl,rfl,hq⟩;obtain rfl:=hq.symm;refine .w 8 O O u4 ?_;rintro _ _ ⟨rfl,rfl⟩;refine .run' [9] O ?_;rw[wrap64_in (R *bu lf) M M];refine .run' [10] O ?_;rw[wrap64_in (P.s.getD k 0+R *bu lf) M M];refine .u 12 O (Vf.qj O O O O O O (I)) ?_;rw[bM,bM];refine .a 13 rfl (Ef.eR rfl ⟨_,rfl,rfl⟩ rfl u9 rfl QJ (bQ rfl)) dV ?_;rintro _ _ _ ⟨rfl,rfl,rfl⟩;refine .fin O ?_;refine .g O ?_;refine .again (S _ _ _ _ M ⟨k+1,rfl,M,λb x u=>?_,?_,rfl,rfl⟩) ⟨rfl,rfl,rfl,rfl,rfl,aJ some (cr M),aE⟩ ⟨rfl,rfl,rfl,aE⟩
    .rw[aB _ _ (λe=>by subst e;rw[u1] at u;cases u)];exact q0 b x u
    .rw[d3];unfold pX;rw[z9,u6];exact(uf d4).2.2
   .rintro _ _ _ ⟨_,rfl,rfl,rfl,rfl⟩;refine .run' [9] O ?_;rw[wrap64_in (R *bu lf) M M];refine .a 3 rfl (Ef.val rfl (Vf.l rfl (T))) dV ?_;rintro _ _ _ ⟨rfl,rfl,rfl⟩;refine .run' [10] O ?_;rw[wrap64_in (P.s.getD k 0+R *bu lf) M M];refine .u 12 O (Vf.qj O O O O O O (I)) ?_;rw[bM,bM];refine .a 13 rfl (Ef.eR rfl ⟨_,rfl,rfl⟩ rfl u9 rfl QJ (bQ rfl)) dV ?_;rintro _ _ _ ⟨rfl,rfl,rfl⟩;refine .fin O ?_;refine .g O ?_;refine .again (S _ _ _ _ M ⟨k+1,rfl,M,λb x u=>?_,?_,rfl,rfl⟩) ⟨rfl,rfl,rfl,rfl,rfl,aJ some (cr M),aE⟩ ⟨rfl,rfl,rfl,aE⟩
    .rw[aB _ _ (λe=>by subst e;rw[u1] at u;cases u)];exact q0 b x u
    .rw[d3];unfold pX;rw[z9,u6];exact(uf d4).2.2
  .have f0:k=s.ay.length:=by simp at e2;omega
   subst f0;have d5:tJ s w [D,G,H] s.ay.length=fh s w [D,G,H]:=rfl;have J:=q8 s.ay.length M;rw[d5] at gc J;obtain⟨⟨t0,t1,t2,et,_⟩,⟨s0,s1,s2,es,_⟩,⟨d0,d1,d2,ed,_⟩,_⟩:=J;generalize fh s w [D,G,H]=P at *;obtain⟨q1,q2,q3,q4⟩:=P;simp only at et es ed;subst et es ed;refine .u O (Vf.q O (dU (vs:=[.int .i64 t0,.int .i64 t1,.int .i64 t2,.int .i64 s0,.int .i64 s1,.int .i64 s2,.int .i64 d0,.int .i64 d1,.int .i64 d2,.int .i64 q4]) gc O)) (.D r O ?_);exact⟨rfl,z1.trans u2⟩
def JE(e:Int):Value:=if e=0 then .nilIface else .iface 381 (.agg #[e])
def zl(n:Nat)(f:x7):(List.range (n+1)).any f=((List.range n).any f||f n):=by
 rw[nI,List.any_append];simp
def aay(s:Sw)(p:Wp)(P:Pl)(L:LH)(a:eE L s p)(G:eD s)(hP:PB 4000 P):Sp X 181 [gZ s p,.agg (dC P).toArray] L (λv H=>v=JE (nz s P)/\Le L H):=by
 let u4:=G.l3;let y:=G.st;let u5:=hP;obtain⟨⟨d,t1,t2,et,g0,g1,g2⟩,⟨o,s1,c,q,f0,f1,l⟩,⟨g,e,I,ed,t,e1,e2⟩,Q⟩:=hP;obtain⟨q1,q2,q3,J⟩:=P;simp only at et q ed Q;subst et q ed;let T:∀k,k<3->nth [SV.v (.int .i64 d),SV.v (.int .i64 t1),SV.v (.int .i64 t2),SV.v (.int .i64 o),SV.v (.int .i64 s1),SV.v (.int .i64 c),SV.v (.int .i64 g),SV.v (.int .i64 e),SV.v (.int .i64 I),SV.v (.int .i64 J)] (0+0+k * 1)=some (.v (.int .i64 ([d,t1,t2].getD k 0))):=λk f=>by
  match k,f with
  | 0,_=>rfl
  | 1,_=>rfl
  | 2,_=>rfl
 let u1:∀k,k<3->nth [SV.v (.int .i64 d),SV.v (.int .i64 t1),SV.v (.int .i64 t2),SV.v (.int .i64 o),SV.v (.int .i64 s1),SV.v (.int .i64 c),SV.v (.int .i64 g),SV.v (.int .i64 e),SV.v (.int .i64 I),SV.v (.int .i64 J)] (0+3+k * 1)=some (.v (.int .i64 ([o,s1,c].getD k 0))):=λk f=>by
  match k,f with
  | 0,_=>rfl
  | 1,_=>rfl
  | 2,_=>rfl
 let u2:∀k,k<3->nth [SV.v (.int .i64 d),SV.v (.int .i64 t1),SV.v (.int .i64 t2),SV.v (.int .i64 o),SV.v (.int .i64 s1),SV.v (.int .i64 c),SV.v (.int .i64 g),SV.v (.int .i64 e),SV.v (.int .i64 I),SV.v (.int .i64 J)] (0+6+k * 1)=some (.v (.int .i64 ([g,e,I].getD k 0))):=λk f=>by
  match k,f with
  | 0,_=>rfl
  | 1,_=>rfl
  | 2,_=>rfl
 let hv:(Value.agg (dC ⟨[d,t1,t2],[o,s1,c],[g,e,I],J⟩).toArray)=plV (d,t1,t2) (o,s1,c) (g,e,I) J:=rfl;rw[hv];refine Sp.e (n:=50) Tryz.func181 O λC hX u6 r=>?_;refine .g O ?_;refine .l (λm E B H=>∃i:Nat,m=s.aO.length - i/\i<=s.aO.length/\(List.range i).any (λk=>decide (s.aO.getD k 0<[d,t1,t2].getD k 0))=false/\E=[(2,.p 0 0),(3,.p 1 0),(10,.v (.slice p.sa s.aO.length p.sc)),(11,.v (.int .i64 s.aO.length)),(12,.v (.int .i64 i))]/\B=[some ⟨cL (.v (gZ s p)),132⟩,some ⟨cL (.v (plV (d,t1,t2) (o,s1,c) (g,e,I) J)),263⟩]/\L=H) ⟨0,rfl,M,U,rfl,rfl,rfl⟩ ?_
 rintro _ _ _ _ ⟨i,rfl,h1,D,rfl,rfl,rfl⟩ again;refine .I O (λz1=>W.go 99 O ?_) (λz1=>W.go 99 O ?_)
 .let F:i<s.aO.length:=by simpa using z1
  let hx:s.aO[i]?=some s.aO[i]:=bX F;let z:s.aO.getD i 0=s.aO[i]:=by rw[dL,hx];rfl
  obtain⟨la,R⟩:=a.st.addr F;let u:=a.st;rw[R] at u;obtain⟨qa,qb,qc,qd,qe,qf⟩:=p;obtain rfl:qb=some la:=R;let K:=zl i λk=>decide (s.aO.getD k 0<[d,t1,t2].getD k 0);rw[D,By,z] at K;refine .u O (Vf.b O O (F)) (.G O (Vf.l O (u.int hx)) (.G O (Vf.qi O O O O O O (show i<3 by omega)) (.u O (Vf.vZ O O O O (by exact T i M)) (.g O ?_))));refine .s O (λz2=>W.go 99 O ?_) (λz2=>W.go 99 O ?_)
  .let hr:nz s ⟨[d,t1,t2],[o,s1,c],[g,e,I],J⟩=12:=by
    unfold nz;rw[ax];rw[E8];exact⟨i,fo.2 F,by show decide (s.aO.getD i 0<[d,t1,t2].getD i 0)=true;rw[z];simpa using z2⟩
   refine .r r O ?_;rw[hr];exact⟨rfl,Le.refl _⟩
  .let hf:decide (s.aO[i]<[d,t1,t2].getD i 0)=false:=by simpa using z2
   exact .again (again _ _ _ _ M ⟨i+1,rfl,M,by rw[K];exact hf,rfl,rfl,rfl⟩) ⟨rfl,rfl,rfl,rfl,aJ some (cr M),aE⟩ ⟨rfl,rfl,aE⟩
 have x:i=s.aO.length:=by simp at z1;omega
 subst x;have h:=D;clear again D;refine .l (λm E B H=>∃i:Nat,m=s.aO.length - i/\i<=s.aO.length/\(List.range i).any (λk=>decide ([o,s1,c].getD k 0<[g,e,I].getD k 0))=false/\E=[(3,.p 1 0),(29,.v (.int .i64 s.aO.length)),(30,.v (.int .i64 i))]/\B=[some ⟨cL (.v (gZ s p)),132⟩,some ⟨cL (.v (plV (d,t1,t2) (o,s1,c) (g,e,I) J)),263⟩]/\L=H) ⟨0,rfl,M,U,rfl,rfl,rfl⟩ ?_
 rintro _ _ _ _ ⟨i,rfl,h1,D,rfl,rfl,rfl⟩ again;have base:nz s ⟨[d,t1,t2],[o,s1,c],[g,e,I],J⟩=if(List.range s.aO.length).any (λk=>decide ([o,s1,c].getD k 0<[g,e,I].getD k 0)) then 9 else if CH ⟨[d,t1,t2],[o,s1,c],[g,e,I],J⟩<0 then 9 else 0:=by
  unfold nz;rw[A (by simp only[h];decide)]
 refine .I O (λz3=>W.go 99 O ?_) (λz3=>W.go 99 O ?_)
 .have F:i<s.aO.length:=by simpa using z3
  have w:i<3:=M
  have K:=zl i λk=>decide ([o,s1,c].getD k 0<[g,e,I].getD k 0);rw[D,By] at K;refine .z (.run' [0,1,4,5] O (.u 2 O (Vf.qi O O O O O O (w)) (.u 3 O (Vf.vZ O O O O ((by exact u1 i w))) (.u 6 O (Vf.qi O O O O O O (w)) (.u 7 O (Vf.vZ O O O O ((by exact u2 i w))) (.run' [8] O ?_))))));refine .fin O ?_;refine .I O (λz4=>W.go 99 O ?_) (λz4=>W.go 99 O ?_)
  .refine .r r O ?_;rw[base,ax]
   .exact⟨rfl,Le.refl _⟩
   .rw[E8];exact⟨i,fo.2 F,z4⟩
  .exact .again (again _ _ _ _ M ⟨i+1,rfl,M,by rw[K];exact z4,rfl,rfl,rfl⟩) ⟨rfl,rfl,aJ some (cr M),aE⟩ ⟨rfl,rfl,aE⟩
 have x:i=s.aO.length:=by simp at z3;omega
 subst x;refine .g O ?_;have u3:=S9 (X:=C.X) (d,t1,t2) (o,s1,c) (g,e,I) J L ⟨f0,f1,l⟩ ⟨t,e1,e2⟩ Q;refine .c O u3 ?_;rintro _ _ ⟨rfl,j⟩;refine .g O ?_;have S:bu [o,s1,c] - bu [g,e,I] - J=CH ⟨[d,t1,t2],[o,s1,c],[g,e,I],J⟩:=rfl;refine .s O (λb=>W.go 99 O ?_) (λb=>W.go 99 O ?_)
 .refine .r r O ?_;rw[base,A (by simp only[D];decide),ax (by rw[<-S];simpa using b)];exact⟨rfl,j⟩
 .refine .r r O ?_;rw[base,A (by simp only[D];decide),A (by rw[<-S];simpa using b)];exact⟨rfl,j⟩
def abi(X:aM P)(g:bO)(cap:aR)(enc:α->List Value)(xs:List α)(Lb:LH):Prop:=
 ∀(yv:Value) (J:List α->LH->Prop) (ai:sW) (L:LH),Yl X yv enc xs (λL=>Le Lb L) J ai->(∀L,ai L->Le Lb L)->J [] L->Sp X g (yv::cap) L (λv L'=>v=.tuple #[]/\(nq J vb xs L'\/Gz ai vb L'))
def W.acO{C:Cx P}{xs:List α}{g:bO}{S:Array Tmp}{a D:Code}
  (u:LH)(u1:Le u L)(r:List α->LH->Prop)(ai:Code->LH->Prop)(it:abi C.X g j h xs u)(u9:qN P g)(u4:C.ro=none)(E':Env)(u5:gR F E')(h0:Ah 0 E'=true)
  (hf:bZ (get F) x=z)(hv:den fe z=some (.func (.func g) #[] j.toArray))
  (hm:∀G L1 E,Le L1 E->r G L1->r G E)(hz:∀o L1 E,Le L1 E->ai o L1->ai o E)
  (hI:r [] L.calm)
  (hn:(S.toList.all λp=>Nat.blt p n)=true)(u6:∀m,(h m).length=S.size)
  (hb:∀(d l:Nat) (G:List α) (m:α) (Q:List α) (t:LH) (q lb:Loop),xs=G++m::Q->Le u t->r G t->u l=none->u d=none->l≠d->
   t l=some (.loop q,true)->t d=some (.deferred (some []),true)->
   ∀k:Cx P,k.X=C.X->k.f=C.f->
    (∀(K:bI) (F:Env) (B:aX),(∀E,E l=some (.loop lb,true)->(∀b,b≠l->E b=t b)->W k n [] K F B E)->W k n [] (.beginRound::K) F B t)->
    (∀(K:bI) (F:Env) (B:aX) (J:LH),Leaves K none->J l=some (.loop lb,true)->J d=some (.deferred (some []),true)->Le u J->r (G++[m]) J.calm->W k n [] K F B J)->
    (∀(K:bI) (F:Env) (B:aX) (J:LH) (o:Code),Leaves K o->J l=some (.loop lb,true)->J d=some (.deferred (some []),true)->Le u J->ai o J.calm->W k n [] K F B J)->
    W k n [] [.code a,.beginRound,.code D] (vB S.toList (h m) E') [] t)
  (w1:∀(d l:Nat) (t:LH),Le u t->u l=none->u d=none->r xs t->t d=some (.deferred (some []),true)->W C n (⟨.collected d,#[]⟩::I) K F B t)
  (w2:∀(d l:Nat) (o:Code) (t:LH),Le u t->u l=none->u d=none->ai o t->t d=some (.deferred (some []),true)->W C n (⟨.collected d,#[]⟩::I) (.code o::K) F B t):
  W C n I (.code (.rangeFunc x S a D)::K) F B L:=by
 refine W.range u4 E' u5 h0 hf hv (λT d l st y t=>Le u t/\u l=none/\u d=none/\l≠d/\t d=some (.deferred (some []),true)/\(∃st y,t l=some (yB st y C.f T S a D d,true))/\((y=none/\r xs t.calm)\/∃o,y=some o/\ai o t.calm)) ?_ ?_
 .intro T d l hT hE u2 u3 i _ _;have hd:=bN u1 u2;have hl:=bN u1 u3;have hJ:Le u ((L.put d (.deferred (some []))).put l (yB .ready none C.f T S a D d)):=aG (aG u1 hd _) hl _;have u7:((L.put d (.deferred (some []))).put l (yB .ready none C.f T S a D d)).calm=L.calm:=by
   funext b
   unfold LH.calm
   by_cases e:b=l
   .subst e;rw[aj,u3]
   .rw[aB _ _ e]
    by_cases e:b=d
    .subst e;rw[aj,u2]
    .rw[aB _ _ e]
  have hs:=it (.func (.yield l) #[] #[]) (λG t=>Le u t/\r G t.calm/\t l=some (yB .ready none C.f T S a D d,true)/\t d=some (.deferred (some []),true))
   (λt=>Le u t/\(∃o,t l=some (yB .done (some o) C.f T S a D d,true)/\ai o t.calm)/\t d=some (.deferred (some []),true)) _
   ⟨⟨_,_,_,rfl⟩,λG t c=>c.1,?_⟩ (λ_ c=>c.1) ⟨hJ,by rw[u7];exact hI,aj _ _ _,by rw[aB _ _ (dG i)];exact aj _ _ _⟩
  .refine(Sp.LJ (f1:=[]) (f2:=j) (args:=[.func (.yield l) #[] #[]]) hs).mono ?_;rintro v t ⟨_,⟨L1,⟨q1,w,R,q4⟩,H,_⟩ | ⟨L1,⟨q1,⟨o,w,R⟩,q4⟩,H,_⟩⟩
   .exact⟨_,_,V,H _ _ R,q1.trans H,hl,hd,i,H _ _ q4,⟨_,_,H _ _ R⟩,.inl ⟨rfl,hm _ _ _ (xp H) w⟩⟩
   .exact⟨_,_,V,H _ _ w,q1.trans H,hl,hd,i,H _ _ q4,⟨_,_,H _ _ w⟩,.inr ⟨o,rfl,hz _ _ _ (xp H) R⟩⟩
  .rintro G m Q t hx ⟨q1,w,R,q4⟩;refine vQ.round (n:=n) (E':=E') R (u6 m) hT hE hn λk c1 c2 c3 _ rt=>?_;refine hb d l G m Q t _ ⟨.busy,none,C.f,T,S,a,D,d⟩ hx q1 (hm _ _ _ (rU _) w) hl hd i R q4 k c1 c2 (λK F B hw=>W.XF c3 R O (hw _ (aj _ _ _) λb u8=>aB _ _ u8)) ?_ ?_
   .intro K F B J hk g1 g2 g3 g4;refine W.XR rt c3 hk g1 (.inl ⟨rfl,aG g3 hl _,?_,aj _ _ _,QT⟩);rw[mY g1];exact g4
   .intro K F B J o hk g1 g2 g3 g4;refine W.XR rt c3 hk g1 (.inr ⟨rfl,aG g3 hl _,⟨o,aj _ _ _,?_⟩,QT⟩);rw[mY g1];exact g4
 .rintro T d l st y t ⟨q1,w,R,q4,H,⟨q0,q8,q6⟩,⟨rfl,s⟩ | ⟨o,rfl,s⟩⟩
  .exact w1 d l _ (aG q1 w _) w R (hm _ _ _ (rU _) (by rw[mY q6];exact s)) (by rw[aB _ _ (dG q4)];exact H)
  .exact w2 d l o _ (aG q1 w _) w R (hz _ _ _ (rU _) (by rw[mY q6];exact s)) (by rw[aB _ _ (dG q4)];exact H)
def N4(l:aH):List Int:=l++List.replicate (3 - l) 0
def vw(l:aH):List Value:=(N4 l).map (Value.int .i64)
abbrev Je(l:List Int):List Value:=[.agg (vw l).toArray]
def FP(h:l.length<=3):(N4 l).length=3:=by unfold N4;rw[eX,zk];omega
def Nj(h:l.length<=3):(vw l).length=3:=by unfold vw;rw[eT,FP h]
def pC(k:Nat):(N4 l).getD k 0=l.getD k 0:=by
 unfold N4;rw[dL,dL]
 by_cases h:k<l
 .rw[kS h]
 .rw[lh M,mh (l:=l) M]
  by_cases z:k - l<3 - l.length
  .rw[List.getElem?_replicate_of_lt z];rfl
  .rw[mh (by rw[zk];omega)]
def P6{u:aH}(h:∀k,l.getD k 0=u.getD k 0):fh s q l=fh s q u:=by
 unfold fh;have:pX s l=pX s u:=by funext P k;unfold pX;rw[h]
 rw[this]
def Ki(s:Sw)(w:aU)(l:aH):fh s w (N4 l)=fh s w l:=P6 λk=>pC k
def acW(h:l.length=3):∃a b c,l=[a,b,c]:=by
 match l,h with
 | [a,b,c],_=>exact⟨a,b,c,rfl⟩
def ajc(l:aH)(h:l.length<=2)(c x:Int):BR ((vw (l++[c])).map SV.v) (0+l * 1) [x]=(vw (l++[x])).map SV.v:=by
 match l,h with
 | [],_=>rfl
 | [a],_=>rfl
 | [a,b],_=>rfl
def aeT(h:l.length<=2):vw l=vw (l++[0]):=by
 match l,h with
 | [],_=>rfl
 | [a],_=>rfl
 | [a,b],_=>rfl
def ot(s:Sw)(w:aU)(b rest:aH):List (List Int):=((jT rest).map (b++·)).filter (okW s w)
def aaR(s:Sw)(w:aU)(b:aH):ot s w b []=if okW s w b then[b] else[]:=by
 unfold ot jT;rw[iH,nG,pf,yV]
 rfl
def WZ(s:Sw)(w:aU)(b i:aH)(m:Int):ot s w b (m::i)=(List.range (m+1).toNat).flatMap λ(n:Nat)=>ot s w (b++[(n:Int)]) i:=by
 unfold ot;rw[jT,List.map_flatMap,List.filter_flatMap]
 congr 1
 funext n
 simp only[yW]
 congr 2
 funext l
 simp
structure OV(bs bw:Nat)(s:Sw)(p:Wp)(m:Nat)(L:LH):Prop where
 cs:cD L ⟨bs,0,none⟩ 4 (cX s p)
 cw:L.cell? ⟨bw,0,none⟩=some (.int .u8 m)
 sw:eE L s p
def OV.le{p:Wp}(o:Le L R)(h:OV n k s p m L):OV n k s p m R:=⟨o.cD h.cs,o.cell h.cw,h.sw.le o⟩
def OV.cell{p:Wp}(h:OV n k s p m L){i:Nat}{v:Value}(g:(cX s p)[i]?=v):L.cell? ⟨n,i,none⟩=v:=by
 have:=h.cs.2 i v g
 rwa [bM,jJ] at this
abbrev PC(bs bw by_ bg:Nat):Value:=.func (.func 180) #[] #[pt bs,pt bw,pt by_,pt bg]
def acH(S:eD s)(hm:m<32)(hw:tn s (bB m))(p:Wp)(bs bw T g:Nat)(yv:Value)(xs:gx)(J:List (List Int)->LH->Prop)(ai:sW)(F FK:LH)
  (q3:Yl X yv Je xs (λL=>Le FK L) J ai)(hZ:∀L,ai L->Le FK L)(u1:OV bs bw s p m FK)(v0:F.cell? ⟨T,0,none⟩=yv)(v1:F.cell? ⟨g,0,none⟩=PC bs bw T g):
  ∀(rest w:aH) (I post:gx) (L:LH),s.aO.drop w.length=rest->w.length<=s.aO.length->(∀x∈w,0<=x/\x<=8)->xs=I++ot s (bB m) w rest++post->nq J F I L->
   Sp X 180 [.agg (vw w).toArray,w,pt bs,pt bw,pt T,pt g] L
    (λv D=>(v=true/\nq J F (I++ot s (bB m) w rest) D)\/(v=false/\Gz ai F D)):=by
 have z:=q3.frame (λ_ _ o h=>h.trans o) F;have z7:=S.l3;have z8:=S.st;intro rest
 induction rest with
 | nil=>
  intro w I post L hd v2 u5 u hJ;have hK:=z.inv _ _ hJ;have f:w.length=s.ay.length:=by
   have:=aJ List.length hd;rw[yZ,List.length_nil] at this;omega
  obtain⟨a,b,c,R⟩:=acW (FP (l:=w) M);have u2:∀k,0<=w.getD k 0/\w.getD k 0<=8:=λk=>by
   rw[dL];cases e:w[k]? with
   | none=>exact⟨V,V⟩
   | some y=>exact u5 y (fZ e)
  have ha:=u2 0;have hb:=u2 1;have hc:=u2 2;rw[<-pC,R] at ha hb hc;have u3:vw w=[.int .i64 a,.int .i64 b,.int .i64 c]:=by unfold vw;rw[R];rfl
  have d:fh s (bB m) [a,b,c]=fh s (bB m) w:=by rw[<-R,Ki]
  have v4:PB 4000 (fh s (bB m) w):=by
   rw[<-d];exact(CS S hw (oE m) (λk=>by
    rw[<-R,pC];exact u2 k) s.ay.length).mono M
  rw[aaR] at u ⊢;rw[u3];refine Sp.e (n:=48) Tryz.func180 O λC hX v5 r=>?_;refine .G O (Vf.l O (hK.1.cell (u1.cell (i:=0) O))) (.N O ?_ bU);refine .g O ?_;have u6:=u1.le (kM (G:=F));have v6:=(uF hK.1 hK.2).cell v0;have H:=u1.le hK.1;refine W.drawn aN (FK.join F) (join_le hK.1 hK.2) ?_;refine .u 0 O (Vf.q O (u6.cs)) (.u 1 O (Vf.q O (u6.cs)) (.u 2 O (Vf.l O (u6.cw)) (.run' [3] O ?_)));have q4:=TF (X:=C.X) s p m a b c L H.sw S hm hw ha hb hc;rw[d] at q4;refine .c 4 rfl rfl q4 (by rintro _ _ ⟨rfl,o⟩;exact (join_le hK.1 hK.2).trans o) ?_;rintro _ _ ⟨rfl,u7⟩;rename_i L1;refine .c 5 rfl rfl (aay s p _ L1 (H.sw.le u7) S v4) (by rintro _ _ ⟨rfl,o⟩;exact (join_le hK.1 hK.2).trans (u7.trans o)) ?_;rintro _ _ ⟨rfl,v7⟩;rename_i L2;have Q:=hJ.mono (u7.trans v7);have q5:=z.inv _ _ Q
  by_cases hr:nz s (fh s (bB m) w)=0
  .have u8:okW s (bB m) w=true:=by unfold okW;rw[hr];rfl
   rw[ax u8] at u r;rw[show JE (nz s (fh s (bB m) w))=.nilIface by unfold JE;rw[ax hr]];refine .run' [6,7] O (.u 8 O (Vf.l O (v6)) (.run' [9] O ?_));obtain⟨yf,yt,yc,rfl⟩:=q3.fn;have hy:=z.yl I w post L2 FZ Q;rw[<-hX] at hy;have v8:vQ C.X (.func yf yt yc) [.agg #[.int .i64 a,.int .i64 b,.int .i64 c]] L2 (λv D=>(v=.bool true/\nq J F (I++[w]) D)\/(v=.bool false/\Gz ai F D)):=by
    have:=hy;unfold Je at this
    rwa [u3] at this
   have u9:∀(v:Value) (D:LH),((v=.bool true/\nq J F (I++[w]) D)\/(v=.bool false/\Gz ai F D))->Le (FK.join F) D:=by
    rintro v D (⟨_,K⟩ | ⟨_,K⟩)
    .have:=z.inv _ _ K;exact join_le this.1 this.2
    .obtain⟨L1,g1,g2,g3⟩:=K;exact join_le ((hZ _ g1).trans g2) g3
   refine .a 10 rfl (Ef.uz rfl rfl rfl v8) ((by rintro _ _ _ ⟨_,rfl,rfl,K⟩;exact⟨u9 _ _ K,rfl,.inl rfl⟩)) ?_;rintro _ _ _ ⟨_,rfl,rfl,K⟩;rcases K with⟨rfl,K⟩ | ⟨rfl,K⟩
   .refine .run' [11,12] O (.fin O (.D r O ?_));exact .inl ⟨rfl,K⟩
   .refine .run' [11,12] O (.fin O (.D r O ?_));exact .inr ⟨rfl,K⟩
  .have u8:okW s (bB m) w=false:=by unfold okW;simpa using hr
   rw[A (by simp[u8])] at u r;rw[show JE (nz s (fh s (bB m) w))=.iface 381 (.agg #[.int .i64 (nz s (fh s (bB m) w))]) by unfold JE;rw[A hr]];refine .run' [6,7,8,9,10,11,12] O (.fin O (.D r O ?_));rw[pf];exact .inl ⟨rfl,Q⟩
 | cons x rest ih=>
  intro w I post L hd v2 u5 u hJ;have hK:=z.inv _ _ hJ;have o:w.length<s.aO.length:=by
   have:=aJ List.length hd;rw[yZ,pR] at this;omega
  rw[lj o] at hd;obtain⟨t,v9⟩:=Cp hd;have z9:=S.sr x (by rw[<-t];exact fY o);have z1:s.aO[w.length]?=some x:=by rw[<-t];exact bX o
  have u4:w.length<=2:=M
  obtain⟨N,hN⟩:∃N:Nat,x+1=(N:Int):=⟨(x+1).toNat,M⟩;rw[WZ,hN,kT] at u ⊢;have q6:∀j,j<N->(List.range N).flatMap (λ(n:Nat)=>ot s (bB m) (w++[(n:Int)]) rest)=(List.range j).flatMap (λ(n:Nat)=>ot s (bB m) (w++[(n:Int)]) rest)++(ot s (bB m) (w++[(j:Int)]) rest++(List.range' (j+1) (N - j - 1)).flatMap (λ(n:Nat)=>ot s (bB m) (w++[(n:Int)]) rest)):=λj hj=>by
   rw[Et hj,ze,rT]
  have q0:∀j,(List.range (j+1)).flatMap (λ(n:Nat)=>ot s (bB m) (w++[(n:Int)]) rest)=(List.range j).flatMap (λ(n:Nat)=>ot s (bB m) (w++[(n:Int)]) rest)++ot s (bB m) (w++[(j:Int)]) rest:=λj=>by
   rw[nI,ze];simp
  have q1:∀(j:Nat) (L:LH),j<N->nq J F (I++(List.range j).flatMap (λ(n:Nat)=>ot s (bB m) (w++[(n:Int)]) rest)) L->
    Sp X 180 [.agg (vw (w++[(j:Int)])).toArray,.int .i64 ((w.length+1:Nat):Int),pt bs,pt bw,pt T,pt g] L
     (λv D=>(v=.bool true/\nq J F (I++(List.range (j+1)).flatMap (λ(n:Nat)=>ot s (bB m) (w++[(n:Int)]) rest)) D)\/(v=.bool false/\Gz ai F D)):=by
   intro j L hj z2;have f:(w++[(j:Int)]).length=w.length+1:=U
   have:=ih (w++[(j:Int)]) _ ((List.range' (j+1) (N - j - 1)).flatMap (λ(n:Nat)=>ot s (bB m) (w++[(n:Int)]) rest)++post) L (by rw[f];exact v9) xY (λy hy=>by
    rcases fg.1 hy with hy | hy
    .exact u5 y hy
    .rw[dJ.1 hy];omega) (by rw[u,q6 j hj];simp only[tq]) z2
   rw[f,tq,<-q0] at this;exact this
  clear ih;have H:=u1.le hK.1;obtain⟨la,z3⟩:=H.sw.st.addr o;have q7:=H.sw.st;have z6:=u1;obtain⟨qa,qb,qc,qd,qe,qf⟩:=p;obtain rfl:qb=some la:=z3;have z4:IntKind.i64.wrap ((w.length:Int)+1)=((w.length+1:Nat):Int):=by rw[wrap64_in _ M M];omega
  have z5:IntKind.i64.wrap (x+1)=(N:Int):=by rw[wrap64_in _ M M,hN]
  rw[aeT u4];refine Sp.e (n:=48) Tryz.func180 O λC hX v5 r=>?_;refine .G O (Vf.l O (H.cell (i:=0) O)) (.K O ?_ bU);refine .G O (Vf.l O (H.cell (i:=1) O)) (.G O (Vf.b O O (o)) (.G O (Vf.l O (q7.int z1)) (.g O ?_)));rw[z5];refine .loop (λq E B D=>∃(j:Nat) (c:Int),j<=N/\q=N - j/\nq J F (I++(List.range j).flatMap (λ(n:Nat)=>ot s (bB m) (w++[(n:Int)]) rest)) D/\E=[(1,.v (.int .i64 w.length)),(2,.v (pt bs)),(3,.v (pt bw)),(4,.v (pt T)),(5,.v (pt g)),(6,.p 0 0),(34,.v (.int .i64 N)),(35,.v (.int .i64 j))]/\B=[some ⟨(vw (w++[c])).map .v,143⟩]) ⟨0,0,M,rfl,by simpa using hJ,rfl,rfl⟩ Gc sV ?_ O (gV _ _ O)
  rintro _ _ _ L2 ⟨j,c,hj,rfl,Q,rfl,rfl⟩ again;refine .I O (λe1=>W.go 99 O ?_) (λe1=>W.go 99 O ?_)
  .have q2:j<N:=by simpa using e1
   have q5:=z.inv _ _ Q;have q8:0+w.length * 1+1<=((vw (w++[c])).map SV.v).length:=by rw[eT,Nj bU];omega
   refine .u O (Vf.qi O O O O O O (show w.length<3 by omega)) ?_;refine .fL O O (Ef.Ur O O O O O Aw (by exact q8) Aw (by exact(ajc w u4 c j))) ?_;rintro _ _ _ ⟨rfl,rfl,rfl⟩;refine .G O (Vf.l O (q5.2.cell v1)) (.u O (Vf.zR O O O O O (Nj bU)) (.g O ?_));rw[z4];have q9:=q1 j _ q2 Q;rw[<-hX] at q9;refine .e O (Ef.uz O O O (Sp.LJ (f1:=[]) (f2:=[pt bs,pt bw,pt T,pt g]) q9)) ?_;rintro _ _ _ ⟨_,rfl,rfl,K⟩;refine .g O ?_;rcases K with⟨rfl,K⟩ | ⟨rfl,K⟩
   .refine .F O (.g O ?_);exact .again (again _ _ _ _ M ⟨j+1,j,M,rfl,K,rfl,rfl⟩) ⟨rfl,rfl,rfl,rfl,rfl,rfl,rfl,aJ some (cr M),aE⟩ ⟨rfl,aE⟩ O (gV _ _ O)
   .refine .T O (.D r O ?_);exact .inr ⟨rfl,K⟩
  .have q2:j=N:=by simp at e1;omega
   subst q2;refine .r r O ?_;exact .inl ⟨rfl,Q⟩
end
section
open Go.Proofs
def aaQ(s:Sw)(w:aU):ot s w [] s.aO=(jT s.aO).filter (okW s w):=by
 unfold ot
 congr 1
 simp
def Kj(v:eD s)(hm:m<32)(hw:tn s (bB m))(p:Wp)(F a:Nat)(d:LH)(f:OV F a s p m d):abi X 178 [pt F,pt a] Je (fB s (bB m)) d:=by
 intro l J ai L z hZ hJ;obtain⟨w,D,k,rfl⟩:=z.fn;have hF:=nq.zero hJ;have S:=z.inv _ _ hJ;have u3:=v.l3;have u4:=v.st;refine Sp.e Tryz.func178 O λC hX u5 r=>(.de [6] 99 O (.cz 3 (.inl ⟨_,rfl⟩) O O ?_));intro o h4 _;have y:=hF.put h4 (.cells #[.func w D k] 309);have t:=S.trans (Le.put h4 (.cells #[.func w D k] 309));have g4:=aj L o (.cells #[.func w D k] 309)
 change W _ _ _ _ _ _ (L.put o (.cells #[.func w D k] 309))
 generalize L.put o (.cells #[.func w D k] 309)=T at y t g4 ⊢;refine .G O (Vf.q O ((f.le t).cs)) (.G O (Vf.l O ((f.le t).cw)) (.o O (ab4 s p m T (f.le t).sw v hm hw) ?_));rintro _ _ ⟨rfl,H⟩;rename_i g;have B:=y.mono H;have E:=t.trans H;have u:=H _ _ g4;refine .de [9] 99 O (.cz 5 (.inl ⟨_,rfl⟩) O O λI R _=>?_);have Q:o≠I:=λe=>by subst e;rw[u] at R;cases R
 have u1:=B.put R (.cells #[.nilFunc] 310);have G:=u1.set QX (.cells #[PC F a o I] 310);have u6:=E.trans ((Le.put R (.cells #[.nilFunc] 310)));refine .g O (.fL O O (Ef.eR O ⟨_,rfl,rfl⟩ O (aj _ _ _) O (dA _) (bQ O)) ?_);rintro _ _ _ ⟨rfl,rfl,rfl⟩;refine .g O ?_;have q:=(z.frame (λ_ _ H h=>h.trans H) (((vb.put o (.cells #[.func w D k] 309)).put I (.cells #[.nilFunc] 310)).put I (.cells #[PC F a o I] 310))).inv _ _ G;have j:=f.le q.1;refine .u O (Vf.l O (j.cell (i:=1) O)) (.y O (EH p.sa p.sc s.aO _ j.sw.st M (λx hx=>by have:=v.sr x hx;omega)) (.I O (λe1=>W.go 99 O ?_) (λe1=>W.go 99 O ?_)))
 .have u2:uB s (bB m)<=bu s.aO:=by simpa using e1
  have K:fB s (bB m)=ot s (bB m) [] s.aO:=by unfold fB;rw[ax u2,aaQ]
  refine .u O (Vf.l O (aF (aj _ _ _) O)) (.g O ?_);have hg:=acH (X:=X) v hm hw p F a o I (.func w D k) _ J ai (((vb.put o (.cells #[.func w D k] 309)).put I (.cells #[.nilFunc] 310)).put I (.cells #[PC F a o I] 310)) d z hZ f (aF (by rw[aB _ _ Q,aB _ _ Q];exact aj _ _ _) rfl) (aF (aj _ _ _) rfl)
   s.aO [] [] [] _ O U U (by rw[K];simp) G
  rw[<-hX] at hg;refine .e O (Ef.uz O O O (Sp.LJ (f1:=[]) (f2:=[pt F,pt a,pt o,pt I]) hg)) ?_;rintro _ _ _ ⟨_,rfl,rfl,c⟩;refine .g O ?_;refine W.lM r O O ⟨rfl,?_⟩;rw[yp,<-K] at c;rcases c with⟨_,c⟩ | ⟨_,c⟩
  .exact .inl (c.less (ij _))
  .obtain⟨T,g1,g2,_⟩:=c;exact .inr ⟨T,g1,g2,ij _⟩
 .have K:fB s (bB m)=[]:=by unfold fB;rw[A xX]
  refine W.lM r O O ⟨rfl,.inl ?_⟩;rw[K];exact G.less (ij _)
def N8(s:Sw)(p:Wp)(m:Nat)(L:LH):Sp X 141 [gZ s p,.int .u8 m] L (λv u=>∃f a,v=.func (.func 178) #[] #[pt f,pt a]/\Le L u/\cD u ⟨f,0,none⟩ 4 (cX s p)/\u.cell? ⟨a,0,none⟩=some (.int .u8 m)):=by
 refine Sp.e Tryz.func141 O λC o d r=>(.g O (.cz 2 (.inl ⟨_,rfl⟩) O O ?_));intro k q _;refine .cz 3 (.inl ⟨_,rfl⟩) O O λj i _=>?_;refine .r r O ?_;let z:=Le.put i (.cells #[.int .u8 m] 136);exact⟨k,j,rfl,(Le.put q _).trans z,z.cD (dU (aj _ _ _) O),aF (aj _ _ _) O⟩
def Jr(h:s.aC.length<=5):bB (2 ^ s.aC.length - 1)=gm s:=by
 unfold gm;have:s.aC.length=0\/s.aC.length=1\/s.aC.length=2\/s.aC.length=3\/s.aC.length=4\/s.aC.length=5:=M
 rcases this with e | e | e | e | e | e <;> rw[e] <;> decide
def KL(s:Sw)(p:Wp)(L:LH)(hs:eE L s p)(K:eD s):Sp X 252 [gZ s p] L (λv I=>v=.bool (cT s)/\Le L I):=by
 let J:=K.w5;let hm:2 ^ s.aC.length - 1<32:=by
  have:2 ^ s.aC.length<=2 ^ 5:=Cq V J;omega
 let D:=Jr J;let S:tn s (bB (2 ^ s.aC.length - 1)):=by rw[D];intro i hi;exact fo.1 hi
 refine Sp.e (n:=13) Tryz.func252 O λC hX u2 r=>?_;refine .g rfl (.z (.run' [0,1] rfl (.c 2 rfl rfl (SS s p L J) jw ?_)));rintro _ _ ⟨rfl,rfl⟩;refine .c 3 rfl rfl (N8 s p (2 ^ s.aC.length - 1) L) (by rintro _ _ ⟨_,_,rfl,F,_⟩;exact F) ?_;rintro _ _ ⟨T,a,rfl,m,k1,k2⟩;refine .fin O ?_;refine .g O ?_;rename_i R;refine .cz 3 (.inl ⟨_,rfl⟩) O O ?_;intro bi g _;let t:=aj R bi (.cells #[.bool false] 4);let B:OV T a s p (2 ^ s.aC.length - 1) R:=⟨k1,k2,hs.le m⟩;refine W.acO R (Le.put g _) (λG I=>G=[]/\I bi=some (.cells #[false] 4,true)) (λj I=>j=.exit 0/\fB s (gm s)≠[]/\I bi=some (.cells #[true] 4,true)) (xs:=fB s (gm s)) (by have:=Kj (X:=C.X) K hm S p T a R B;rwa [D] at this) ⟨_,rfl,rfl,rfl⟩ oO [(10,.v (.func (.func 178) #[] #[pt T,pt a])),(3,pt bi)] kO O O O
  (λ_ _ _ F h=>⟨h.1,F _ _ h.2⟩) (λ_ _ _ F h=>⟨h.1,h.2.1,F _ _ h.2.2⟩) ⟨rfl,ia t⟩ O (λ_=>rfl) ?_ ?_ ?_
 .rintro d l G x post I q lb u z ⟨rfl,y⟩ f w E g1 g2 k c1 c2 H u1 Q;let t:bi≠l:=λe=>by subst e;rw[g1] at y;cases y
  let c:bi≠d:=λe=>by subst e;rw[g2] at y;cases y
  refine .g O ?_;refine H _ _ _ λL2 r1 r2=>?_;refine .g O ?_;refine .fL O O (Ef.eR O ⟨_,rfl,rfl⟩ O (by rw[r2 _ t];exact y) O (dA _) (bQ O)) ?_;rintro _ _ _ ⟨rfl,rfl,rfl⟩;refine .g O ?_;refine Q _ _ _ _ _ (.exit O) (by rw[aB _ _ (dG t)];exact r1) (by rw[aB _ _ (dG c),r2 _ E.symm];exact g2) (aG (λb o ho=>by rw[r2 _ (λe=>by subst e;rw[f] at ho;cases ho)];exact z _ _ ho) g _) ⟨rfl,FZ,ia (aj _ _ _)⟩
 .rintro d l I z - w ⟨hp,y⟩ hd;refine .G O (Vf.l O (aF y O)) (.g O ?_);refine W.out oO (.inr .ret) (WM.collected O hd (WM.ret r O O ⟨?_,m.trans (aG z w _)⟩));show _=Value.bool (!(fB s (gm s)).isEmpty);rw[hp];rfl
 .rintro d l j I z - w ⟨rfl,hp,y⟩ hd;refine .G O (Vf.l O (aF y O)) (.g O ?_);refine W.out oO (.inr .ret) (WM.collected O hd (WM.ret r O O ⟨?_,m.trans (aG z w _)⟩));show _=Value.bool (!(fB s (gm s)).isEmpty);cases hh:fB s (gm s) with
  | nil=>exact ar hh hp
  | cons _ _=>rfl
structure rP where
 w:Nat
 a:Int
 b:Int
 c:Int
 n:Int
 q:Int
 i:Bool
def lq(x:rP):List Value:=[.int .u8 x.w,x.a,x.b,x.c,x.n,x.q,x.i]
abbrev cC(x:rP):Value:=.agg (lq x).toArray
def wP(x:rP):(lq x).length=7:=rfl
def GO(m z u:aR){t:km}{j:Bool}(h:L n=some (.cells (m++(z++u)).toArray e t,j)):cD L ((⟨n,0,none⟩:Addr).add m) z z:=
 ⟨rfl,λi v g=>by
  let q:=(eO.1 g).1;rw[bM,bM];refine aF h ?_;rwa[gq,jJ,lh M,Nat.add_sub_cancel_left,kS q]⟩
def agi(b:Nat)(fv:Value)(y:rP)(L:LH)(v:Value)(L':LH):Prop:=
 v=.tuple #[]/\(∀b' z,b'≠b->L b'=some z->L' b'=z)/\L' b=some (.cells (fv::(lq y++[.bool true])).toArray 147 (0,0),true)
theorem Uy(b:Nat)(q:Value)(l:∃a b c,q=.func a b c)(x y:rP)(w i:Bool)(L:LH)(d:L b=some (.cells (q::(lq y++[.bool w])).toArray 147 (0,0),true))
  (o:w=true->vQ X q [cC x,cC y] L (λv g=>v=i/\Le L g)):Sp X 114 [pt b,cC x] L (agi b q (if !w||i then x else y) L):=by
 obtain⟨s,e,k,rfl⟩:=l;cases w with
 | false=>
  refine Sp.e Tryz.func114 O λC j f r=>(.t O (.run' [0,1,2] O (.u 3 O (Vf.l O (aF d O)) (.run' [4,5] O (.split 9 O (λ_=>?_) (λc=>ar c V))))));refine .run' [6,7,8,9,10,11,12,13,14,15,16] O (.fin O (.g O ?_));refine .fL O O (Ef.Hv O ⟨_,rfl,rfl⟩ O d O O O O O) ?_;rintro _ _ _ ⟨rfl,rfl,rfl⟩;refine .g O ?_;refine .fL O O (Ef.Hv O ⟨_,rfl,rfl⟩ O (aj _ _ _) O O O O O) ?_;rintro _ _ _ ⟨rfl,rfl,rfl⟩;refine .g O ?_;exact W.lM r O O ⟨rfl,λt z u p=>by rw[aB _ _ u,aB _ _ u];exact p,aj _ _ _⟩
 | true=>
  have o:=o rfl;refine Sp.e (n:=28) Tryz.func114 O λC j f r=>?_;rw[<-j] at o;refine .t O (.run' [0,1,2] O (.u 3 O (Vf.l O (aF d O)) (.run' [4,5] O (.split 9 O (λc=>ar c V) (λ_=>?_)))));refine .run' [6,7,8] rfl (.u 9 rfl (Vf.l rfl (aF d rfl)) (.run' [10,11,12,13] rfl (.u 14 rfl (Vf.q rfl ((by exact GO [_] (lq y) [_] d))) (.a 15 rfl (Ef.uz rfl rfl rfl o) ((by rintro _ _ _ ⟨_,rfl,rfl,rfl,h⟩;exact⟨h,rfl,.inl rfl⟩)) ?_))));rintro _ _ _ ⟨_,rfl,rfl,rfl,m⟩;have u:=m _ _ d;cases i with
  | true=>
   refine .run' [16] O (.fin O (.N O (.g O ?_)));refine .fL O O (Ef.Hv O ⟨_,rfl,rfl⟩ O u O O O O O) ?_;rintro _ _ _ ⟨rfl,rfl,rfl⟩;refine .g O ?_;refine .fL O O (Ef.Hv O ⟨_,rfl,rfl⟩ O (aj _ _ _) O O O O O) ?_;rintro _ _ _ ⟨rfl,rfl,rfl⟩;refine .g O ?_;exact W.lM r O O ⟨rfl,λt z u p=>by rw[aB _ _ u,aB _ _ u];exact m _ _ p,aj _ _ _⟩
  | false=>
   refine .run' [16] O (.fin O (.K O (.g O ?_)));exact W.lM r O O ⟨rfl,λt z _ p=>m _ _ p,u⟩
def PT(x y:rP):Bool:=decide (x.n<y.n)||(decide (x.n=y.n)&&decide (x.q<y.q))
def Vw(x y:rP)(L:LH):Sp X 140 [cC x,cC y] L (λv u=>v=PT x y/\L=u):=by
 refine Sp.e Tryz.func140 O λC j d r=>(.I O (λp=>?_) (λp=>?_))
 .refine .g O (.r r O ⟨by unfold PT;rw[p];rfl,rfl⟩)
 refine .I O (λq=>?_) (λq=>?_)
 .refine .g O (.r r O ⟨by unfold PT;rw[p];simp at q;simp[q,lv],rfl⟩)
 .refine .g O (.r r O ⟨by unfold PT;rw[p];simp at q;simp[q,lv],rfl⟩)
def oj(m:Nat)(c:Cr):rP:=⟨m,c.l.getD 0 0,c.l.getD 1 0,c.l.getD 2 0,c.c,c.p,true⟩
def Vv(m:Nat)(o:yb):rP:=match o with
 | none=>⟨m,0,0,0,0,0,false⟩
 | some c=>oj m c
def Ip(m:Nat)(o:yb)(y:rP)(sm:Bool):Prop:=match o with
 | none=>sm=false/\y=⟨0,0,0,0,0,0,false⟩
 | some c=>sm=true/\y=oj m c
def afx(m:Nat)(a b:Cr):PT (oj m a) (oj m b)=tt a b:=rfl
def Ip.take{o:yb}{y:rP}{w:Bool}(h:Ip m o y w)(c:Cr):Ip m (mR tt o c) (if !w||PT (oj m c) y then oj m c else y) true:=by
 cases o with
 | none=>
  obtain⟨rfl,rfl⟩:=h;exact⟨rfl,rfl⟩
 | some z=>
  obtain⟨rfl,rfl⟩:=h;rw[afx];show Ip m (if tt c z then some c else some z) _ _;cases tt c z <;> exact⟨rfl,rfl⟩
def rH(d:α->α->Bool)(l:List α)(x:α):gT d (l++[x])=mR d (gT d l) x:=by unfold gT;rw[zi];rfl
def rX:∀{u l:aH},l∈jT u->l=u.length/\∀k,0<=l.getD k 0/\(k<u->l.getD k 0<=u.getD k 0)
 | [],l,h=>by
  rw[jT,dJ] at h;subst h;exact⟨rfl,λk=>⟨U,λh=>by simp at h⟩⟩
 | m::t,l,h=>by
  rw[jT,tp] at h;obtain⟨n,y,h⟩:=h;obtain⟨r,b,rfl⟩:=fK.1 h;let⟨q,z⟩:=rX b;rw[fo] at y;refine⟨by simp[q],λk=>?_⟩;cases k with
  | zero=>exact⟨by show(0:Int)<=(n:Int);omega,λ_=>by show(n:Int)<=m;omega⟩
  | succ k=>exact⟨(z k).1,λf=>(z k).2 Lj⟩
def Hh(h:l∈fB s q):l∈jT s.aO:=by
 unfold fB at h
 split at h
 .exact(nH.1 h).1
 .cases h
def ZA(x y:rP)(L:LH):vQ X (.func (.func 140) #[] #[]) [cC x,cC y] L (λv u=>v=PT x y/\Le L u):=
 vQ.mono (Sp.LJ (Vw x y L)) λv u h=>⟨h.1,by rw[h.2];exact Le.refl _⟩
def Nh(s:Sw)(p:Wp)(m:Nat)(L:LH)(hs:eE L s p)(D:eD s)(hm:m<32)(u:tn s (bB m)):Sp X 105 [gZ s p,.int .u8 m] L (λv H=>v=cC (Vv m (dE s (bB m)))/\Le L H):=by
 let i5:=D.l3;let i6:=D.st;refine Sp.e (n:=33) Tryz.func105 O λC hX i7 r=>?_;refine .g O (.cz 2 (.inl ⟨_,rfl⟩) O O ?_);intro b2 v8 _;refine .cz 3 (.inl ⟨_,rfl⟩) O O ?_;intro b3 v9 _;have f2:=Le.put v8 (.cells (cX s p).toArray 132);have f3:=Le.put v9 (.cells #[.int .u8 m] 136);have k2:=f3 _ _ (aj L b2 (.cells (cX s p).toArray 132));have k3:=aj (L.put b2 (.cells (cX s p).toArray 132)) b3 (.cells #[.int .u8 m] 136);have i:=f2.trans f3;clear f2 f3
 change W _ _ _ _ _ _ ((L.put b2 (.cells (cX s p).toArray 132)).put b3 (.cells #[.int .u8 m] 136))
 generalize(L.put b2 (.cells (cX s p).toArray 132)).put b3 (.cells #[.int .u8 m] 136)=L0 at k2 k3 i ⊢;refine .c O (N8 s p m L0) ?_;rintro _ _ ⟨bs,bw,rfl,R,c1,c2⟩;refine .g O ?_;rename_i L1;have u4:OV bs bw s p m L1:=⟨c1,c2,hs.le (i.trans R)⟩;have k2:=R _ _ k2;have k3:=R _ _ k3;have u5:=i.trans R;refine .cz 5 (.inl ⟨_,rfl⟩) O O ?_;intro Q u1 _;have g5:=aj L1 Q (.cells (.func (.func 140) #[] #[]::(lq ⟨0,0,0,0,0,0,false⟩++[.bool false])).toArray 147);refine W.acO L1 (Le.put u1 _) (λu6 H=>∃y w,Ip m (gT tt (u6.map (zs s (bB m)))) y w/\H Q=some (.cells (.func (.func 140) #[] #[]::(lq y++[.bool w])).toArray 147 (0,0),true)) (λ_ _=>False) (xs:=fB s (bB m)) (Kj (X:=C.X) D hm u p bs bw L1 u4) ⟨_,rfl,rfl,rfl⟩ oO [(11,.v (.func (.func 178) #[] #[pt bs,pt bw])),(5,.v (pt Q)),(3,.v (pt b3)),(2,.v (pt b2))] LB O O O (λ_ _ _ hl ⟨y,w,h1,h2⟩=>⟨y,w,h1,hl _ _ h2⟩) (λ_ _ _ _ h=>h.elim) ⟨_,false,⟨rfl,rfl⟩,ia g5⟩ O (λ_=>rfl) ?_ ?_ (λ_ _ _ _ _ _ _ h _=>h.elim)
 .rintro d l u6 x post H q lb hx S ⟨y,w,j,hb⟩ z1 u7 z2 g1 g2 C' i8 i9 u9 u2 i4;have q0:Q≠l:=λe=>by subst e;rw[g1] at hb;cases hb
  have z3:Q≠d:=λe=>by subst e;rw[g2] at hb;cases hb
  have q5:=rX (Hh (show x∈fB s (bB m) by rw[hx];simp));have T:∀k,0<=x.getD k 0/\x.getD k 0<=8:=λk=>by
   refine⟨(q5.2 k).1,?_⟩
   by_cases f:k<s.aO.length
   .have h1:=(q5.2 k).2 f;have h2:=D.sr (s.aO.getD k 0) (by rw[dL,bX f];exact fY f);omega
   .rw[dL,mh M];decide
  obtain⟨a,b,c,I⟩:=acW (FP (l:=x) M);have ha:=T 0;have q6:=T 1;have hc:=T 2;rw[<-pC,I] at ha q6 hc;have q7:Je x=[.agg #[.int .i64 a,.int .i64 b,.int .i64 c]]:=by unfold Je vw;rw[I];rfl
  have F:fh s (bB m) [a,b,c]=fh s (bB m) x:=by rw[<-I,Ki]
  rw[q7];refine .g O ?_;refine u9 _ _ _ λL2 r1 r2=>?_;have B:Le L1 L2:=λb o ho=>by rw[r2 _ (λe=>by subst e;rw[z1] at ho;cases ho)];exact S _ _ ho
  have q8:=(r2 Q q0).trans hb;have z4:=(r2 d (dG z2)).trans g2;refine .G O (Vf.q O (dU (vs:=cX s p) (B _ _ k2) O)) (.G O (Vf.l O (aF (B _ _ k3) O)) (.g O ?_));have q9:=TF (X:=C'.X) s p m a b c L2 (u4.sw.le B) D hm u ha q6 hc;rw[F] at q9;refine .c O q9 ?_;rintro _ _ ⟨rfl,J⟩;rename_i L3;have z5:PB 4000 (fh s (bB m) x):=by
   rw[<-F];exact(CS D u (oE m) (λk=>by rw[<-I,pC];exact T k) s.ay.length).mono M
  have z6:zs s (bB m) x=⟨bB m,x,bu (fh s (bB m) x).t,CH (fh s (bB m) x)⟩:=rfl;obtain⟨⟨t0,t1,t2,et,z7,z8,z9⟩,⟨s0,s1,s2,es,d3,d4,d5⟩,⟨g,d1,d2,ed,d6,d7,d8⟩,v0⟩:=z5;generalize fh s (bB m) x=P at *;obtain⟨q1,q2,q3,q4⟩:=P;simp only at et es ed v0;subst et es ed;have v1:=J _ _ q8;have r3:=J _ _ r1;have g3:=J _ _ z4;have K:=B.trans J
  change W _ _ _ _ ((16,SV.v (plV (t0,t1,t2) (s0,s1,s2) (g,d1,d2) q4))::_) _ _
  refine .g O ?_;refine .a (E':=[(3,.v (pt b3)),(5,.v (pt Q)),(6,.p 0 0),(7,.p 1 0)]) (B':=[some ⟨cL (.v (v3 a b c)),143⟩,some ⟨cL (.v (plV (t0,t1,t2) (s0,s1,s2) (g,d1,d2) q4)),263⟩]) ?_;refine W.drawn aN L1 K ?_;refine .u 0 rfl (Vf.l rfl (aF k3 rfl)) (.run' [1,2,3,5] rfl (.c 4 rfl rfl (La t0 t1 t2 _ z7 z8 z9) (by rintro _ _ ⟨rfl,hl⟩;exact K.trans hl) ?_));rintro _ _ ⟨rfl,G⟩;refine .c 6 rfl rfl (S9 (t0,t1,t2) (s0,s1,s2) (g,d1,d2) q4 _ ⟨d3,d4,d5⟩ ⟨d6,d7,d8⟩ v0) (by rintro _ _ ⟨rfl,hl⟩;exact (K.trans G).trans hl) ?_;rintro _ _ ⟨rfl,E⟩;rename_i d9;have v2:=(K.trans G).trans E;have v4:=E _ _ (G _ _ v1);have r5:=E _ _ (G _ _ r3);have i0:=E _ _ (G _ _ g3);obtain⟨X5,v5⟩:∃X5:rP,X5=⟨m,a,b,c,bu [t0,t1,t2],bu (l3 (s0,s1,s2)) - bu (l3 (g,d1,d2)) - q4,true⟩:=⟨_,rfl⟩;have i1:oj m (zs s (bB m) x)=X5:=by
   rw[z6,v5];unfold oj;rw[rP.mk.injEq];refine⟨rfl,?_,?_,?_,rfl,rfl,rfl⟩
   .rw[<-pC,I];rfl
   .rw[<-pC,I];rfl
   .rw[<-pC,I];rfl
  have v6:=Uy (X:=C'.X) Q (.func (.func 140) #[] #[]) ⟨_,_,_,rfl⟩ X5 y w (PT X5 y) _ v4 (λ_=>ZA X5 y _);rw[show cC X5=.agg #[.int .u8 m,.int .i64 a,.int .i64 b,.int .i64 c,.int .i64 (bu [t0,t1,t2]),.int .i64 (bu (l3 (s0,s1,s2)) - bu (l3 (g,d1,d2)) - q4),.bool true] by rw[v5];rfl] at v6;refine .run' [7] O ?_;have u3:∀v H,agi Q (.func (.func 140) #[] #[]) (if !w||PT X5 y then X5 else y) d9 v H->Le L1 H:=λv H h b z hz=>h.2.1 b z (λe=>by subst e;rw[u1] at hz;cases hz) (v2 _ _ hz);refine .c 8 rfl rfl v6 (by rintro _ _ hQ;exact u3 _ _ hQ) ?_;rintro _ _ hQ;obtain⟨rfl,f,i2⟩:=hQ;refine .fin O ?_;refine .g O ?_;refine u2 _ _ _ _ .nil (f _ _ (dG q0) r5) (f _ _ (dG z3) i0) (λb z hz=>f b z (λe=>by subst e;rw[u1] at hz;cases hz) (v2 _ _ hz)) ⟨_,true,?_,ia i2⟩;rw[iq,iH,nG,rH,<-i1];exact j.take _
 .rintro d l H S - u7 ⟨y,w,j,hb⟩ hd;refine .G O (Vf.l O (aF hb O)) (.g O ?_);have i3:dE s (bB m)=gT tt ((fB s (bB m)).map (zs s (bB m))):=rfl;rw[<-i3] at j;have v7:Le L (H.put d (.deferred none)):=u5.trans (aG S u7 _);refine .a (E':=[(4,.p 2 0),(3,.v (pt b3)),(5,.v (pt Q)),(28,.v (.bool (!w)))]) (B':=[none,none,some ⟨[.v (.int .u8 0),.v (.int .i64 0),.v (.int .i64 0),.v (.int .i64 0),.v (.int .i64 0),.v (.int .i64 0),.v (.bool false)],145⟩]) ?_;cases ho:dE s (bB m) with
  | none=>
   rw[ho] at j r;obtain⟨rfl,rfl⟩:=j;refine .T O (.G O (Vf.l O (aF (S _ _ k3) O)) (.g O ?_));exact W.out oO (.inr .ret) (WM.collected O hd (WM.ret r O O ⟨rfl,v7⟩))
  | some z=>
   rw[ho] at j r;obtain⟨rfl,rfl⟩:=j;refine .F O (.G O (Vf.q O ((by exact GO [_] (lq (oj m z)) [_] hb))) (.g O ?_));exact W.out oO (.inr .ret) (WM.collected O hd (WM.ret r O O ⟨rfl,v7⟩))
def xF(s:Sw):uL s [] []=e8 s:=by
 unfold uL
 by_cases h:e8 s=0
 .rw[A (by simp[h])];simp[h]
 .rw[ax h]
def abn(x:List Int×Int×Int)(L:LH)(v:Value)(L':LH):Prop:=∃ad cap,v=.tuple #[.slice ad x.1 cap,x.2.1,x.2.2]/\bK L' ad x.1/\Le L L'
theorem GX{α:Type}{d:α->α->Bool}:∀(l:List α) (o:Option α) (x:α),l.foldl (mR d) o=some x->x∈l\/o=some x
 | [],o,x,h=>.inr h
 | y::l,o,x,h=>by
  rw[lJ] at h;rcases GX l _ x h with h | h
  ·exact .inl (fG _ h)
  ·cases o with
   | none=>cases h;exact .inl fC
   | some z=>
    unfold mR at h;dsimp only at h
    split at h
    ·cases h;exact .inl fC
    ·exact .inr h
def Pw{d:α->α->Bool}{x:α}(h:gT d r=x):x∈r:=by
 rcases GX r none x h with h | h
 .exact h
 .cases h
def js{c:Cr}(h:dE s q=c):c.w=q/\c.l=s.aO.length:=by
 have:=Pw h;obtain⟨l,o,rfl⟩:=fK.1 this;exact⟨rfl,(rX (Hh o)).1⟩
def acT(h:l.length<=3):[l.getD 0 0,l.getD 1 0,l.getD 2 0].take l=l:=by
 match l,h with
 | [],_=>rfl
 | [a],_=>rfl
 | [a,b],_=>rfl
 | [a,b,c],_=>rfl
def Y8(s:Sw)(p:Wp)(y:bA)(S:Nat)(w:aH)(L:LH)(h:eE L s p)(T:Sm s)(B:bK L y w)(E:w.length<=1000000):
  Sp X 67 [gZ s p,.slice y w S] L (abn (rz s w) L):=by
 refine Sp.e Tryz.func67 O λC hX d r=>(.o O (Em s p none none 0 0 [] [] L h T bz.empty bz.empty U U) ?_);rintro z _ ⟨m,D⟩;refine .g O ?_;rename_i L1;rw[xF] at D;rcases D with⟨he,rfl⟩ | ⟨he,rfl⟩
 .have i:rz s w=([],0,e8 s):=by unfold rz;rw[ax he]
  rw[i] at r;refine .I O (λk=>W.go 99 O ?_) (λk=>W.go 99 O ?_)
  .refine .r r O ?_;exact⟨none,0,rfl,bz.empty,m⟩
  .simp at k;exact ar k he
 have v:=nA he;refine .I O (λk=>W.go 99 O ?_) (λk=>W.go 99 O ?_)
 .simp at k
 refine .c O (adz s p y S w _ v.w5 (B.le m) E) ?_;rintro z _ ⟨rfl,D⟩;refine .g O ?_;rcases D with⟨hr,rfl⟩ | ⟨hr,rfl⟩
 .have i:rz s w=([],0,wj s w):=by unfold rz;rw[A (by simp[he]),ax hr]
  rw[i] at r;refine .I O (λq=>W.go 99 O ?_) (λq=>W.go 99 O ?_)
  .refine .r r O ?_;exact⟨none,0,rfl,bz.empty,m⟩
  .simp at q;exact ar q hr
 obtain⟨e,b,_⟩:=aau hr;have u:=GL e λx F=>lg (b x F) v.w5;have I:=NU λx F=>lg (b x F) v.w5;have i:rz s w=tz s (kl w):=by unfold rz;rw[A (by simp[he]),A (by simp[hr])]
 rw[i] at r;have t:=Nh (X:=C.X) s p (qV (kl w)) _ (h.le m) v I (by rw[u];exact b);rw[u] at t;refine .I O (λq=>W.go 99 O ?_) (λq=>W.go 99 O ?_)
 .simp at q
 cases j:dE s (kl w) with
 | none=>
  rw[j] at t;have f:tz s (kl w)=([],0,11):=by unfold tz;rw[j]
  rw[f] at r;refine .c O t ?_;rintro _ _ ⟨rfl,o⟩;refine .g O ?_;refine .T O ?_ (by simp[Vv]);refine .D r O ?_;exact⟨none,0,rfl,bz.empty,m.trans o⟩
 | some c=>
  rw[j] at t;have f:tz s (kl w)=(c.l,c.c,0):=by unfold tz;rw[j]
  rw[f] at r;obtain⟨_,a⟩:=js j;have J:c.l=s.ay.length:=by rw[a,v.st]
  have G:=v.l3;refine .c O t ?_;rintro _ _ ⟨rfl,o⟩;refine .g O ?_;rename_i g;refine .F O ?_ (by simp[Vv,oj]);refine .g O ?_;have K:=VZ (X:=C.X) s p (c.l.getD 0 0) (c.l.getD 1 0) (c.l.getD 2 0) g G;rw[<-J,acT M] at K;refine .z (.run' [0,1,2,4,5] rfl (.c 3 rfl rfl K Gd ?_));rintro _ _ ⟨ad,H,rfl,Q,R,_⟩;refine .run' [6,7,8] O (.fin O (.D r O ?_));exact⟨ad,H,rfl,R,(m.trans o).trans Q⟩
def Ku:∀{w:aU} {n:Nat} {p:me},Im w->(∀i∈w,i<n)->(∀q,p=some q->∀i∈w,q<(i:Int))->tK ((n:Int) - 1) p (cm w)=0
 | [],n,p,_,_,_=>rfl
 | x::w,n,p,ha,hn,hp=>by
  have u:=hn x fC;let b:=Dw.1 ha;show tK ((n:Int) - 1) p ((x:Int)::cm w)=0;rw[tK,A Q0,A]
  .exact Ku b.2 (λi v=>hn i (fG _ v)) λq c i v=>by
    cases c;have:=b.1 i v;omega
  .cases p with
   | none=>simp[Fx]
   | some q=>
    have:=hp q rfl x fC;simp[Fx];omega
def Tu(w:aU):kl (cm w)=w:=by
 unfold kl cm;rw[yW];exact(yX λi _=>rfl).trans (List.map_id _)
def IY(n:Nat):Im (List.range n):=List.pairwise_lt_range
def OI(h:e8 s=0){w:aU}(v:Im w)(u:tn s w):rz s (cm w)=tz s w:=by
 have b:wj s (cm w)=0:=Ku v u λq c=>by cases c
 unfold rz;rw[A (by simp[h]),A (by simp[b]),Tu]
def U2(s:Sw)(p:Wp)(L:LH)(h:eE L s p)(e:Sm s):Sp X 27 [gZ s p] L (abn (mU s) L):=by
 refine Sp.e (n:=23) Tryz.func27 O λC G d r=>(.o O (Em s p none none 0 0 [] [] L h e bz.empty bz.empty U U) ?_);intro z _ ⟨m,c⟩;refine .g O ?_;rename_i I;rw[xF] at c;rcases c with⟨he,rfl⟩ | ⟨he,rfl⟩
 .have u:mU s=([],0,e8 s):=by unfold mU;rw[ax he]
  rw[u] at r;refine .I O (λt=>W.go 99 O ?_) (λt=>W.go 99 O ?_)
  .refine .r r O ?_;exact⟨none,0,rfl,bz.empty,m⟩
  .simp at t;exact ar t he
 have v:=nA he;have q:=v.w5;have J:2 ^ s.aC.length - 1<32:=by
  have:2 ^ s.aC.length<=2 ^ 5:=Cq V q;omega
 have x:=Jr q;have g:tn s (gm s):=λi K=>fo.1 K;have u:mU s=rz s (cm (gm s)):=by rw[OI (w:=gm s) he (IY _) g];unfold mU;rw[A (by simp[he])]
 rw[u] at r;refine .I O (λt=>W.go 99 O ?_) (λt=>W.go 99 O ?_)
 .simp at t
 refine .z (.run' [0,1] rfl (.c 2 rfl rfl (SS s p I q) jw ?_));rintro _ _ ⟨rfl,rfl⟩;have j:=uH (X:=C.X) (2 ^ s.aC.length - 1) J I;rw[x] at j;refine .c 3 rfl rfl j Gd ?_;rintro H _ ⟨a1,c1,rfl,a,y,f⟩;rename_i D;refine .c 4 rfl rfl (Y8 s p a1 c1 (cm (gm s)) D (h.le (m.trans a)) e y (by rw[jF];simp[gm];omega)) (by rintro _ _ ⟨_,_,rfl,_,o⟩;exact a.trans o) ?_;rintro _ _ ⟨F,b,rfl,l,k⟩;refine .run' [5,6,7,8,9,10] O (.fin O (.D r O ?_));exact⟨F,b,rfl,l,(m.trans a).trans k⟩
end
end Go.Mz
