/- Lemmas on which the claim leans. -/
import Derived.Test.YtjhpkghkgaekcaaGreatDoorMzLc
import Derived.Lib.Bytealg
set_option maxRecDepth 100000
namespace Go.Mz
open Go.Conc Go.Proofs
variable {X:ax Tryz.prog}
def Ue:Array Value→Sem Value:=Extern.BytealgCount.count
def abl:Array Value→Sem Value:=Extern.BytealgIndexByte.indexByte
theorem MU:Ext Tryz.prog 173 Tryz.f173 Ue:=⟨Tryz.func173,by kernel_rfl,rfl,by kernel_rfl,by kernel_rfl⟩
theorem Ut:Ext Tryz.prog 261 Tryz.f261 abl:=⟨Tryz.func261,by kernel_rfl,rfl,by kernel_rfl,by kernel_rfl⟩
def cV(l:List UInt8)(c:UInt8):Nat:=l.count c
abbrev qX(l:List UInt8)(c:UInt8):Int:=Lib.indexByte l c
theorem HE(c:UInt8):((c.toNat:Int)).toNat.toUInt8=c:=by simp
theorem MA(l:List UInt8)(c:UInt8)(L:LH):jN Tryz.prog 173 [str l,mR c] L (fun u L'=>u=.int .i64 (cV l c:Nat)∧L=L'):=
 jN.pure MU fun Q H R=>by
  show az Tryz.prog Q H (pure (goInt ((ByteArray.mk ⟨l⟩).foldl (fun n x=>if x==((c.toNat:Int)).toNat.toUInt8 then n+1 else n) (0:Nat)))) R=_;rw[Lib.foldl_data,ar,HE];have e:∀(l:List UInt8) (n:Int),l.foldl (fun(n:Int) x=>if x==c then n+1 else n) n=n+(cV l c:Nat):=fun l n=>Lib.count_foldl c l n;have:=e l 0;rw[Int.zero_add] at this;show Q (.int .i64 (l.foldl (fun(n:Int) x=>if x==c then n+1 else n) 0)) R=_;rw[this]
theorem Vh(l:List UInt8)(c:UInt8)(L:LH):jN Tryz.prog 261 [str l,mR c] L (fun u L'=>u=.int .i64 (qX l c)∧L=L'):=
 jN.pure Ut fun Q H R=>by
  show az Tryz.prog Q H (match(List.range (ByteArray.mk ⟨l⟩).size).find? fun i=>(ByteArray.mk ⟨l⟩)[i]! ==((c.toNat:Int)).toNat.toUInt8 with
   | some i=>pure (goInt i)
   | none=>pure (goInt (-1))) R=_
  rw[HE];have h:=Lib.firstIdx_eq ⟨⟨l⟩⟩ c;have hf:Lib.indexByte l c=firstIdx ⟨⟨l⟩⟩ c:=h.symm;unfold qX;rw[hf];unfold firstIdx;cases(List.range (ByteArray.mk ⟨l⟩).size).find? fun i=>(ByteArray.mk ⟨l⟩)[i]! ==c <;> rfl
theorem qA(l:List UInt8)(k:UInt8)(L:LH):Sp X 131 [str l,str [k]] L (fun v L'=>v=.int .i64 (cV l k:Nat)∧L=L'):=by
 refine Sp.enter (n:=34) Tryz.func131 rfl rfl rfl rfl fun C hX _ aG r=>?_;refine W.go 99 rfl ?_;refine W.split rfl rfl rfl (fun h=>absurd h (by simp)) (fun _=>W.go 99 rfl ?_);refine W.split rfl rfl rfl (fun _=>W.go 99 rfl ?_) (fun h=>absurd h (by simp));refine W.vf rfl rfl rfl rfl (Vf.SU rfl rfl rfl rfl rfl (show[k][0]?=some k from rfl)) ?_;refine W.go 99 rfl ?_;refine W.aB rfl rfl rfl (Ef.ext rfl (MA l k _)) ?_;rintro _ _ _ ⟨_,rfl,rfl,rfl,rfl⟩;refine W.go 99 rfl ?_;exact W.ret r rfl rfl ⟨rfl,rfl⟩
theorem Dj(l:List UInt8)(k:UInt8)(L:LH):Sp X 245 [str l,mR k] L (fun v L'=>v=.int .i64 (qX l k)∧L=L'):=by
 refine Sp.enter (n:=8) Tryz.func245 rfl rfl rfl rfl fun C hX _ aG r=>?_;refine W.go 99 rfl ?_;refine W.aB rfl rfl rfl (Ef.ext rfl (Vh l k _)) ?_;rintro _ _ _ ⟨_,rfl,rfl,rfl,rfl⟩;refine W.go 99 rfl ?_;exact W.ret r rfl rfl ⟨rfl,rfl⟩
theorem Me(l:List UInt8)(k:UInt8)(L:LH):Sp X 222 [str l,str [k]] L (fun v L'=>v=.int .i64 (qX l k)∧L=L'):=by
 refine Sp.enter (n:=143) Tryz.func222 rfl rfl rfl rfl fun C hX _ aG r=>?_;refine W.go 99 rfl ?_;refine W.split rfl rfl rfl (fun h=>absurd h (by simp)) (fun _=>W.go 99 rfl ?_);refine W.split rfl rfl rfl (fun c1=>?_) (fun c1=>?_)
 ·have e:l=[k]:=by
   rw[pB] at c1;have:[k]=l:=by simpa using c1
   exact this.symm
  subst e;refine W.go 99 rfl ?_;exact W.ret r rfl rfl ⟨by simp[qX,Lib.indexByte,o9],rfl⟩
 ·refine W.go 99 rfl ?_;refine W.split rfl rfl rfl (fun _=>W.go 99 rfl ?_) (fun h=>absurd h (by simp));refine W.vf rfl rfl rfl rfl (Vf.SU rfl rfl rfl rfl rfl (show[k][0]?=some k from rfl)) ?_;refine W.go 99 rfl ?_;refine W.aB rfl rfl rfl (Ef.call rfl (Dj l k _)) ?_;rintro _ _ _ ⟨_,rfl,rfl,rfl,rfl⟩;refine W.go 99 rfl ?_;exact W.ret r rfl rfl ⟨rfl,rfl⟩
theorem OB(l:List UInt8)(k:UInt8)(L:LH):Sp X 174 [str l,str [k]] L (fun v L'=>v=.int .i64 (qX l k)∧L=L'):=by
 refine Sp.enter (n:=8) Tryz.func174 rfl rfl rfl rfl fun C hX _ aG r=>?_;refine W.go 99 rfl ?_;refine W.aB rfl rfl rfl (Ef.call rfl (Me l k _)) ?_;rintro _ _ _ ⟨_,rfl,rfl,rfl,rfl⟩;refine W.go 99 rfl ?_;exact W.ret r rfl rfl ⟨rfl,rfl⟩
end Go.Mz
set_option maxRecDepth 100000
namespace Go.Mz
open Go.Conc
section
variable {P:Program}[S:Seat P]{E:a8}{B:List (Option Bx)}{L:LH}
omit S in
theorem vX{lo hi:Option Value}{len cap i j:Nat}{Q:Nat×Nat×Nat→LH→Prop}{H:Value→LH→Prop}{R:LH}(h1:(hi=none∧len=j)∨∃k,hi=some (.int k (j:Int)))(h2:(lo=none∧i=0)∨∃k,lo=some (.int k (i:Int)))(lJ:i≤j)(hj:j≤cap):az P Q H (Instr.sliceBounds true len cap lo hi none) R=Q (i,j,cap) R:=by
 unfold Instr.sliceBounds;rcases h1 with⟨rfl,rfl⟩ | ⟨k1,rfl⟩ <;> rcases h2 with⟨rfl,rfl⟩ | ⟨k2,rfl⟩
 ·simp only;rw[ae,ar,ae,ar,ae,ar,ar]
 ·simp only;rw[ae,ar,ae,ar,ae,cX (by omega),Int.toNat_natCast,ar]
 ·simp only;rw[ae,ar,ae,cX (by omega),Int.toNat_natCast,ae,ar,ar]
 ·simp only;rw[ae,ar,ae,cX (by omega),Int.toNat_natCast,ae,cX (by omega),Int.toNat_natCast,ar]
omit S in
theorem Vf.vJ{t e:TypeId}{x:Operand}{lo hi:Option Operand}{oa:Option Addr}{len cap m i j:Nat}{i' j':Int}(hx:aL E x=some (.v (.slice oa len cap)))(hu:P.underlying t=some (.slice e))(hs:(P.info? e).map (·.size)=some m)(pI:FA E lo 0=some i')(Ei:FA E hi len=some j')(ei:i'=(i:Int))(ej:j'=(j:Int))(lJ:i≤j)(hj:j≤cap):
  Vf P (.slice t x lo hi none) E B L (.v (.slice (if cap=i then oa else oa.map fun a=>a.add (i *m)) (j - i) (cap - i))):=fun T R β hE _ _=>by
 have ex:=(Option.some.inj (hE.val hx)).symm;subst ei ej;refine⟨_,rfl,fun ty dst pos af gd Q H hq=>?_⟩;simp only[execOp,ex,Option.map_none];rw[ae];unfold Instr.sliceAt;rw[ae,ao hu];simp only;unfold Instr.slice;rw[ae,ao hu];simp only;rw[ae];have key:∀(o:Option Operand) (d j':Int) (k:Nat),FA E o d=some j'→j'=(k:Int)→(o.map (ev T)=none∧d=k)∨∃kk,o.map (ev T)=some (.int kk (k:Int)):=by
  intro o d j' k h e;subst e;cases o with
  | none=>exact .inl ⟨rfl,Option.some.inj h⟩
  | some z=>
   unfold FA at h;simp only at h
   split at h
   ·rename_i kk q hz;cases h;exact .inr ⟨kk,by rw[Option.map_some,(Option.some.inj (hE.val hz)).symm]⟩
   ·cases h
 rw[vX (i:=i) (j:=j) ((key _ _ _ _ Ei rfl).imp (fun h=>⟨h.1,by omega⟩) id) ((key _ _ _ _ pI rfl).imp (fun h=>⟨h.1,by omega⟩) id) lJ hj];simp only;rw[ae,bL hs];exact hq
end
end Go.Mz
namespace Go.Mz
open Go.Conc
section
variable {P:Program}{C:Cx P}{E:a8}{B:List (Option Bx)}{L:LH}{dst:Option Tmp}{ty:TypeId}{pos:String}{af:Array Edge}{gd:Option (Nat×Bool)}
theorem Ef.makeSlice{t e:TypeId}{x:Operand}{n tc:Nat}{z:Value}(hx:aL E x=some (.v (.int .i64 n)))(hn:n≤1000000)(hu:P.underlying t=some (.slice e))(hk:(P.info? e).map (·.size)=some 1)(u9:(P.info? e).map (·.bytes)=some tc)(hz:(P.info? e).bind (·.zero)=some z)(hb:tc≤1024)(hzc:z.cells=#[z]):
  Ef C ⟨dst,.makeSlice t x x,ty,pos,af,gd⟩ E B L (fun sv B' L'=>∃b,sv=.v (.slice (some ⟨b,0,none⟩) n n)∧B'=B∧L b=none∧L'=L.put b (.cells (Array.replicate n z) e)):=by
 intro T R β hE hH;have ex:ev T x=.int .i64 n:=(Option.some.inj (hE.val hx)).symm;obtain⟨inf,vg,yr⟩:∃inf,P.info? e=some inf∧inf.bytes=tc:=by
  cases hx:P.info? e with
  | none=>rw[hx] at u9;cases u9
  | some i=>rw[hx] at u9;cases u9;exact⟨i,rfl,rfl⟩
 have hw:IntKind.i64.wrap (n:Int)=n:=wrap64_in _ (by omega) (by omega);refine⟨rfl,?_⟩;simp only[execOp,ex];rw[ae];unfold Instr.makeSlice;rw[ae,ao hu];simp only;rw[ae];show az P _ _ (asInt (.int .i64 n)>>= _) R;rw[ae];show az P _ _ (typeInfo e>>= _) R;rw[ae,dW vg];simp only[hw];have hmul:tc *n≤1024 * 1000000:=Nat.mul_le_mul hb hn;have h48:(inf.bytes:Int) * (n:Int)≤281474976710656:=by
  rw[yr];have:((tc *n:Nat):Int)≤1024000000:=by omega
  rw[Int.natCast_mul] at this;omega
 rw[if_neg (by simp[h48])];rw[ae];refine mF ?_;rw[ae,bL hk];simp only[Int.toNat_natCast,Nat.mul_one];have fin:∀c:Array Value,c=Array.replicate n z→∀b,R b=none→∃sv B' L',(∃b,sv=.v (.slice (some ⟨b,0,none⟩) n n)∧B'=B∧L b=none∧L'=L.put b (.cells (Array.replicate n z) e))∧den β sv=some (.slice (some ⟨b,0,none⟩) n n)∧aF C.L0 C.R0 β B' L' (R.put b (.cells c e))∧∀kk,β kk=none→B'[kk]?=B[kk]?:=fun c hc b hb=>by
  subst hc;exact⟨_,B,_,⟨b,rfl,rfl,(hH.free hb).1,rfl⟩,rfl,hH.vw hb _,fun _ _=>rfl⟩
 by_cases h0:n=0
 ·subst h0;rw[if_pos rfl,ae,ar,ae,fW];intro b hb;exact fin _ (by simp) b hb
 ·rw[if_neg h0,ae,dA hz,ae,ar,ae,fW];intro b hb;refine fin _ ?_ b hb;rw[hzc]
  ext i h1 h2
  ·simp
  ·simp[Nat.mod_one]
end
end Go.Mz
namespace Go.Mz
open Go
structure Gl where
 made:Int
 cS:Int
 bI:bV
deriving DecidableEq
structure Sg where
 aJ:Int
 cZ:Int
 year:Int
 found:Int
deriving DecidableEq
structure Ro where
 ai:List Gl
 steps:List Int
 aA:List Int
 samples:List bV
 ak:List Sg
deriving DecidableEq
def ix(g:Gl):Int:=if !bq g.made 0 60||!bq g.cS 0 40 then 1 else eE g.bI 3
def c8:List Gl→Int
 | []=>0
 | g::l=>if ix g≠0 then ix g else c8 l
def df:Option Int→List Int→Int
 | _,[]=>0
 | p,n::l=>if !bq n 1 40 then 1 else if(match p with | some q=>decide (n≤q) | none=>false) then 5 else df (some n) l
def de(r:Ro)(s:Sg):Int:=
 if !bq s.aJ 0 ((r.samples.length:Int) - 1)||!bq s.cZ 0 ((r.ai.length:Int) - 1) then 3 else
 if !bq s.year 0 60 then 1 else
 if s.year<(r.ai.getD s.cZ.toNat ⟨0,0,⟨0,0⟩⟩).made then 12 else
 if !bq s.found 0 2 then 8 else 0
def ib(r:Ro):List Sg→Int
 | []=>0
 | s::l=>if de r s≠0 then de r s else ib r l
def dK(r:Ro):Int:=
 if bA r.ai.length 1 4≠0 then bA r.ai.length 1 4 else
 if c8 r.ai≠0 then c8 r.ai else
 if bA r.steps.length 1 3≠0 then bA r.steps.length 1 3 else
 if df none r.steps≠0 then df none r.steps else
 if r.aA.length≠r.steps.length+1 then 9 else
 if !(r.aA.all fun n=>bq n 0 99) then 1 else
 if dq r.samples 2 40≠0 then dq r.samples 2 40 else
 if 8<r.ak.length then 6 else ib r r.ak
def bQ(r:Ro)(f:List Int)(cZ:Nat)(year:Int):Int:=
 let g:=r.ai.getD cZ ⟨0,0,⟨0,0⟩⟩
 max 0 (g.cS - f.getD cZ 0 * (year - g.made))
def gv(n cZ:Int):bV:=if n=0 then⟨cZ+1,40⟩ else if n=1 then⟨cZ,cZ⟩ else⟨0,cZ - 1⟩
def eJ(aJ cZ:Int):Int:=if cZ<aJ then 0 else if aJ<cZ then 2 else 1
def aI(r:Ro)(f:List Int)(ss:List Sg):List bV:=
 ss.foldl (fun g s=>g.modify s.aJ.toNat fun x=>dj x (gv s.found (bQ r f s.cZ.toNat s.year))) r.samples
def aS:List Gl→List (List Int)
 | []=>[[]]
 | g::l=>(aS l).flatMap fun t=>(fI g.bI).map (·::t)
def aT(r:Ro)(ss:List Sg):List (List Int×List bV):=
 ((aS r.ai).map fun f=>(f,aI r f ss)).filter fun x=>decide (0<bz x.2)
def bT(r:Ro)(c:Int):Nat:=r.steps.countP fun s=>decide (s≤c)
def bh(r:Ro)(k:Nat):bV:=⟨if 0<k then r.steps.getD (k - 1) 0 else 0,if k<r.steps.length then r.steps.getD k 0 - 1 else 40⟩
def cW(g:List bV)(aJ:Nat)(s:bV):Int:=(bz g).tdiv (bR (g.getD aJ ⟨0,0⟩)) *bR (dj (g.getD aJ ⟨0,0⟩) s)
def iJ(r:Ro)(aJ k:Nat):Int:=gL ((aT r r.ak).map fun x=>cW x.2 aJ (bh r k))
def bS(r:Ro)(aJ:Nat):List Nat:=(List.range r.aA.length).filter fun k=>decide (0<iJ r aJ k)
def lA:List Int→Int
 | []=>0
 | x::l=>l.foldl min x
def ov:List Int→Int
 | []=>0
 | x::l=>l.foldl max x
def dI(r:Ro)(aJ:Int):bV×Int:=
 if dK r≠0 then(⟨0,0⟩,dK r) else
 if !bq aJ 0 ((r.samples.length:Int) - 1) then(⟨0,0⟩,3) else
 if aT r r.ak=[] then(⟨0,0⟩,9) else
 let l:=(bS r aJ.toNat).map fun k=>r.aA.getD k 0
 (⟨lA l,ov l⟩,0)
def pf:Ro:=⟨[],[],[],[],[]⟩
def iD(r:Ro)(s:Sg):Ro×Int:=
 if dK r≠0 then(pf,dK r) else
 if r.ak.length=8 then(pf,6) else
 if de r s≠0 then(pf,de r s) else
 if aT r r.ak≠[]∧aT r (r.ak++[s])=[] then(pf,9) else({r with ak:=r.ak++[s]},0)
def xS:Ro:=⟨[⟨0,20,⟨0,1⟩⟩,⟨0,30,⟨1,2⟩⟩,⟨5,12,⟨0,0⟩⟩,⟨5,18,⟨0,0⟩⟩],[10,18],[3,5,8],[⟨8,24⟩,⟨5,15⟩],[⟨0,0,4,2⟩,⟨0,2,5,0⟩]⟩
abbrev Bs:=List UInt8
def cT:Bs→List Bs
 | []=>[[]]
 | c::l=>match c==32,cT l with
  | true,r=>[]::r
  | false,w::r=>(c::w)::r
  | false,[]=>[[c]]
def kg:List Bs→Bs
 | []=>[]
 | [w]=>w
 | w::l=>w++32::kg l
def vT:List Bs:=[[112,114,111,111,102],[115,105,103,104,116],[119,97,110,116],[118,111,105,100],[119,104,101,110],[100,117,116,121],[98,101,115,116]]
def gh(v:Nat):Bs:=vT.getD v []
def iu(v:Nat):Nat:=[3,4,4,1,1,1,0].getD v 0
def p9:Bs:=[97,110,121]
def okB:Bs:=[111,107]
def WL:Bs:=[101,114,114,111,114]
def CO:Bs→Option Nat
 | [a]=>if 48≤a∧a≤57 then some (a.toNat - 48) else none
 | [a,b]=>if 49≤a∧a≤57∧48≤b∧b≤57 then some (10 * (a.toNat - 48)+(b.toNat - 48)) else none
 | _=>none
def lT(v:Nat):Nat→List Bs→Option (List Int)
 | _,[]=>some []
 | i,w::l=>
  match(if v=2∧i=1∧w=p9 then some (-1:Int) else(CO w).map Int.ofNat),lT v (i+1) l with
  | some n,some r=>some (n::r)
  | _,_=>none
def gW(l:Bs):Option (Nat×List Int):=
 match cT l with
 | []=>none
 | w::r=>match vT.idxOf? w with
  | none=>none
  | some v=>if r.length≠iu v then none else(lT v 0 r).map fun a=>(v,a)
def bH(n:Nat):Bs:=(Nat.toDigits 10 n).map fun c=>c.toNat.toUInt8
def gD(n:Int):Bs:=if n<0 then 45::bH n.natAbs else bH n.toNat
def lQ(l:List Int):Bs:=kg (l.map gD)
def rP(e:Int):Bs:=WL++32::gD e
end Go.Mz
set_option maxRecDepth 100000
namespace Go.Mz
open Go.Conc Go.Proofs
variable {X:ax Tryz.prog}
abbrev cI(w:Bs):List Value:=[str w]
theorem fJ(w:Bs):(cI w).length=1:=rfl
theorem je(w:Bs):∀u∈cI w,single u=true:=fun u hu=>by rw[List.mem_singleton.1 hu];rfl
theorem Iq(l:List Bs):l.flatMap cI=l.map str:=by
 induction l with
 | nil=>rfl
 | cons a l ih=>rw[List.flatMap_cons,ih];rfl
theorem tW:∀l:Bs,(qX l 32=-1∧cV l 32=0∧cT l=[l])∨∃m:Nat,qX l 32=m∧m<l.length∧cT l=l.take m::cT (l.drop (m+1))∧cV l 32=cV (l.drop (m+1)) 32+1
 | []=>.inl ⟨rfl,rfl,rfl⟩
 | c::l=>by
  by_cases hc:c=32
  ·subst hc;refine .inr ⟨0,rfl,by simp,?_,?_⟩
   ·rw[cT];rfl
   ·simp[cV]
  ·have Qq:(c==32)=false:=by simpa using hc
   have hi:qX (c::l) 32=if qX l 32==-1 then -1 else qX l 32+1:=by
    show(if(c==32)=true then _ else _)=_;rw[Qq];rfl
   have hn:cV (c::l) 32=cV l 32:=by unfold cV;rw[List.count_cons,Qq];rfl
   rcases tW l with⟨h1,h2,h3⟩ | ⟨m,h1,h2,h3,h4⟩
   ·refine .inl ⟨by rw[hi,h1];rfl,by rw[hn,h2],?_⟩;rw[cT,Qq,h3]
   ·refine .inr ⟨m+1,by rw[hi,h1,if_neg (by simp)];omega,by simp;omega,?_,by rw[hn,h4];simp⟩;rw[cT,Qq,h3];simp[List.take_succ_cons]
theorem T7(l:Bs)(c:UInt8):cV l c≤l.length:=List.count_le_length
theorem Ho{α:Type}(a b:List α)(x y:α):(a++x::b).set a.length y=a++y::b:=by simp
theorem G4(c:List Value)(i:Nat)(v:Value):db c.toArray i [v]=(c.set i v).toArray:=by
 show c.toArray.setIfInBounds i v=_;simp
theorem OL(l:Bs)(L:LH)(hn:l.length≤1000):Sp X 156 [str l,str [32],.int .i64 0,.int .i64 (-1)] L (fun v L'=>∃b,L b=none∧Le L L'∧v=.slice (some ⟨b,0,none⟩) (cT l).length (cT l).length∧aX L' (some ⟨b,0,none⟩) 1 cI (cT l)):=by
 have jR:=T7 l 32;refine Sp.enter (n:=66) Tryz.func156 rfl rfl rfl rfl fun C hX _ aG r=>?_;refine W.go 99 rfl ?_;refine W.split rfl rfl rfl (fun h=>absurd h (by simp)) (fun _=>W.go 99 rfl ?_);refine W.split rfl rfl rfl (fun c=>absurd c (by decide)) (fun c=>?_);refine W.go 99 rfl ?_;refine W.split rfl rfl rfl (fun _=>W.go 99 rfl ?_) (fun h=>absurd h (by simp));refine W.aB rfl rfl rfl (Ef.call rfl (qA l 32 _)) ?_;rintro _ _ _ ⟨_,rfl,rfl,rfl,rfl⟩;refine W.go 99 rfl ?_;have hm:(if IntKind.i64.wrap ((l.length:Int)+1)<IntKind.i64.wrap ((cV l 32:Nat)+1) then IntKind.i64.wrap ((l.length:Int)+1) else IntKind.i64.wrap ((cV l 32:Nat)+1))=((cV l 32+1:Nat):Int):=by
  rw[wrap64_in _ (by omega) (by omega),wrap64_in _ (by omega) (by omega),if_neg (by omega)];rfl
 rw[hm];refine W.aB rfl rfl rfl (Ef.makeSlice rfl (by omega) Tryz.underlying33 AO TZ aaO (by decide) rfl) ?_;rintro _ _ _ ⟨bn,rfl,rfl,oP,rfl⟩;refine W.dv [] 99 rfl ?_;have iL:IntKind.i64.wrap (((cV l 32+1:Nat):Int) - 1)=(cV l 32:Nat):=by rw[wrap64_in _ (by omega) (by omega)];omega
 rw[iL];have UJ:=aj L bn (.cells (Array.replicate (cV l 32+1) (str [])) 9);have e0:(Array.replicate (cV l 32+1) (str []))=(List.replicate (cV l 32+1) (str [])).toArray:=by simp
 rw[e0] at UJ;refine W.loop (fun m' E B L'=>∃(i:Nat) (done:List Bs) (s:Bs),m'=cV l 32 - i∧done.length=i∧cT l=done++cT s∧cV s 32+i=cV l 32∧s.length≤l.length∧Le L L'∧
   L' bn=some (.cells (done.map str++List.replicate (cV l 32+1 - i) (str [])).toArray 9 (0,0),true)∧
   E=[(0,.v (str s)),(1,.v (str [32])),(2,.v (.int .i64 0)),(3,.v (.int .i64 (cV l 32:Nat))),(9,.v (.slice (some ⟨bn,0,none⟩) (cV l 32+1) (cV l 32+1))),(10,.v (.int .i64 i))]∧B=[])
  ⟨0,[],l,rfl,rfl,rfl,by omega,Nat.le_refl _,Le.put oP _,UJ,rfl,rfl⟩ (by exact⟨rfl,rfl,rfl,rfl,rfl,rfl,trivial⟩) trivial ?_
 rintro _ _ _ L1 ⟨i,done,s,rfl,hd,jX,il,sA,ec,dN,rfl,rfl⟩ again;refine W.go 99 rfl ?_;refine W.split rfl rfl rfl (fun d1=>W.go 99 rfl ?_) (fun d1=>W.go 99 rfl ?_)
 ·have hi:i<cV l 32:=by simpa using d1
  rcases tW s with⟨_,h2,_⟩ | ⟨m,h1,h2,h3,h4⟩
  ·omega
  refine W.aB rfl rfl rfl (Ef.call rfl (OB s 32 _)) ?_;rintro _ _ _ ⟨_,rfl,rfl,rfl,rfl⟩;rw[h1];refine W.go 99 rfl ?_;refine W.split rfl rfl rfl (fun h=>absurd h (by simp)) (fun _=>?_);refine W.go 99 rfl ?_;refine W.vf rfl rfl rfl rfl (Vf.xh (i:=0) (j:=m) rfl rfl rfl rfl rfl rfl (show IntKind.i64.wrap ((m:Int)+0)=(m:Int) by rw[wrap64_in _ (by omega) (by omega)];omega) (Nat.zero_le _) (by omega)) ?_;rw[List.drop_zero,Nat.sub_zero];refine W.vf rfl rfl rfl rfl (Vf.aW rfl rfl rfl rfl rfl rfl rfl (show i<cV l 32+1 by omega)) ?_;refine W.dY rfl rfl (Ef.vN (b:=bn) (off:=i) rfl ⟨_,rfl,rfl⟩ rfl (by rw[cK,Nat.zero_add]) dN rfl (by show i+1≤_;rw[List.size_toArray,List.length_append,List.length_map,List.length_replicate];omega) (je _)) ?_;rintro _ _ _ ⟨rfl,rfl,rfl⟩;refine W.go 99 rfl ?_;have dP:db (done.map str++List.replicate (cV l 32+1 - i) (str [])).toArray i [str (s.take m)]=((done++[s.take m]).map str++List.replicate (cV l 32+1 - (i+1)) (str [])).toArray:=by
   rw[G4,show cV l 32+1 - i=(cV l 32+1 - (i+1))+1 by omega,List.replicate_succ];have:i=(done.map str).length:=by rw[List.length_map,hd]
   conv=>lhs;rw[this]
   rw[Ho];simp[hd]
  refine W.vf rfl rfl rfl rfl (Vf.xh (i:=m+1) (j:=s.length) rfl rfl rfl rfl rfl (show IntKind.i64.wrap ((m:Int)+1)=((m+1:Nat):Int) by rw[wrap64_in _ (by omega) (by omega)];omega) rfl (by omega) (Nat.le_refl _)) ?_;rw[List.take_of_length_le (by rw[List.length_drop];omega)];refine W.go 99 rfl ?_;exact W.again (again _ _ _ _ (by omega) ⟨i+1,done++[s.take m],s.drop (m+1),rfl,by simp[hd],by rw[jX,h3];simp,by omega,by rw[List.length_drop];omega,aC ec oP _,by rw[aj];exact congrArg (fun c=>some (Obj.cells c 9 (0,0),true)) dP,rfl,rfl⟩) (by exact⟨rfl,rfl,rfl,rfl,rfl,congrArg some (bu (by omega)),trivial⟩) trivial
 ·have iZ:i=cV l 32:=by simp at d1;omega
  have h0:cV s 32=0:=by omega
  have yz:cT s=[s]:=by
   rcases tW s with⟨_,_,h3⟩ | ⟨m,_,_,_,h4⟩
   ·exact h3
   ·omega
  have hlen:(cT l).length=cV l 32+1:=by rw[jX,yz,List.length_append,hd];simp[iZ]
  clear again;refine W.vf rfl rfl rfl rfl (Vf.aW rfl rfl rfl rfl rfl rfl rfl (show i<cV l 32+1 by omega)) ?_;refine W.dY rfl rfl (Ef.vN (b:=bn) (off:=i) rfl ⟨_,rfl,rfl⟩ rfl (by rw[cK,Nat.zero_add]) dN rfl (by show i+1≤_;rw[List.size_toArray,List.length_append,List.length_map,List.length_replicate];omega) (je _)) ?_;rintro _ _ _ ⟨rfl,rfl,rfl⟩;refine W.go 99 rfl ?_;have dP:db (done.map str++List.replicate (cV l 32+1 - i) (str [])).toArray i [str s]=((cT l).map str).toArray:=by
   rw[G4,show cV l 32+1 - i=0+1 by omega,List.replicate_succ];have:i=(done.map str).length:=by rw[List.length_map,hd]
   conv=>lhs;rw[this]
   rw[Ho,jX,yz];simp
  have hj:IntKind.i64.wrap ((i:Int)+1)=((cV l 32+1:Nat):Int):=by rw[iZ,wrap64_in _ (by omega) (by omega)];rfl
  refine W.vf rfl rfl rfl rfl (Vf.vJ (i:=0) (j:=cV l 32+1) rfl Tryz.underlying33 AO rfl rfl rfl hj (Nat.zero_le _) (Nat.le_refl _)) ?_;rw[if_neg (by omega),Nat.sub_zero];rw[show Option.map (fun a:Addr=>a.add (0 * 1)) (some ⟨bn,0,none⟩)=some ⟨bn,0,none⟩ from rfl];refine W.go 99 rfl ?_;refine W.ret r rfl rfl ?_;rw[hlen];refine⟨bn,oP,aC ec oP _,rfl,?_⟩;have eR:(L1.put bn (.cells (db (done.map str++List.replicate (cV l 32+1 - i) (str [])).toArray i [str s]) 9)) bn=some (.cells ((cT l).flatMap cI).toArray 9 (0,0),true):=by
   rw[aj,dP,Iq]
  exact cE fJ eR
theorem Mj(l:Bs)(L:LH)(hn:l.length≤1000):Sp X 115 [str l,str [32]] L (fun v L'=>∃b,L b=none∧Le L L'∧v=.slice (some ⟨b,0,none⟩) (cT l).length (cT l).length∧aX L' (some ⟨b,0,none⟩) 1 cI (cT l)):=by
 refine Sp.enter (n:=8) Tryz.func115 rfl rfl rfl rfl fun C hX _ aG r=>?_;refine W.go 99 rfl ?_;refine W.aB rfl rfl rfl (Ef.call rfl (OL l _ hn)) ?_;rintro _ _ _ ⟨_,rfl,rfl,b,hb,hle,rfl,sA⟩;refine W.go 99 rfl ?_;refine W.ret r rfl rfl ?_;exact⟨b,hb,hle,rfl,sA⟩
theorem i32_in(x:Int)(h1:-2147483648≤x)(h2:x≤2147483647):IntKind.i32.wrap x=x:=by
 unfold IntKind.wrap;simp only[IntKind.bits,IntKind.signed];simp;omega
theorem KD{a:UInt8}(h1:48≤a)(h2:a≤57):48≤a.toNat∧a.toNat≤57:=⟨UInt8.le_iff_toNat_le.1 h1,UInt8.le_iff_toNat_le.1 h2⟩
theorem Jn(a:UInt8)(L:LH)(h1:48≤a.toNat)(h2:a.toNat≤57):Sp X 118 [str [a]] L (fun v L'=>v=.int .i64 ((a.toNat:Int) - 48)∧Le L L'):=by
 refine Sp.enter (n:=46) Tryz.func118 rfl rfl rfl rfl fun C hX _ aG r=>?_;refine W.go 99 rfl ?_;refine W.aB rfl rfl rfl (Ef.Lp rfl rfl rfl) ?_;rintro _ _ _ ⟨q,rfl,rfl,hq,rfl⟩;refine W.go 99 rfl ?_;refine W.kW ?_;refine W.go 99 rfl ?_;refine W.aB rfl rfl rfl (Ef.wS rfl (aj _ _ _)) ?_;rintro _ _ _ ⟨rfl,iG⟩;rcases iG with⟨_,rfl,rfl⟩ | ⟨hp,_,_⟩
 rotate_left
 ·exact absurd hp (by show¬(1≤0);omega)
 rw[tn (show[a][0]?=some a from rfl) (by omega)];refine W.go 99 rfl ?_;refine W.split rfl rfl rfl (fun _=>W.go 99 rfl ?_) (fun h=>absurd h (by simp));refine W.split rfl rfl rfl (fun h=>absurd h (by simp;omega)) (fun _=>?_);refine W.go 99 rfl ?_;refine W.split rfl rfl rfl (fun h=>absurd h (by simp;omega)) (fun _=>?_);refine W.go 99 rfl ?_;refine W.split rfl rfl rfl (fun c=>absurd c (by decide)) (fun c=>?_);refine W.go 99 rfl ?_;refine W.split rfl rfl rfl (fun c=>absurd c (by decide)) (fun c=>?_);refine W.go 99 rfl ?_;refine W.split rfl rfl rfl (fun c=>absurd c (by decide)) (fun c=>?_);refine W.go 99 rfl ?_;refine W.split rfl rfl rfl (fun c0=>?_) (fun c0=>?_)
 ·refine W.go 99 rfl ?_;have hx:IntKind.i64.wrap (IntKind.i64.wrap (10 * 0)+IntKind.i64.wrap (IntKind.i32.wrap (((a.toNat,1).1:Int) - 48)))=(a.toNat:Int) - 48:=by
   show IntKind.i64.wrap (IntKind.i64.wrap (10 * 0)+IntKind.i64.wrap (IntKind.i32.wrap ((a.toNat:Int) - 48)))=_;rw[i32_in _ (by omega) (by omega),wrap64_in (10 * 0) (by omega) (by omega),wrap64_in ((a.toNat:Int) - 48) (by omega) (by omega),wrap64_in _ (by omega) (by omega)];omega
  refine W.dJ ?_;refine W.go 99 rfl ?_;refine W.aB rfl rfl rfl (Ef.wS rfl (aj _ _ _)) ?_;rintro _ _ _ ⟨rfl,iG⟩;rcases iG with⟨hp,_,_⟩ | ⟨_,rfl,rfl⟩
  ·exact absurd hp (by show¬(0+1<1);omega)
  refine W.go 99 rfl ?_;refine W.split rfl rfl rfl (fun c=>absurd c (by decide)) (fun c=>?_);refine W.go 99 rfl ?_;refine W.split rfl rfl rfl (fun c=>absurd c (by decide)) (fun c=>?_);refine W.go 99 rfl ?_;refine W.ret r rfl rfl ?_;exact⟨congrArg (Value.int .i64) hx,aC (Le.put hq _) hq _⟩
 ·refine W.go 99 rfl ?_;have hx:IntKind.i64.wrap (IntKind.i64.wrap (10 * 0)+IntKind.i64.wrap (IntKind.i32.wrap (((a.toNat,1).1:Int) - 48)))=(a.toNat:Int) - 48:=by
   show IntKind.i64.wrap (IntKind.i64.wrap (10 * 0)+IntKind.i64.wrap (IntKind.i32.wrap ((a.toNat:Int) - 48)))=_;rw[i32_in _ (by omega) (by omega),wrap64_in (10 * 0) (by omega) (by omega),wrap64_in ((a.toNat:Int) - 48) (by omega) (by omega),wrap64_in _ (by omega) (by omega)];omega
  refine W.dJ ?_;refine W.go 99 rfl ?_;refine W.aB rfl rfl rfl (Ef.wS rfl (aj _ _ _)) ?_;rintro _ _ _ ⟨rfl,iG⟩;rcases iG with⟨hp,_,_⟩ | ⟨_,rfl,rfl⟩
  ·exact absurd hp (by show¬(0+1<1);omega)
  refine W.go 99 rfl ?_;refine W.split rfl rfl rfl (fun c=>absurd c (by decide)) (fun c=>?_);refine W.go 99 rfl ?_;refine W.split rfl rfl rfl (fun c=>absurd c (by decide)) (fun c=>?_);refine W.go 99 rfl ?_;refine W.ret r rfl rfl ?_;exact⟨congrArg (Value.int .i64) hx,aC (Le.put hq _) hq _⟩
theorem Jo(a b:UInt8)(L:LH)(h1:49≤a.toNat)(h2:a.toNat≤57)(h3:48≤b.toNat)(h4:b.toNat≤57):Sp X 118 [str [a,b]] L (fun v L'=>v=.int .i64 (10 * ((a.toNat:Int) - 48)+((b.toNat:Int) - 48))∧Le L L'):=by
 refine Sp.enter (n:=46) Tryz.func118 rfl rfl rfl rfl fun C hX _ aG r=>?_;refine W.go 99 rfl ?_;refine W.aB rfl rfl rfl (Ef.Lp rfl rfl rfl) ?_;rintro _ _ _ ⟨q,rfl,rfl,hq,rfl⟩;refine W.go 99 rfl ?_;refine W.kW ?_;refine W.go 99 rfl ?_;refine W.aB rfl rfl rfl (Ef.wS rfl (aj _ _ _)) ?_;rintro _ _ _ ⟨rfl,iG⟩;rcases iG with⟨_,rfl,rfl⟩ | ⟨hp,_,_⟩
 rotate_left
 ·exact absurd hp (by show¬(2≤0);omega)
 rw[tn (show[a,b][0]?=some a from rfl) (by omega)];refine W.go 99 rfl ?_;refine W.split rfl rfl rfl (fun _=>W.go 99 rfl ?_) (fun h=>absurd h (by simp));refine W.split rfl rfl rfl (fun h=>absurd h (by simp;omega)) (fun _=>?_);refine W.go 99 rfl ?_;refine W.split rfl rfl rfl (fun h=>absurd h (by simp;omega)) (fun _=>?_);refine W.go 99 rfl ?_;refine W.split rfl rfl rfl (fun c=>absurd c (by decide)) (fun c=>?_);refine W.go 99 rfl ?_;refine W.split rfl rfl rfl (fun c=>absurd c (by decide)) (fun c=>?_);refine W.go 99 rfl ?_;refine W.split rfl rfl rfl (fun c=>absurd c (by decide)) (fun c=>?_);refine W.go 99 rfl ?_;refine W.split rfl rfl rfl (fun h=>absurd h (by simp;omega)) (fun _=>?_);refine W.go 99 rfl ?_;refine W.dJ ?_;refine W.go 99 rfl ?_;refine W.aB rfl rfl rfl (Ef.wS rfl (aj _ _ _)) ?_;rintro _ _ _ ⟨rfl,iG⟩;rcases iG with⟨_,rfl,rfl⟩ | ⟨hp,_,_⟩
 rotate_left
 ·exact absurd hp (by show¬(2≤0+1);omega)
 rw[tn (show[a,b][0+1]?=some b from rfl) (by omega)];refine W.go 99 rfl ?_;refine W.split rfl rfl rfl (fun _=>W.go 99 rfl ?_) (fun h=>absurd h (by simp));refine W.split rfl rfl rfl (fun h=>absurd h (by simp;omega)) (fun _=>?_);refine W.go 99 rfl ?_;refine W.split rfl rfl rfl (fun h=>absurd h (by simp;omega)) (fun _=>?_);refine W.go 99 rfl ?_;refine W.split rfl rfl rfl (fun c=>absurd c (by decide)) (fun c=>?_);refine W.go 99 rfl ?_;refine W.split rfl rfl rfl (fun c=>absurd c (by decide)) (fun c=>?_);refine W.go 99 rfl ?_;refine W.split rfl rfl rfl (fun c=>?_) (fun c=>absurd c (by decide));refine W.go 99 rfl ?_;refine W.dJ ?_;refine W.go 99 rfl ?_;refine W.aB rfl rfl rfl (Ef.wS rfl (aj _ _ _)) ?_;rintro _ _ _ ⟨rfl,iG⟩;rcases iG with⟨hp,_,_⟩ | ⟨_,rfl,rfl⟩
 ·exact absurd hp (by show¬(0+1+1<2);omega)
 refine W.go 99 rfl ?_;refine W.split rfl rfl rfl (fun c=>absurd c (by decide)) (fun c=>?_);refine W.go 99 rfl ?_;refine W.split rfl rfl rfl (fun c=>absurd c (by decide)) (fun c=>?_);refine W.go 99 rfl ?_;refine W.ret r rfl rfl ?_;refine⟨congrArg (Value.int .i64) ?_,aC (aC (Le.put hq _) hq _) hq _⟩;show IntKind.i64.wrap (IntKind.i64.wrap (10 *IntKind.i64.wrap (IntKind.i64.wrap (10 * 0)+IntKind.i64.wrap (IntKind.i32.wrap ((a.toNat:Int) - 48))))+IntKind.i64.wrap (IntKind.i32.wrap ((b.toNat:Int) - 48)))=_;rw[i32_in ((a.toNat:Int) - 48) (by omega) (by omega),i32_in ((b.toNat:Int) - 48) (by omega) (by omega),wrap64_in (10 * 0) (by omega) (by omega),wrap64_in ((a.toNat:Int) - 48) (by omega) (by omega),wrap64_in ((b.toNat:Int) - 48) (by omega) (by omega),wrap64_in (10 * 0+((a.toNat:Int) - 48)) (by omega) (by omega),wrap64_in (10 * (10 * 0+((a.toNat:Int) - 48))) (by omega) (by omega),wrap64_in _ (by omega) (by omega)];omega
theorem NN(l:Bs)(n:Nat)(L:LH)(h:CO l=some n):Sp X 118 [str l] L (fun v L'=>v=.int .i64 n∧Le L L'):=by
 match l,h with
 | [],h=>cases h
 | [a],h=>
  have h:(if 48≤a∧a≤57 then some (a.toNat - 48) else none)=some n:=h
  by_cases c:48≤a∧a≤57
  ·rw[if_pos c] at h;obtain⟨h1,h2⟩:=KD c.1 c.2;refine(Jn a L h1 h2).mono (fun v L' hq=>⟨?_,hq.2⟩) (fun _ _ h=>h);rw[hq.1];cases h
   congr 1;omega
  ·rw[if_neg c] at h;cases h
 | [a,b],h=>
  have h:(if 49≤a∧a≤57∧48≤b∧b≤57 then some (10 * (a.toNat - 48)+(b.toNat - 48)) else none)=some n:=h
  by_cases c:49≤a∧a≤57∧48≤b∧b≤57
  ·rw[if_pos c] at h;have h1:49≤a.toNat:=UInt8.le_iff_toNat_le.1 c.1;have h2:a.toNat≤57:=UInt8.le_iff_toNat_le.1 c.2.1;obtain⟨h3,h4⟩:=KD c.2.2.1 c.2.2.2;refine(Jo a b L h1 h2 h3 h4).mono (fun v L' hq=>⟨?_,hq.2⟩) (fun _ _ h=>h);rw[hq.1];cases h
   congr 1;omega
  ·rw[if_neg c] at h;cases h
 | _::_::_::_,h=>cases h
theorem V4(v:Nat)(L:LH)(hv:v<7):Sp X 117 [.int .i64 v] L (fun u L'=>u=.int .i64 (iu v:Nat)∧L=L'):=by
 have:v=0∨v=1∨v=2∨v=3∨v=4∨v=5∨v=6:=by omega
 rcases this with rfl | rfl | rfl | rfl | rfl | rfl | rfl
 all_goals
  refine Sp.enter (n:=21) Tryz.func117 rfl rfl rfl rfl fun C hX _ aG r=>?_;refine W.go 99 rfl ?_
  repeat (first | (refine W.split rfl rfl rfl (fun c=>absurd c (by decide)) (fun _=>?_);refine W.go 99 rfl ?_) | (refine W.split rfl rfl rfl (fun _=>?_) (fun c=>absurd c (by decide));refine W.go 99 rfl ?_))
  exact W.ret r rfl rfl ⟨rfl,rfl⟩
theorem Wo(v:Nat)(L:LH)(hv:v<7):Sp X 116 [.int .i64 v] L (fun u L'=>u=str (gh v)∧L=L'):=by
 have:v=0∨v=1∨v=2∨v=3∨v=4∨v=5∨v=6:=by omega
 rcases this with rfl | rfl | rfl | rfl | rfl | rfl | rfl
 all_goals
  refine Sp.enter (n:=6) Tryz.func116 rfl rfl rfl rfl fun C hX _ aG r=>?_;refine W.go 99 rfl ?_;refine W.vf rfl rfl rfl rfl (Vf.index rfl rfl rfl Tryz.underlying289 AO aa2 (by decide) rfl) ?_;refine W.go 99 rfl ?_;exact W.ret r rfl rfl ⟨rfl,rfl⟩
end Go.Mz
set_option maxRecDepth 100000
namespace Go.Mz
open Go.Conc
section
variable {P:Program}{C:Cx P}{n:Nat}{ds:List Deferred}{k:List Item}{E:Env}{B:List (Option Bx)}{L:LH}{ops:Array Oper}{i:Nat}{rest:List Nat}
theorem W.yH{d:Nat}{g:FuncId}{x:Operand}{v1 v2:List Value}{sv:SV}{args:List Value}{xs:Array Operand}{ts:Array TypeId}{ty:TypeId}{pos:String}{af:Array Edge}{gd:Option (Nat×Bool)}{Q:Value→LH→Prop}{H:List PanicEntry→LH→Prop}(ho:nth ops.toList i=some ⟨some d,.call {callee:=.value x,args:=xs,argTypes:=ts},ty,pos,af,gd⟩)(hg:aK (get E) ops.toList gd=some true)(hz:Nat.blt d n=true)
  (hv:aL (get E) x=some sv)(hd:den dr sv=some (.func (.func g) v1.toArray v2.toArray))(ha:oH (get E) xs.toList=some args)(hs:Sp C.X g (v1++args++v2) L Q H)(w:∀v L',Q v L'→W C n ds (.inRegion ops rest::k) ((d,.v v)::E) B L')(wp:∀ch L',H ch L'→WM C n ds (.panicking ch) E B L'):W C n ds (.inRegion ops (i::rest)::k) E B L:=by
 refine W.oper ho hg rfl fun T R β hT hE hH=>?_;have hx:xs.map (ev T)=args.toArray:=by rw[←j8 hE ha,←List.map_toArray]
 have Nb:ev T x=.func (.func g) v1.toArray v2.toArray:=Option.some.inj ((hE.val hv).symm.trans (cP hd β));obtain⟨⟨fn,h1,h2,h3⟩,hf⟩:=hs;exact Di.value h1 h2 h3 Nb hx (ws:=(v1++args++v2).toArray) (by simp) _ _ _ _ _ _ (hf R hH.le .normal _ _ (.inl rfl) (fun v R' ⟨L',h1,h2⟩=>W.eQ ho rfl (cC hz) hT hE (hH.call h2) rfl (w v L' h1)) (fun ch R' ⟨L',h1,h2⟩=>wp ch L' h1 T R' β _ hT hE (hH.call h2)))
theorem WM.Lq{fn:Func}{Q:Value→LH→Prop}{H:List PanicEntry→LH→Prop}{va:Value}{a:Tmp}{ta:TypeId}{aa:Addr}(r:Rt C fn Q H)(zN:fn.results=#[.cell a ta])(ea:get E a=some (.v (.pointer (some aa))))
  (ha:∀(R:LH) (Q:Value→LH→Prop) (H:Value→LH→Prop),Le L R→az P Q H (loadVar ta aa) R=Q va R)(hq:Q va L):WM C n [] .returning E B L:=by
 refine WM.Sn r (fun T R β hE _ hL=>?_) hq;have e1:T.getD a undef=.pointer (some aa):=(Option.some.inj (hE _ _ ea)).symm;unfold results;rw[zN,ae,Array.mapM_eq_mapM_toList];simp only[List.mapM_cons,List.mapM_nil];rw[A9,ae];simp only[e1];rw[ae,nS,ha _ _ _ hL];exact⟨rfl,rfl⟩
end
end Go.Mz
set_option maxRecDepth 100000
namespace Go.Mz
open Go.Conc Go.Proofs
variable {X:ax Tryz.prog}
theorem jq{L:LH}{a:Addr}{l:List Bs}{i:Nat}{w:Bs}(h:aX L (some a) 1 cI l)(hx:l[i]?=some w):L.cell? (a.add i)=some (str w):=by
 have:=h.get hx (j:=0) (v:=str w) rfl
 simpa using this
theorem Hs{L:LH}{a:Addr}{cap:Nat}{w:Bs}{r:List Bs}(h:aX L (some a) 1 cI (w::r))(hc:r.length+1=cap):aX L (if cap=1 then some a else Option.map (fun a:Addr=>a.add (1 * 1)) (some a)) 1 cI r:=by
 by_cases e:cap=1
 ·have:r=[]:=List.eq_nil_of_length_eq_zero (by omega);subst this;exact acT
 ·rw[if_neg e];intro i x hx;refine⟨a.add (1 * 1),rfl,fun j v hv=>?_⟩;have:=h.get (i:=i+1) (x:=x) (by simpa using hx) hv;have e2:(a.add (1 * 1)).add (i * 1+j)=a.add ((i+1) * 1+j):=by
   unfold Addr.add
   split <;> split <;> simp_all <;> omega
  rw[e2];exact this
where
 acT {α:Type} {L:LH} {ad:Option Addr} {n:Nat} {enc:α→List Value}:aX L ad n enc []:=fun i z hz=>by simp at hz
theorem s9{v:Nat}:∀{i:Nat} {l:List Bs} {a:List Int},lT v i l=some a→a.length=l.length
 | _,[],a,h=>by cases h;rfl
 | i,w::l,a,h=>by
  unfold lT at h
  split at h
  ·rename_i n r _ h2;cases h;simp[s9 h2]
  ·cases h
theorem Fw{v i:Nat}{w:Bs}{l:List Bs}{a:List Int}(h:lT v i (w::l)=some a):∃n r,a=n::r∧lT v (i+1) l=some r∧(if v=2∧i=1∧w=p9 then some (-1:Int) else(CO w).map Int.ofNat)=some n:=by
 unfold lT at h
 split at h
 ·rename_i n r h1 h2;cases h;exact⟨n,r,rfl,h2,h1⟩
 ·cases h
theorem Oh:∀v:Fin 7,∀i:Fin 7,i.val<v.val→(nj (gh v.val) (gh i.val))=false:=by decide
theorem xN{l:Bs}{v:Nat}{a:List Int}(h:gW l=some (v,a)):∃r,cT l=gh v::r∧v<7∧r.length=iu v∧lT v 0 r=some a:=by
 unfold gW at h
 split at h
 ·cases h
 ·rename_i w r hs
  split at h
  ·cases h
  ·rename_i v' hv
   split at h
   ·cases h
   ·rename_i hl;obtain⟨a',ha,he⟩:=Option.map_eq_some_iff.1 h;cases he;refine⟨r,?_,?_,by simpa using hl,ha⟩
    ·have:=List.findIdx?_eq_some_iff_getElem.1 hv;obtain⟨h1,h2,_⟩:=this;have:vT[v]=w:=by simpa using h2
     rw[hs]
     congr 1
     unfold gh;rw[List.getD_eq_getElem?_getD,List.getElem?_eq_getElem h1,Option.getD_some,this]
    ·have:=List.findIdx?_eq_some_iff_getElem.1 hv;obtain⟨h1,_⟩:=this;exact h1
def X2(v:Nat)(a:List Int)(L:LH)(u:Value)(L':LH):Prop:=∃ad cap,u=.agg #[.int .i64 v,.slice ad a.length cap]∧bM L 1 3 cj L' (.slice ad a.length cap) a
theorem bM.over{α:Type}{I I0 L L':LH}{k:Nat}{e:TypeId}{enc:α→List Value}{v:Value}{l:List α}(h:bM I k e enc L v l)(h1:Le I0 L')(hi:Le I0 I)(hk:∀b,I b=none→L' b=L b):bM I0 k e enc L' v l:=by
 obtain⟨_,ob,h2,h3⟩:=h;exact⟨h1,ob,h2.keep fun b hb=>hk b (h3 b hb),fun b hb=>aP hi (h3 b hb)⟩
theorem R9(l:Bs)(v:Nat)(a:List Int)(L:LH)(hn:l.length≤1000)(h:gW l=some (v,a)):Sp X 79 [str l] L (X2 v a L):=by
 obtain⟨r0,jX,Nt,ZQ,har⟩:=xN h;have hal:=s9 har;have ZU:iu v≤4:=by
  have:v=0∨v=1∨v=2∨v=3∨v=4∨v=5∨v=6:=by omega
  rcases this with rfl | rfl | rfl | rfl | rfl | rfl | rfl <;> decide
 refine Sp.enter (n:=64) Tryz.func79 rfl rfl rfl rfl fun C hX _ aG r=>?_;refine W.go 99 rfl ?_;refine W.aB rfl rfl rfl (Ef.call rfl (Mj l _ hn)) ?_;rintro _ _ _ ⟨_,rfl,rfl,bs,F6,hle,rfl,sA⟩;rw[jX] at sA ⊢;rename_i L1;have hlen:(gh v::r0).length=iu v+1:=by simp[ZQ]
 generalize hN:(gh v::r0).length=N at *;refine W.go 99 rfl ?_;refine W.loop (fun m' E B L'=>∃i:Nat,m'=v - i∧i≤v∧Le L1 L'∧E=[(2,.p 0 0),(3,.v (.slice (some ⟨bs,0,none⟩) N N)),(10,.v (.int .i64 i))]∧B=[some ⟨LJ.z.cells.toList.map .v,38⟩])
  ⟨0,rfl,Nat.zero_le _,Le.refl _,rfl,rfl⟩ (by exact⟨rfl,rfl,rfl,trivial⟩) (by exact⟨rfl,trivial⟩) ?_
 rintro _ _ _ L2 ⟨i,rfl,hi,bZ,rfl,rfl⟩ again;refine W.go 99 rfl ?_;refine W.split rfl rfl rfl (fun _=>?_) (fun h=>absurd h (by simp;omega));refine W.go 99 rfl ?_;refine W.drawn (by kernel_rfl) _ (Le.refl _) ?_;refine DD.run' [0,3] rfl ?_;refine DD.vf 1 rfl rfl rfl rfl rfl (Vf.aW rfl rfl rfl rfl rfl rfl rfl ((show 0<N by omega))) ?_;refine DD.vf 2 rfl rfl rfl rfl rfl (Vf.load rfl rfl rfl (jq (sA.le bZ) (show(gh v::r0)[0]?=some (gh v) from rfl))) ?_;refine DD.act 4 rfl rfl rfl rfl rfl (Ef.call rfl (Wo i _ (by omega))) (by rintro _ _ _ ⟨_,rfl,rfl,rfl,rfl⟩;exact⟨Le.refl _,rfl,.inl rfl⟩) ?_;rintro _ _ _ ⟨_,rfl,rfl,rfl,rfl⟩;refine DD.run' [5] rfl ?_;refine .fin rfl ?_;refine W.go 99 rfl ?_;rcases Nat.lt_or_eq_of_le hi with aU | rfl
 ·have aY:=Oh ⟨v,Nt⟩ ⟨i,by omega⟩ aU;refine W.split rfl rfl rfl (fun _=>?_) (fun h=>absurd h (by simp only[aY];decide));refine W.go 99 rfl ?_;exact W.again (again _ _ _ _ (by omega) ⟨i+1,rfl,aU,bZ,rfl,rfl⟩) ⟨rfl,rfl,congrArg some (bu (by omega)),trivial⟩ ⟨rfl,trivial⟩
 ·have heq:nj (gh i) (gh i)=true:=by rw[pB];simp
  refine W.split rfl rfl rfl (fun h=>absurd h (by simp only[heq];decide)) (fun _=>?_);refine W.go 99 rfl ?_;refine W.aB rfl rfl rfl (Ef.call rfl (V4 i _ Nt)) ?_;rintro _ _ _ ⟨_,rfl,rfl,rfl,rfl⟩;refine W.go 99 rfl ?_;have hw:IntKind.i64.wrap ((iu i:Int)+1)=(iu i:Int)+1:=wrap64_in _ (by omega) (by omega);refine W.split rfl rfl rfl (fun h=>absurd h (by rw[hw];simp;omega)) (fun _=>?_);refine W.go 99 rfl ?_;refine W.vf rfl rfl rfl rfl (Vf.vJ (i:=1) (j:=N) rfl Tryz.underlying33 AO rfl rfl rfl rfl (by omega) (Nat.le_refl _)) ?_;have cu:=Hs (cap:=N) (sA.le bZ) (by omega);have YS:N - 1=r0.length:=by omega
  rw[YS];generalize(if N=1 then some (⟨bs,0,none⟩:Addr) else Option.map (fun a:Addr=>a.add (1 * 1)) (some ⟨bs,0,none⟩))=ta at cu ⊢;clear again;refine W.go 99 rfl ?_;have h0L:Le L L2:=hle.trans bZ;refine W.loop (fun m' E B L'=>∃(j:Nat) (ad:Option Addr) (cap:Nat),m'=r0.length - j∧j≤r0.length∧lT i j (r0.drop j)=some (a.drop j)∧bM L2 1 3 cj L' (.slice ad j cap) (a.take j)∧
    E=[(2,.p 0 0),(4,.v (.int .i64 i)),(5,.p 1 0),(30,.v (.slice ta r0.length r0.length)),(31,.v (.int .i64 r0.length)),(32,.v (.int .i64 j))]∧B=[some ⟨LJ.z.cells.toList.map .v,38⟩,some ⟨[.v (.int .i64 i),.v (.slice ad j cap)],38⟩])
   ⟨0,none,0,rfl,Nat.zero_le _,har,bM.nil (Le.refl _),rfl,rfl⟩ (by exact⟨rfl,rfl,rfl,rfl,rfl,rfl,trivial⟩) (by exact⟨rfl,rfl,trivial⟩) ?_
  rintro _ _ _ L3 ⟨j,ad,cap,rfl,hj,D9,hg,rfl,rfl⟩ again;refine W.go 99 rfl ?_;refine W.split rfl rfl rfl (fun d1=>W.go 99 rfl ?_) (fun d1=>W.go 99 rfl ?_)
  ·have hj:j<r0.length:=by simpa using d1
   have hd:=List.drop_eq_getElem_cons hj;have Rn:=List.getElem?_eq_getElem hj;have Zp:j<a.length:=by omega
   have haj:=List.getElem?_eq_getElem Zp;rw[hd,List.drop_eq_getElem_cons Zp] at D9;obtain⟨n,r',e1,KM,hn⟩:=Fw D9;obtain⟨rfl,rfl⟩:=List.cons.inj e1;have eI:a.take (j+1)=a.take j++[a[j]]:=List.take_succ_eq_append_getElem Zp;have iN:(a.take j).length=j:=by rw[List.length_take];omega
   generalize BG:r0[j]=w at Rn hn;generalize haa:a[j]=n at eI hn;obtain⟨at',rfl⟩:=cu.addr hj;refine W.vf rfl rfl rfl rfl (Vf.aW rfl rfl rfl rfl rfl rfl rfl (hj)) ?_;refine W.go 99 rfl ?_;refine W.vf rfl rfl rfl rfl (Vf.load rfl rfl rfl (jq (cu.le hg.1) Rn)) ?_;refine W.go 99 rfl ?_;refine W.KA (fun E B L'=>((CO w).map Int.ofNat=some n)∧gk E [(2,.p 0 0),(4,.v (.int .i64 i)),(5,.p 1 0),(7,.v (str w)),(30,.v (.slice (some at') r0.length r0.length)),(31,.v (.int .i64 r0.length)),(32,.v (.int .i64 j))]∧oD B [some ⟨LJ.z.cells.toList.map .v,38⟩,some ⟨[.v (.int .i64 i),.v (.slice ad j cap)],38⟩]∧L3=L') ?_ ?_
   ·rintro E B _ ⟨aci,hE,hB,rfl⟩;obtain⟨m,hm,rfl⟩:=Option.map_eq_some_iff.1 aci;refine W.cG hE hB ?_;refine W.drawn (by kernel_rfl) oY (aE _) ?_;refine DD.run' [0,1,2] rfl ?_;refine DD.act 3 rfl rfl rfl rfl rfl (Ef.call rfl (NN w m _ hm)) (by rintro _ _ _ ⟨_,rfl,rfl,_⟩;exact⟨aE _,rfl,.inl rfl⟩) ?_;rintro _ _ _ ⟨_,rfl,rfl,rfl,sL⟩;refine DD.run' [4] rfl ?_;rename_i L4;have yp:=hg.le sL;refine DD.act 5 rfl rfl rfl rfl rfl (Ef.grow rfl rfl rfl rfl rfl rfl rfl rfl rfl aV iF yp (ls:=[(m:Int)]) (.own rfl rfl rfl rfl) (by rw[iN,List.length_singleton];omega)) ((by rintro _ _ _ ⟨_,rfl,rfl,_,_⟩;exact⟨aE _,rfl,.inl rfl⟩)) ?_;rintro _ _ _ ⟨v1,rfl,rfl,fe,_⟩;rw[show a.take j++[(m:Int)]=a.take (j+1) from eI.symm] at fe;obtain⟨gM,dM,rfl,_⟩:=fe.slice;rw[show(a.take (j+1)).length=j+1 by rw[List.length_take];omega] at fe ⊢;refine DD.run' [6] rfl ?_;refine DD.act 7 rfl rfl rfl rfl rfl (Ef.ui rfl) (by rintro _ _ _ ⟨rfl,rfl,rfl⟩;exact⟨aE _,rfl,.inr rfl⟩) ?_;rintro _ _ _ ⟨rfl,rfl,rfl⟩;refine .fin rfl ?_;refine W.go 99 rfl ?_;exact W.again (again _ _ _ _ (by omega) ⟨j+1,gM,dM,rfl,by omega,KM,(by first | exact fe | exact(fe:bM _ _ _ _ _ _ _)),rfl,rfl⟩) (by exact⟨rfl,rfl,rfl,rfl,rfl,congrArg some (bu (by omega)),trivial⟩) (by exact⟨rfl,rfl,trivial⟩)
   ·intro rest;refine W.split rfl rfl rfl (fun c1=>?_) (fun c1=>?_)
    ·have tK:i=2:=by simp at c1;omega
     refine W.go 99 rfl ?_;refine W.split rfl rfl rfl (fun c2=>?_) (fun c2=>?_)
     ·have hj1:j=1:=by simp at c2;omega
      refine W.go 99 rfl ?_;refine W.split rfl rfl rfl (fun c3=>?_) (fun c3=>?_)
      ·have hw:w=p9:=by rw[pB] at c3;exact eq_of_beq c3
       rw[if_pos ⟨tK,hj1,hw⟩] at hn;cases hn;refine W.go 99 rfl ?_;refine W.aB rfl rfl rfl (Ef.grow rfl rfl rfl rfl rfl rfl rfl rfl rfl aV iF hg (ls:=[(-1:Int)]) (.own rfl rfl rfl rfl) ((by rw[iN,List.length_singleton];omega))) ?_;rintro _ _ _ ⟨v1,rfl,rfl,fe,_⟩;rw[←eI] at fe;obtain⟨gM,dM,rfl,_⟩:=fe.slice;rw[show(a.take (j+1)).length=j+1 by rw[List.length_take];omega] at fe ⊢;refine W.go 99 rfl ?_;exact W.again (again _ _ _ _ (by omega) ⟨j+1,gM,dM,rfl,by omega,KM,fe,rfl,rfl⟩) (by exact⟨rfl,rfl,rfl,rfl,rfl,congrArg some (bu (by omega)),trivial⟩) (by exact⟨rfl,rfl,trivial⟩)
      ·have hw:¬(i=2∧j=1∧w=p9):=fun h=>by
        rw[pB,h.2.2] at c3;simp[p9] at c3
       rw[if_neg hw] at hn;refine W.go 2 rfl ?_;exact rest _ _ _ ⟨hn,(by exact⟨rfl,rfl,rfl,rfl,rfl,rfl,rfl,trivial⟩),(by exact⟨rfl,rfl,trivial⟩),rfl⟩
     ·have hw:¬(i=2∧j=1∧w=p9):=fun h=>by simp at c2;omega
      rw[if_neg hw] at hn;refine W.go 6 rfl ?_;exact rest _ _ _ ⟨hn,(by exact⟨rfl,rfl,rfl,rfl,rfl,rfl,rfl,trivial⟩),(by exact⟨rfl,rfl,trivial⟩),rfl⟩
    ·have hw:¬(i=2∧j=1∧w=p9):=fun h=>by simp at c1;omega
     rw[if_neg hw] at hn;refine W.go 10 rfl ?_;exact rest _ _ _ ⟨hn,(by exact⟨rfl,rfl,rfl,rfl,rfl,rfl,rfl,trivial⟩),(by exact⟨rfl,rfl,trivial⟩),rfl⟩
  ·have yu:j=r0.length:=by simp at d1;omega
   subst yu;rw[List.take_of_length_le (by omega)] at hg;refine W.ret r rfl rfl ?_;rw[←hal] at hg ⊢;exact⟨ad,cap,rfl,hg.over (h0L.trans hg.1) h0L fun _ _=>rfl⟩
theorem T6(b1 b2:Nat)(L:LH):Ds X 78 [pt b1,pt b2] .returning L (fun md L'=>md=.returning∧L'=L):=by
 refine Ds.enter (n:=11) Tryz.func78 rfl rfl rfl rfl fun C hX _ aG r=>?_;refine W.go 99 rfl ?_;refine W.CX r rfl rfl rfl ?_;refine W.go 99 rfl ?_;refine W.split rfl rfl rfl (fun h=>absurd h (by simp)) (fun _=>W.go 99 rfl ?_);exact W.Lr r rfl (.inl rfl) ⟨rfl,rfl⟩
def TL(v:Nat)(a:List Int)(L:LH)(u:Value)(L':LH):Prop:=∃ad cap,u=.tuple #[.agg #[.int .i64 v,.slice ad a.length cap],.int .i64 0]∧bM L 1 3 cj L' (.slice ad a.length cap) a
theorem Fo(l:Bs)(v:Nat)(a:List Int)(L:LH)(hn:l.length≤1000)(h:gW l=some (v,a)):Sp X 36 [str l] L (TL v a L):=by
 refine Sp.enter (n:=7) Tryz.func36 rfl rfl rfl rfl fun C hX _ aG r=>?_;refine W.go 99 rfl ?_;refine W.cw 2 (.inl ⟨_,rfl⟩) rfl rfl ?_;intro b1 dN _;refine W.cw 3 (.inl ⟨_,rfl⟩) rfl rfl ?_;intro b2 eR _;refine W.go 99 rfl ?_;have KP:b2≠b1:=fun e=>by rw[e,aj] at eR;cases eR
 have WS:L b2=none:=by rw[au _ _ KP] at eR;exact eR
 have Gs:((L.put b1 (.cells #[.int .i64 0,.slice none 0 0] 38)).put b2 (.cells #[.int .i64 0] 39)) b1=some (.cells #[.int .i64 0,.slice none 0 0] 38 (0,0),true):=by rw[au _ _ KP.symm,aj]
 have Gt:=aj (L.put b1 (.cells #[.int .i64 0,.slice none 0 0] 38)) b2 (.cells #[.int .i64 0] 39);have hle:Le L ((L.put b1 (.cells #[.int .i64 0,.slice none 0 0] 38)).put b2 (.cells #[.int .i64 0] 39)):=aC (Le.put dN _) WS _
 change W C _ _ _ _ _ ((L.put b1 (.cells #[.int .i64 0,.slice none 0 0] 38)).put b2 (.cells #[.int .i64 0] 39))
 generalize((L.put b1 (.cells #[.int .i64 0,.slice none 0 0] 38)).put b2 (.cells #[.int .i64 0] 39))=L1 at Gs Gt hle ⊢;refine W.KC r.ro rfl rfl rfl rfl ?_;refine W.go 99 rfl ?_;refine W.aB rfl rfl rfl (Ef.call rfl (R9 l v a _ hn h)) ?_;rintro _ _ _ ⟨_,rfl,rfl,ad,cap,rfl,hg⟩;have Ct:=hg.1;refine W.go 99 rfl ?_;refine W.dY rfl rfl (Ef.gn rfl ⟨_,rfl,rfl⟩ rfl (Ct _ _ Gs) rfl (Nat.le_refl _) (by intro u hu;rcases(by simpa using (show u∈[Value.int .i64 v,.slice ad a.length cap] from hu):u=.int .i64 v∨u=.slice ad a.length cap) with rfl | rfl <;> rfl)) ?_;rintro _ _ _ ⟨rfl,rfl,rfl⟩;refine W.go 99 rfl ?_;refine W.dY rfl rfl (Ef.gn rfl ⟨_,rfl,rfl⟩ rfl ((au _ _ KP).trans (Ct _ _ Gt)) rfl (Nat.le_refl _) (bY rfl)) ?_;rintro _ _ _ ⟨rfl,rfl,rfl⟩;refine W.go 99 rfl ?_;refine W.out r.ro (.inr .ret) ?_;refine WM.deferred rfl rfl (T6 b1 b2 _) ?_;rintro _ _ ⟨rfl,rfl⟩;refine WM.acS r rfl rfl rfl (Vt rfl rfl (gN (vs:=[.int .i64 v,.slice ad a.length cap]) ((au _ _ KP.symm).trans (aj _ _ _)) rfl)) (vt rfl (ay (aj _ _ _) rfl)) ?_;refine⟨ad,cap,rfl,hg.over (aC (aC (hle.trans Ct) dN _) WS _) hle fun b hb=>?_⟩;have e1:b≠b1:=fun e=>by rw[e,Gs] at hb;cases hb
 have e2:b≠b2:=fun e=>by rw[e,Gt] at hb;cases hb
 exact(au _ _ e2).trans (au _ _ e1)
theorem HZ(l:Bs)(L:LH)(h:cV l 63=0):Sp X 171 [str l,str [63],str [49],.int .i64 (-1)] L (fun v L'=>v=str l∧L=L'):=by
 refine Sp.enter (n:=104) Tryz.func171 rfl rfl rfl rfl fun C hX _ aG r=>?_;refine W.go 99 rfl ?_;refine W.split rfl rfl rfl (fun c=>absurd c (by decide)) (fun c=>?_);refine W.go 99 rfl ?_;refine W.split rfl rfl rfl (fun c=>absurd c (by decide)) (fun c=>?_);refine W.go 99 rfl ?_;refine W.aB rfl rfl rfl (Ef.call rfl (qA l 63 _)) ?_;rintro _ _ _ ⟨_,rfl,rfl,rfl,rfl⟩;rw[h];refine W.go 99 rfl ?_;refine W.split rfl rfl rfl (fun c=>?_) (fun c=>absurd c (by decide));refine W.go 99 rfl ?_;exact W.ret r rfl rfl ⟨rfl,rfl⟩
theorem Bg(l:Bs)(L:LH)(h:cV l 63=0):Sp X 130 [str l,str [63],str [49]] L (fun v L'=>v=str l∧L=L'):=by
 refine Sp.enter (n:=11) Tryz.func130 rfl rfl rfl rfl fun C hX _ aG r=>?_;refine W.go 99 rfl ?_;refine W.aB rfl rfl rfl (Ef.call rfl (HZ l _ h)) ?_;rintro _ _ _ ⟨_,rfl,rfl,rfl,rfl⟩;refine W.go 99 rfl ?_;exact W.ret r rfl rfl ⟨rfl,rfl⟩
theorem LM(ad:Option Addr)(cap:Nat)(l:List Bs)(L:LH)(hl:aX L ad 1 cI l)(hn:l.length≤1000)(h:∀x∈l,cV x 63=0):Sp X 93 [.slice ad l.length cap] L (fun v L'=>v=.int .i64 0∧L=L'):=by
 refine Sp.enter (n:=18) Tryz.func93 rfl rfl rfl rfl fun C hX _ aG r=>?_;refine W.go 99 rfl ?_;refine W.loop (fun m' E B L'=>∃i:Nat,m'=l.length - i∧i≤l.length∧L=L'∧E=[(3,.v (.int .i64 0)),(6,.v (.slice ad l.length cap)),(7,.v (.int .i64 l.length)),(8,.v (.int .i64 i))]∧B=[])
  ⟨0,rfl,Nat.zero_le _,rfl,rfl,rfl⟩ (by exact⟨rfl,rfl,rfl,rfl,trivial⟩) (by exact trivial) ?_
 rintro _ _ _ _ ⟨i,rfl,hi,rfl,rfl,rfl⟩ again;refine W.go 99 rfl ?_;refine W.split rfl rfl rfl (fun c1=>W.go 99 rfl ?_) (fun c1=>W.go 99 rfl ?_)
 ·have hi:i<l.length:=by simpa using c1
  obtain⟨a,rfl⟩:=hl.addr hi;refine W.vf rfl rfl rfl rfl (Vf.aW rfl rfl rfl rfl rfl rfl rfl (hi)) ?_;refine W.go 99 rfl ?_;refine W.vf rfl rfl rfl rfl (Vf.load rfl rfl rfl (jq hl (List.getElem?_eq_getElem hi))) ?_;refine W.go 99 rfl ?_;refine W.aB rfl rfl rfl (Ef.call rfl (qA _ 63 _)) ?_;rintro _ _ _ ⟨_,rfl,rfl,rfl,rfl⟩;rw[h _ (List.getElem_mem hi)];refine W.go 99 rfl ?_;exact W.again (again _ _ _ _ (by omega) ⟨i+1,rfl,hi,rfl,rfl,rfl⟩) ⟨rfl,rfl,rfl,congrArg some (bu (by omega)),trivial⟩ trivial
 ·exact W.ret r rfl rfl ⟨rfl,rfl⟩
theorem Oy(b:Bl)(p:BP)(L:LH)(h:ny L b p):Sp X 125 [Bj b p] L (fun v L'=>v=.int .i64 (fX b)∧L=L'):=by
 have n0:=h.n0;have n1:=h.n1;have n4:=h.n4;refine Sp.enter (n:=65) Tryz.func125 rfl rfl rfl rfl fun C hX _ aG r=>?_;refine W.go 99 rfl ?_;refine W.aB rfl rfl rfl (Ef.call rfl (sJ _ _ _ _ _ _ h.h0 h.n0)) ?_;rintro _ _ _ ⟨_,rfl,rfl,rfl,rfl⟩;refine W.go 99 rfl ?_;refine W.split rfl rfl rfl (fun c1=>?_) (fun c1=>?_)
 ·refine W.go 99 rfl ?_;exact W.ret r rfl rfl ⟨by unfold fX;rw[if_pos (by simpa using c1)];rfl,rfl⟩
 refine W.go 99 rfl ?_;refine W.split rfl rfl rfl (fun c2=>?_) (fun c2=>?_)
 ·refine W.go 99 rfl ?_;exact W.ret r rfl rfl ⟨by unfold fX;rw[if_neg (by simpa using c1),if_pos (by simp at c2;omega)];rfl,rfl⟩
 refine W.go 99 rfl ?_;refine W.loop (fun m' E B L'=>∃i:Nat,m'=b.ir.length - i∧i≤b.ir.length∧lC (b.ir.drop i)=lC b.ir∧E=[(1,.p 0 0),(25,.v (.slice p.a1 b.ir.length p.c1)),(26,.v (.int .i64 b.ir.length)),(27,.v (.int .i64 i))]∧B=[some ⟨eK (.v (Bj b p)),28⟩]∧L=L')
  ⟨0,rfl,by omega,by simp,rfl,rfl,rfl⟩ ⟨rfl,rfl,rfl,rfl,trivial⟩ ⟨rfl,trivial⟩ ?_
 rintro _ _ _ _ ⟨i,rfl,h1,hg,rfl,rfl,rfl⟩ again;refine W.go 99 rfl ?_;refine W.split rfl rfl rfl (fun d1=>?_) (fun d1=>?_)
 ·refine W.go 99 rfl ?_;have hi:i<b.ir.length:=by simpa using d1
  have hd:=List.drop_eq_getElem_cons hi;obtain⟨a0,a1,a2,a3,a4,k0,k1,k2,k3,k4⟩:=p;obtain⟨a,ha⟩:=h.h1.addr hi;obtain rfl:a1=some a:=ha;refine W.vf rfl rfl rfl rfl (Vf.aW rfl rfl rfl rfl rfl rfl rfl (hi)) ?_;refine W.go 99 rfl ?_;refine W.vf rfl rfl rfl rfl (Vf.load rfl rfl rfl (h.h1.int (List.getElem?_eq_getElem hi))) ?_;refine W.go 99 rfl ?_;refine W.aB rfl rfl rfl (Ef.call rfl (lj _ _ _ _)) ?_;rintro _ _ _ ⟨_,rfl,rfl,rfl,rfl⟩;refine W.go 99 rfl ?_;refine W.split rfl rfl rfl (fun d2=>?_) (fun d2=>?_)
  ·refine W.go 99 rfl ?_;exact W.ret r rfl rfl ⟨by unfold fX;rw[if_neg (by simpa using c1),if_neg (by simp at c2;omega),if_pos (by rw[←hg,hd,lC];simp at d2;simp[d2])];rfl,rfl⟩
  ·refine W.go 99 rfl ?_;exact W.again (again _ _ _ _ (by omega) ⟨i+1,rfl,by omega,by rw[←hg,hd,lC];simp at d2;simp[d2],rfl,rfl,rfl⟩) ⟨rfl,rfl,rfl,congrArg some (bu (by omega)),trivial⟩ ⟨rfl,trivial⟩
 have hr:lC b.ir=true:=by rw[←hg,List.drop_of_length_le (by simp at d1;omega)];rfl
 clear again hg;refine W.go 99 rfl ?_;refine W.aB rfl rfl rfl (Ef.call rfl (Bn _ _ _ _ h.h2 h.n2)) ?_;rintro _ _ _ ⟨_,rfl,rfl,rfl,rfl⟩;refine W.go 99 rfl ?_;refine W.split rfl rfl rfl (fun c3=>?_) (fun c3=>?_)
 ·refine W.go 99 rfl ?_;exact W.ret r rfl rfl ⟨by unfold fX;rw[if_neg (by simpa using c1),if_neg (by simp at c2;omega),if_neg (by simp[hr]),if_pos (by simpa using c3)];rfl,rfl⟩
 refine W.go 99 rfl ?_;refine W.aB rfl rfl rfl (Ef.call rfl (sJ _ _ _ _ _ _ h.h3 h.n3)) ?_;rintro _ _ _ ⟨_,rfl,rfl,rfl,rfl⟩;refine W.go 99 rfl ?_;refine W.split rfl rfl rfl (fun c4=>?_) (fun c4=>?_)
 ·refine W.go 99 rfl ?_;exact W.ret r rfl rfl ⟨by unfold fX;rw[if_neg (by simpa using c1),if_neg (by simp at c2;omega),if_neg (by simp[hr]),if_neg (by simpa using c3),if_pos (by simpa using c4)];rfl,rfl⟩
 refine W.go 99 rfl ?_;refine W.split rfl rfl rfl (fun c5=>?_) (fun c5=>?_)
 ·refine W.go 99 rfl ?_;exact W.ret r rfl rfl ⟨by unfold fX;rw[if_neg (by simpa using c1),if_neg (by simp at c2;omega),if_neg (by simp[hr]),if_neg (by simpa using c3),if_neg (by simpa using c4),if_pos (by simp at c5;omega)];rfl,rfl⟩
 have hE:fX b=jj b b.proofs:=by unfold fX;rw[if_neg (by simpa using c1),if_neg (by simp at c2;omega),if_neg (by simp[hr]),if_neg (by simpa using c3),if_neg (by simpa using c4),if_neg (by simp at c5;omega)]
 clear c1 c2 c3 c4 c5 h1 d1;refine W.go 99 rfl ?_;refine W.loop (fun m' E B L'=>∃i:Nat,m'=b.proofs.length - i∧i≤b.proofs.length∧jj b (b.proofs.drop i)=jj b b.proofs∧E=[(1,.p 0 0),(52,.v (.slice p.a4 b.proofs.length p.c4)),(53,.v (.int .i64 b.proofs.length)),(54,.v (.int .i64 i))]∧B=[some ⟨eK (.v (Bj b p)),28⟩]∧L=L')
  ⟨0,rfl,by omega,by simp,rfl,rfl,rfl⟩ ⟨rfl,rfl,rfl,rfl,trivial⟩ ⟨rfl,trivial⟩ ?_
 rintro _ _ _ _ ⟨i,rfl,h1,hg,rfl,rfl,rfl⟩ again;refine W.go 99 rfl ?_;refine W.split rfl rfl rfl (fun d1=>?_) (fun d1=>?_)
 ·refine W.go 99 rfl ?_;have hi:i<b.proofs.length:=by simpa using d1
  have hd:=List.drop_eq_getElem_cons hi;obtain⟨a0,a1,a2,a3,a4,k0,k1,k2,k3,k4⟩:=p;obtain⟨a,ha⟩:=h.h4.addr hi;obtain rfl:a4=some a:=ha;refine W.vf rfl rfl rfl rfl (Vf.idx rfl rfl rfl rfl rfl rfl (hi)) ?_;refine W.go 99 rfl ?_;refine W.vf rfl rfl rfl rfl (Vf.cO rfl rfl rfl (h.h4.whole (List.getElem?_eq_getElem hi) rfl)) ?_;refine W.go 99 rfl ?_;refine W.aB rfl rfl rfl (Ef.call rfl (Bo b ⟨a0,a1,a2,a3,some a,k0,k1,k2,k3,k4⟩ _ n0 _)) ?_;rintro _ _ _ ⟨_,rfl,rfl,rfl,rfl⟩;refine W.go 99 rfl ?_;refine W.split rfl rfl rfl (fun d2=>?_) (fun d2=>?_)
  ·refine W.go 99 rfl ?_;exact W.ret r rfl rfl ⟨by rw[hE,←hg,hd,jj,if_pos (by simpa using d2)];rfl,rfl⟩
  ·refine W.go 99 rfl ?_;exact W.again (again _ _ _ _ (by omega) ⟨i+1,rfl,by omega,by rw[←hg,hd,jj,if_neg (by simpa using d2)],rfl,rfl,rfl⟩) ⟨rfl,rfl,rfl,congrArg some (bu (by omega)),trivial⟩ ⟨rfl,trivial⟩
 ·refine W.go 99 rfl ?_;exact W.ret r rfl rfl ⟨by rw[hE,←hg,List.drop_of_length_le (by simp at d1;omega)];rfl,rfl⟩
theorem UI:∀x:Fin 256,∀i:Fin 8,(IntKind.u8.wrap ((BitVec.ofInt IntKind.u8.bits ((x.val:Int).fdiv (2 ^ min i.val IntKind.u8.bits))&&& BitVec.ofInt IntKind.u8.bits 1).toNat:Int)==1)=x.val.testBit i.val:=by decide+kernel
theorem Tp:∀x:Fin 256,∀i:Fin 8,IntKind.u8.wrap ((BitVec.ofInt IntKind.u8.bits (x.val:Int)||| BitVec.ofInt IntKind.u8.bits (IntKind.u8.wrap (1 * 2 ^ min i.val IntKind.u8.bits))).toNat:Int)=((x.val||| 2 ^ i.val:Nat):Int):=by decide+kernel
def uS(e:Int):Value:=.iface 346 (.agg #[.int .i64 e])
theorem eC(c:Bool)(e:Int)(L:LH):Sp X 159 [.bool c,.int .i64 e] L (fun v L'=>v=.tuple #[]∧c=true∧L=L') (fun ch L'=>c=false∧ch=[Ju (uS e)]∧L=L'):=by
 refine Sp.enter (n:=9) Tryz.func159 rfl rfl rfl rfl fun C hX _ aG r=>?_;refine W.go 99 rfl ?_;refine W.split rfl rfl rfl (fun c1=>?_) (fun c1=>?_)
 ·refine W.go 99 rfl ?_;refine W.R8 rfl rfl rfl rfl ?_;exact WM.raise r ⟨by simpa using c1,rfl,rfl⟩
 ·refine W.go 99 rfl ?_;refine W.lP r rfl rfl ⟨rfl,by simpa using c1,rfl⟩
theorem GU(e:Int)(L:LH):Sp X 159 [.bool true,.int .i64 e] L (fun v L'=>v=.tuple #[]∧L=L'):=
 (eC true e L).mono (fun _ _ h=>⟨h.1,h.2.2⟩) fun _ _ h=>absurd h.1 (by decide)
theorem RY(e:Int)(L:LH):Sp X 159 [.bool false,.int .i64 e] L (fun _ _=>False) (fun ch L'=>ch=[Ju (uS e)]∧L=L'):=
 (eC false e L).mono (fun _ _ h=>absurd h.2.1 (by decide)) fun _ _ h=>h.2
theorem fK(n lo hi:Int)(L:LH):Sp X 160 [.int .i64 n,.int .i64 lo,.int .i64 hi] L (fun v L'=>v=.bool (bq n lo hi)∧L=L'):=by
 refine Sp.enter (n:=15) Tryz.func160 rfl rfl rfl rfl fun C hX _ aG r=>?_;refine W.go 99 rfl ?_;refine W.split rfl rfl rfl (fun c=>?_) (fun c=>?_)
 ·refine W.go 99 rfl ?_;exact W.ret r rfl rfl ⟨by unfold bq;rw[c];rfl,rfl⟩
 ·refine W.go 99 rfl ?_;exact W.ret r rfl rfl ⟨by unfold bq;rw[c];rfl,rfl⟩
def HY(e:Int)(L:LH)(v:Value)(L':LH):Prop:=v=.tuple #[]∧e=0∧Le L L'
def HX(e:Int)(L:LH)(ch:List PanicEntry)(L':LH):Prop:=e≠0∧ch=[Ju (uS e)]∧Le L L'
theorem Mv(be:Nat)(e e0:Int)(L:LH)(he:L be=some (.cells #[.int .i64 e0] 39 (0,0),true)):
  Ds X 208 [pt be] (.panicking [Ju (uS e)]) L (fun md L'=>md=.returning∧L'=L.put be (.cells #[.int .i64 e] 39)):=by
 refine Ds.enter (n:=11) Tryz.func208 rfl rfl rfl rfl fun C hX _ aG r=>?_;refine W.go 99 rfl ?_;refine W.NQ (sv:=.v (uS e)) r rfl rfl rfl rfl fun C' YZ _ _ _ r=>?_;refine W.go 99 rfl ?_;refine W.split rfl rfl rfl (fun _=>W.go 99 rfl ?_) (fun h=>absurd h (by simp));refine W.dY rfl rfl (Ef.gn rfl ⟨_,rfl,rfl⟩ rfl he rfl (Nat.le_refl _) (bY rfl)) ?_;rintro _ _ _ ⟨rfl,rfl,rfl⟩;refine W.go 99 rfl ?_;exact W.Lr r rfl (.inl rfl) ⟨rfl,rfl⟩
theorem T5(be:Nat)(L:LH):Ds X 208 [pt be] .returning L (fun md L'=>md=.returning∧L'=L):=by
 refine Ds.enter (n:=11) Tryz.func208 rfl rfl rfl rfl fun C hX _ aG r=>?_;refine W.go 99 rfl ?_;refine W.CX r rfl rfl rfl ?_;refine W.go 99 rfl ?_;refine W.split rfl rfl rfl (fun h=>absurd h (by simp)) (fun _=>W.go 99 rfl ?_);exact W.Lr r rfl (.inl rfl) ⟨rfl,rfl⟩
theorem zA(g:FuncId)(Kw:List Value)(e:Int)(L:LH)(hs:∀L1,Le L L1→Sp X g Kw L1 (HY e L1) (HX e L1)):Sp X 157 [.func (.func g) #[] Kw.toArray] L (fun v L'=>v=.int .i64 e∧Le L L'):=by
 refine Sp.enter (n:=6) Tryz.func157 rfl rfl rfl rfl fun C hX _ aG r=>?_;refine W.go 99 rfl ?_;refine W.cw 2 (.inl ⟨_,rfl⟩) rfl rfl ?_;intro be Ea _;refine W.go 99 rfl ?_;refine W.KC r.ro rfl rfl rfl rfl ?_
 change W C _ _ _ _ _ (L.put be (.cells #[.int .i64 0] 39))
 have hle:=Le.put Ea (.cells #[.int .i64 0] 39);have hb:=aj L be (.cells #[.int .i64 0] 39);have hc:=hs _ hle;rw[←hX] at hc;generalize L.put be (.cells #[.int .i64 0] 39)=L1 at hle hb hc ⊢;refine W.go 99 rfl ?_;refine W.yH (v1:=[]) (v2:=Kw) rfl rfl rfl rfl rfl rfl (by simpa using hc) ?_ ?_
 ·rintro _ L2 ⟨rfl,h0,hl⟩;refine W.go 99 rfl ?_;refine W.dY rfl rfl (Ef.gn rfl ⟨_,rfl,rfl⟩ rfl (hl _ _ hb) rfl (Nat.le_refl _) (bY rfl)) ?_;rintro _ _ _ ⟨rfl,rfl,rfl⟩;refine W.go 99 rfl ?_;refine W.out r.ro (.inr .ret) ?_;refine WM.deferred rfl rfl (T5 be _) ?_;rintro _ _ ⟨rfl,rfl⟩;exact WM.Lq r rfl rfl (vt rfl (ay (aj _ _ _) rfl)) ⟨by rw[h0];rfl,aC (hle.trans hl) Ea _⟩
 ·rintro ch L2 ⟨h0,rfl,hl⟩;refine WM.deferred rfl rfl (Mv be e 0 L2 (hl _ _ hb)) ?_;rintro _ _ ⟨rfl,rfl⟩;exact WM.Lq r rfl rfl (vt rfl (ay (aj _ _ _) rfl)) ⟨rfl,aC (hle.trans hl) Ea _⟩
theorem AR(n m:Int)(L:LH):Sp X 168 [.int .i64 n,.int .i64 m] L (HY (bA n 1 m) L) (HX (bA n 1 m) L):=by
 have s7:n<1→bA n 1 m=7:=fun h=>by unfold bA;rw[if_pos h]
 have s6:¬n<1→m<n→bA n 1 m=6:=fun h h2=>by unfold bA;rw[if_neg h,if_pos h2]
 have s0:¬n<1→¬m<n→bA n 1 m=0:=fun h h2=>by unfold bA;rw[if_neg h,if_neg h2]
 refine Sp.enter (n:=11) Tryz.func168 rfl rfl rfl rfl fun C hX _ aG r=>?_;refine W.go 99 rfl ?_;refine W.dQ rfl rfl rfl rfl (eC _ _ _) ?_ ?_
 ·rintro _ _ ⟨rfl,c1,rfl⟩;refine W.go 99 rfl ?_;refine W.dQ rfl rfl rfl rfl (eC _ _ _) ?_ ?_
  ·rintro _ _ ⟨rfl,c2,rfl⟩;refine W.go 99 rfl ?_;exact W.lP r rfl rfl ⟨rfl,s0 (by simp at c1;omega) (by simp at c2;omega),Le.refl _⟩
  ·rintro _ _ ⟨c2,rfl,rfl⟩;rw[s6 (by simp at c1;omega) (by simp at c2;omega)] at r;exact WM.raise r ⟨by decide,rfl,Le.refl _⟩
 ·rintro _ _ ⟨c1,rfl,rfl⟩;rw[s7 (by simp at c1;omega)] at r;exact WM.raise r ⟨by decide,rfl,Le.refl _⟩
theorem uI(s:bV)(m:Int)(L:LH):Sp X 169 [.agg (di s).toArray,.int .i64 m] L (HY (eE s m) L) (HX (eE s m) L):=by
 have e1:(bq s.lo 0 m&&bq s.hi 0 m)=false→eE s m=1:=fun h=>by unfold eE;rw[if_pos (by rw[←Bool.not_and,h];rfl)]
 have e5:(bq s.lo 0 m&&bq s.hi 0 m)=true→s.hi<s.lo→eE s m=5:=fun h h2=>by unfold eE;rw[if_neg (by rw[←Bool.not_and,h];simp),if_pos h2]
 have e0:(bq s.lo 0 m&&bq s.hi 0 m)=true→¬s.hi<s.lo→eE s m=0:=fun h h2=>by unfold eE;rw[if_neg (by rw[←Bool.not_and,h];simp),if_neg h2]
 refine Sp.enter (n:=21) Tryz.func169 rfl rfl rfl rfl fun C hX _ aG r=>?_;refine W.go 99 rfl ?_;refine W.aB rfl rfl rfl (Ef.call rfl (fK _ _ _ _)) ?_;rintro _ _ _ ⟨_,rfl,rfl,rfl,rfl⟩;refine W.go 99 rfl ?_;refine W.split rfl rfl rfl (fun c1=>?_) (fun c1=>?_)
 ·refine W.go 99 rfl ?_;refine W.aB rfl rfl rfl (Ef.call rfl (fK _ _ _ _)) ?_;rintro _ _ _ ⟨_,rfl,rfl,rfl,rfl⟩;refine W.go 99 rfl ?_;refine W.dQ rfl rfl rfl rfl (eC _ _ _) ?_ ?_
  ·rintro _ _ ⟨rfl,c2,rfl⟩;refine W.go 99 rfl ?_;refine W.dQ rfl rfl rfl rfl (eC _ _ _) ?_ ?_
   ·rintro _ _ ⟨rfl,c3,rfl⟩;refine W.go 99 rfl ?_;exact W.lP r rfl rfl ⟨rfl,e0 (by rw[c1,c2];rfl) (by simp at c3;omega),Le.refl _⟩
   ·rintro _ _ ⟨c3,rfl,rfl⟩;rw[e5 (by rw[c1,c2];rfl) (by simp at c3;omega)] at r;exact WM.raise r ⟨by decide,rfl,Le.refl _⟩
  ·rintro _ _ ⟨c2,rfl,rfl⟩;rw[e1 (by rw[c1,c2];rfl)] at r;exact WM.raise r ⟨by decide,rfl,Le.refl _⟩
 ·refine W.go 99 rfl ?_;refine W.dQ rfl rfl rfl rfl (eC _ _ _) ?_ ?_
  ·rintro _ _ ⟨_,c2,_⟩;exact absurd c2 (by decide)
  ·rintro _ _ ⟨_,rfl,rfl⟩;rw[e1 (by rw[c1];rfl)] at r;exact WM.raise r ⟨by decide,rfl,Le.refl _⟩
def eY(x:Gl):List Value:=[.int .i64 x.made,.int .i64 x.cS,.int .i64 x.bI.lo,.int .i64 x.bI.hi]
def fE(x:Sg):List Value:=[.int .i64 x.aJ,.int .i64 x.cZ,.int .i64 x.year,.int .i64 x.found]
theorem mT(x:Gl):(eY x).length=4:=rfl
theorem kO(x:Sg):(fE x).length=4:=rfl
theorem B7(x:Gl):∀u∈eY x,single u=true:=fun u hu=>by
 simp only[eY,List.mem_cons,List.not_mem_nil,or_false] at hu;rcases hu with rfl | rfl | rfl | rfl <;> rfl
theorem MI(x:Sg):∀u∈fE x,single u=true:=fun u hu=>by
 simp only[fE,List.mem_cons,List.not_mem_nil,or_false] at hu;rcases hu with rfl | rfl | rfl | rfl <;> rfl
abbrev fT(r:Ro)(p:BP):List Value:=[.slice p.a0 r.ai.length p.c0,.slice p.a1 r.steps.length p.c1,.slice p.a2 r.aA.length p.c2,.slice p.a3 r.samples.length p.c3,.slice p.a4 r.ak.length p.c4]
abbrev qy(r:Ro)(p:BP):Value:=.agg (fT r p).toArray
structure fD(L:LH)(r:Ro)(p:BP):Prop where
 h0:aX L p.a0 4 eY r.ai
 h1:aN L p.a1 r.steps
 h2:aN L p.a2 r.aA
 h3:aX L p.a3 2 di r.samples
 h4:aX L p.a4 4 fE r.ak
 n0:r.ai.length≤1000000
 n1:r.steps.length≤1000000
 n2:r.aA.length≤1000000
 n3:r.samples.length≤1000000
 n4:r.ak.length≤1000000
 k4:r.ak.length≤p.c4
theorem fD.le{L L':LH}{r:Ro}{p:BP}(h:fD L r p)(hl:Le L L'):fD L' r p:=⟨h.h0.le hl,h.h1.le hl,h.h2.le hl,h.h3.le hl,h.h4.le hl,h.n0,h.n1,h.n2,h.n3,h.n4,h.k4⟩
theorem sI(ro:Ro)(p:BP)(s:Sg)(L:LH)(h:fD L ro p):Sp X 170 [qy ro p,.agg (fE s).toArray] L (HY (de ro s) L) (HX (de ro s) L):=by
 have n0:=h.n0;have n3:=h.n3;have e3:(bq s.aJ 0 ((ro.samples.length:Int) - 1)&&bq s.cZ 0 ((ro.ai.length:Int) - 1))=false→de ro s=3:=fun h=>by unfold de;rw[if_pos (by rw[←Bool.not_and,h];rfl)]
 have e1:(bq s.aJ 0 ((ro.samples.length:Int) - 1)&&bq s.cZ 0 ((ro.ai.length:Int) - 1))=true→de ro s=if !bq s.year 0 60 then 1 else if s.year<(ro.ai.getD s.cZ.toNat ⟨0,0,⟨0,0⟩⟩).made then 12 else if !bq s.found 0 2 then 8 else 0:=fun h=>by unfold de;rw[if_neg (by rw[←Bool.not_and,h];simp)]
 refine Sp.enter (n:=40) Tryz.func170 rfl rfl rfl rfl fun C hX _ aG r=>?_;refine W.go 99 rfl ?_;rw[w1 n3];refine W.aB rfl rfl rfl (Ef.call rfl (fK _ _ _ _)) ?_;rintro _ _ _ ⟨_,rfl,rfl,rfl,rfl⟩;refine W.go 99 rfl ?_;refine W.split rfl rfl rfl (fun c1=>?_) (fun c1=>?_)
 ·refine W.go 99 rfl ?_;rw[w1 n0];refine W.aB rfl rfl rfl (Ef.call rfl (fK _ _ _ _)) ?_;rintro _ _ _ ⟨_,rfl,rfl,rfl,rfl⟩;refine W.go 99 rfl ?_;refine W.dQ rfl rfl rfl rfl (eC _ _ _) ?_ ?_
  ·rintro _ _ ⟨rfl,c2,rfl⟩;rw[e1 (by rw[c1,c2];rfl)] at r;have hg:=jh.1 c2;refine W.go 99 rfl ?_;refine W.aB rfl rfl rfl (Ef.call rfl (fK _ _ _ _)) ?_;rintro _ _ _ ⟨_,rfl,rfl,rfl,rfl⟩;refine W.go 99 rfl ?_;refine W.dQ rfl rfl rfl rfl (eC _ _ _) ?_ ?_
   ·rintro _ _ ⟨rfl,c3,rfl⟩;rw[if_neg (by rw[c3];simp)] at r;refine W.go 99 rfl ?_;obtain⟨gi,lI⟩:∃gi:Nat,s.cZ=(gi:Int):=⟨s.cZ.toNat,by omega⟩;have aU:gi<ro.ai.length:=by omega
    obtain⟨a0,a1,a2,a3,a4,k0,k1,k2,k3,k4⟩:=p;obtain⟨a,ha⟩:=h.h0.addr aU;obtain rfl:a0=some a:=ha;have zQ:=h.h0.whole (List.getElem?_eq_getElem aU) rfl;have Zz:L.cell? ((a.add (gi * 4)).add 0)=some (.int .i64 ro.ai[gi].made):=zQ.2 0 _ rfl;have jU:(ro.ai.getD s.cZ.toNat ⟨0,0,⟨0,0⟩⟩).made=ro.ai[gi].made:=by rw[lI,Int.toNat_natCast,List.getD_eq_getElem?_getD,List.getElem?_eq_getElem aU];rfl
    rw[jU] at r;refine W.drawn (by kernel_rfl) _ (Le.refl _) ?_;refine DD.run' [0,1,2,3,4,5] rfl ?_;refine DD.vf 6 rfl rfl rfl rfl rfl (Vf.idx rfl rfl rfl rfl rfl lI aU) ?_;refine DD.run' [7] rfl ?_;refine DD.vf 8 rfl rfl rfl rfl rfl (Vf.load rfl rfl rfl (Zz)) ?_;refine DD.run' [9] rfl ?_;refine DD.split 34 rfl (fun c4=>?_) (fun c4=>?_)
    ·rw[if_neg (by simp at c4;omega)] at r;refine DD.act 10 rfl rfl rfl rfl rfl (Ef.call rfl (GU _ _)) ((by rintro _ _ _ ⟨_,rfl,rfl,rfl,rfl⟩;exact⟨Le.refl _,rfl,.inl rfl⟩)) ?_;rintro _ _ _ ⟨_,rfl,rfl,rfl,rfl⟩;refine .fin rfl ?_;refine W.go 99 rfl ?_;refine W.aB rfl rfl rfl (Ef.call rfl (fK _ _ _ _)) ?_;rintro _ _ _ ⟨_,rfl,rfl,rfl,rfl⟩;refine W.go 99 rfl ?_;refine W.dQ rfl rfl rfl rfl (eC _ _ _) ?_ ?_
     ·rintro _ _ ⟨rfl,c5,rfl⟩;rw[if_neg (by rw[c5];simp)] at r;refine W.go 99 rfl ?_;exact W.lP r rfl rfl ⟨rfl,rfl,Le.refl _⟩
     ·rintro _ _ ⟨c5,rfl,rfl⟩;rw[if_pos (by rw[c5];rfl)] at r;exact WM.raise r ⟨by decide,rfl,Le.refl _⟩
    ·rw[if_pos (by simp at c4;omega)] at r;refine DD.dQ 10 rfl rfl rfl rfl rfl rfl (RY _ _) ?_;rintro _ _ ⟨rfl,rfl⟩;exact WM.raise r ⟨by decide,rfl,Le.refl _⟩
   ·rintro _ _ ⟨c3,rfl,rfl⟩;rw[if_pos (by rw[c3];rfl)] at r;exact WM.raise r ⟨by decide,rfl,Le.refl _⟩
  ·rintro _ _ ⟨c2,rfl,rfl⟩;rw[e3 (by rw[c1,c2];rfl)] at r;exact WM.raise r ⟨by decide,rfl,Le.refl _⟩
 ·refine W.go 99 rfl ?_;refine W.dQ rfl rfl rfl rfl (eC _ _ _) ?_ ?_
  ·rintro _ _ ⟨_,c2,_⟩;exact absurd c2 (by decide)
  ·rintro _ _ ⟨_,rfl,rfl⟩;rw[e3 (by rw[c1];rfl)] at r;exact WM.raise r ⟨by decide,rfl,Le.refl _⟩
theorem EW{n m:Int}(h:bA n 1 m=0):¬bA n 1 m≠0:=by simpa using h
theorem EY(p:Option Int)(n:Int)(l:List Int):df p (n::l)=if !bq n 1 40 then 1 else if(match p with | some q=>decide (n≤q) | none=>false) then 5 else df (some n) l:=by cases p <;> rfl
theorem LY(br:Nat)(ro:Ro)(p:BP)(L:LH)(hb:∀(i:Nat) (v:Value),(fT ro p)[i]?=some v→L.cell? ⟨br,i,none⟩=some v)(h:fD L ro p):Sp X 167 [pt br] L (HY (dK ro) L) (HX (dK ro) L):=by
 have n0:=h.n0;have n1:=h.n1;have n2:=h.n2;have n3:=h.n3;have n4:=h.n4;obtain⟨a0,a1,a2,a3,a4,k0,k1,k2,k3,k4⟩:=p;refine Sp.enter (n:=114) Tryz.func167 rfl rfl rfl rfl fun C hX _ aG r=>?_;refine W.go 99 rfl ?_;refine W.vf rfl rfl rfl rfl (Vf.load rfl rfl rfl (hb 0 _ rfl)) ?_;refine W.go 99 rfl ?_;refine W.dQ rfl rfl rfl rfl (AR _ _ _) ?_ ?_
 rotate_left
 ·rintro _ _ ⟨h0,rfl,hl⟩;rw[show dK ro=bA ro.ai.length 1 4 by unfold dK;rw[if_pos h0]] at r;exact WM.raise r ⟨h0,rfl,hl⟩
 rintro _ L1 ⟨rfl,h0,ec⟩;have lY:dK ro=if c8 ro.ai≠0 then c8 ro.ai else
   if bA ro.steps.length 1 3≠0 then bA ro.steps.length 1 3 else
   if df none ro.steps≠0 then df none ro.steps else
   if ro.aA.length≠ro.steps.length+1 then 9 else
   if !(ro.aA.all fun n=>bq n 0 99) then 1 else
   if dq ro.samples 2 40≠0 then dq ro.samples 2 40 else
   if 8<ro.ak.length then 6 else ib ro ro.ak:=by unfold dK;rw[if_neg (EW h0)]
 refine W.go 99 rfl ?_;refine W.vf rfl rfl rfl rfl (Vf.load rfl rfl rfl (ec.cell (hb 0 _ rfl))) ?_;refine W.go 99 rfl ?_;refine W.loop (fun m' E B L'=>∃i:Nat,m'=ro.ai.length - i∧i≤ro.ai.length∧c8 (ro.ai.drop i)=c8 ro.ai∧Le L L'∧
   E=[(0,.v (pt br)),(16,.v (.slice a0 ro.ai.length k0)),(17,.v (.int .i64 ro.ai.length)),(18,.v (.int .i64 i))]∧B=[])
  ⟨0,rfl,by omega,by simp,ec,rfl,rfl⟩ (by exact⟨rfl,rfl,rfl,rfl,trivial⟩) trivial ?_
 rintro _ _ _ L2 ⟨i,rfl,h1,hg,bZ,rfl,rfl⟩ again;refine W.go 99 rfl ?_;refine W.split rfl rfl rfl (fun d1=>W.go 99 rfl ?_) (fun d1=>W.go 99 rfl ?_)
 ·have hi:i<ro.ai.length:=by simpa using d1
  have hd:=List.drop_eq_getElem_cons hi;obtain⟨a,ha⟩:=h.h0.addr hi;obtain rfl:a0=some a:=ha;have bad:∀e,ix ro.ai[i]=e→e≠0→dK ro=e:=fun e he h0=>by
   have:c8 ro.ai=e:=by rw[←hg,hd,c8,he,if_pos h0]
   rw[lY,this,if_pos h0]
  have next:ix ro.ai[i]=0→c8 (ro.ai.drop (i+1))=c8 ro.ai:=fun he=>by rw[←hg,hd,c8,he,if_neg (by simp)]
  generalize yq:ro.ai[i]=g at bad next
  have b1:(bq g.made 0 60&&bq g.cS 0 40)=false→ix g=1:=fun h=>by unfold ix;rw[if_pos (by rw[←Bool.not_and,h];rfl)]
  have b2:(bq g.made 0 60&&bq g.cS 0 40)=true→ix g=eE g.bI 3:=fun h=>by unfold ix;rw[if_neg (by rw[←Bool.not_and,h];simp)]
  refine W.vf rfl rfl rfl rfl (Vf.idx rfl rfl rfl rfl rfl rfl (hi)) ?_;refine W.go 99 rfl ?_;refine W.vf rfl rfl rfl rfl (Vf.cO rfl rfl rfl (((h.h0.le bZ).whole (by rw[List.getElem?_eq_getElem hi,yq]) rfl:cH L2 (a.add (i * 4)) 4 (eY g)))) ?_;refine W.go 99 rfl ?_;refine W.aB rfl rfl rfl (Ef.call rfl (fK _ _ _ _)) ?_;rintro _ _ _ ⟨_,rfl,rfl,rfl,rfl⟩;refine W.go 99 rfl ?_;refine W.split rfl rfl rfl (fun c1=>?_) (fun c1=>?_)
  ·refine W.go 99 rfl ?_;refine W.aB rfl rfl rfl (Ef.call rfl (fK _ _ _ _)) ?_;rintro _ _ _ ⟨_,rfl,rfl,rfl,rfl⟩;refine W.go 99 rfl ?_;refine W.dQ rfl rfl rfl rfl (eC _ _ _) ?_ ?_
   ·rintro _ _ ⟨rfl,c2,rfl⟩;have b3:=b2 (by rw[c1,c2];rfl);refine W.go 99 rfl ?_;refine W.dQ rfl rfl rfl rfl (uI g.bI 3 _) ?_ ?_
    ·rintro _ L3 ⟨rfl,c3,jV⟩;refine W.go 99 rfl ?_;exact W.again (again _ _ _ _ (by omega) ⟨i+1,rfl,by omega,next (by rw[b3];exact c3),bZ.trans jV,rfl,rfl⟩) ⟨rfl,rfl,rfl,congrArg some (bu (by omega)),trivial⟩ trivial
    ·rintro _ L3 ⟨c3,rfl,jV⟩;rw[bad _ b3 c3] at r;exact WM.raise r ⟨c3,rfl,bZ.trans jV⟩
   ·rintro _ _ ⟨c2,rfl,rfl⟩;rw[bad 1 (b1 (by rw[c1,c2];rfl)) (by decide)] at r;exact WM.raise r ⟨by decide,rfl,bZ⟩
  ·refine W.go 99 rfl ?_;refine W.dQ rfl rfl rfl rfl (eC _ _ _) ?_ ?_
   ·rintro _ _ ⟨_,c2,_⟩;exact absurd c2 (by decide)
   ·rintro _ _ ⟨_,rfl,rfl⟩;rw[bad 1 (b1 (by rw[c1];rfl)) (by decide)] at r;exact WM.raise r ⟨by decide,rfl,bZ⟩
 have qo:c8 ro.ai=0:=by rw[←hg,List.drop_of_length_le (by simp at d1;omega)];rfl
 rw[if_neg (by simpa using qo)] at lY;clear again hg d1 h0 h1 ec;refine W.vf rfl rfl rfl rfl (Vf.load rfl rfl rfl (bZ.cell (hb 1 _ rfl))) ?_;refine W.go 99 rfl ?_;refine W.dQ rfl rfl rfl rfl (AR _ _ _) ?_ ?_
 rotate_left
 ·rintro _ _ ⟨h0,rfl,hl⟩;rw[lY,if_pos h0] at r;exact WM.raise r ⟨h0,rfl,bZ.trans hl⟩
 rintro _ L1 ⟨rfl,h0,ec⟩;rw[if_neg (EW h0)] at lY;have ec:=bZ.trans ec;clear bZ;refine W.go 99 rfl ?_;refine W.vf rfl rfl rfl rfl (Vf.load rfl rfl rfl (ec.cell (hb 1 _ rfl))) ?_;refine W.go 99 rfl ?_;refine W.loop (fun m' E B L'=>∃i:Nat,m'=ro.steps.length - i∧i≤ro.steps.length∧df (if i=0 then none else some (ro.steps.getD (i - 1) 0)) (ro.steps.drop i)=df none ro.steps∧Le L L'∧
   E=[(0,.v (pt br)),(40,.v (.slice a1 ro.steps.length k1)),(41,.v (.int .i64 ro.steps.length)),(42,.v (.int .i64 i))]∧B=[])
  ⟨0,rfl,by omega,by simp,ec,rfl,rfl⟩ (by exact⟨rfl,rfl,rfl,rfl,trivial⟩) trivial ?_
 rintro _ _ _ L2 ⟨i,rfl,h1,hg,bZ,rfl,rfl⟩ again;refine W.go 99 rfl ?_;refine W.split rfl rfl rfl (fun d1=>W.go 99 rfl ?_) (fun d1=>W.go 99 rfl ?_)
 ·have hi:i<ro.steps.length:=by simpa using d1
  have hd:=List.drop_eq_getElem_cons hi;obtain⟨a,ha⟩:=h.h1.addr hi;obtain rfl:a1=some a:=ha;have cu:=h.h1.le bZ;have bad:∀e,e≠0→df (if i=0 then none else some (ro.steps.getD (i - 1) 0)) (ro.steps.drop i)=e→dK ro=e:=fun e h0 he=>by
   rw[lY,←hg,he,if_pos h0]
  rw[hd,EY] at hg bad;refine W.vf rfl rfl rfl rfl (Vf.aW rfl rfl rfl rfl rfl rfl rfl (hi)) ?_;refine W.go 99 rfl ?_;refine W.vf rfl rfl rfl rfl (Vf.load rfl rfl rfl (cu.int (List.getElem?_eq_getElem hi))) ?_;refine W.go 99 rfl ?_;refine W.aB rfl rfl rfl (Ef.call rfl (fK _ _ _ _)) ?_;rintro _ _ _ ⟨_,rfl,rfl,rfl,rfl⟩;refine W.go 99 rfl ?_;refine W.dQ rfl rfl rfl rfl (eC _ _ _) ?_ ?_
  rotate_left
  ·rintro _ _ ⟨c2,rfl,rfl⟩;rw[bad 1 (by decide) (by rw[if_pos (by rw[c2];rfl)])] at r;exact WM.raise r ⟨by decide,rfl,bZ⟩
  rintro _ _ ⟨rfl,c2,rfl⟩;rw[if_neg (by rw[c2];simp)] at hg;have O1:=fun h=>bad 5 (by decide) ((if_neg (by rw[c2];simp)).trans (if_pos h));clear bad;refine W.go 99 rfl ?_;refine W.split rfl rfl rfl (fun c3=>?_) (fun c3=>?_)
  ·have qq:i=0:=by simp at c3;omega
   subst qq;rw[if_pos rfl] at hg;rw[if_neg (by simp)] at hg;refine W.go 99 rfl ?_;refine W.aB rfl rfl rfl (Ef.call rfl (GU _ _)) ?_;rintro _ _ _ ⟨_,rfl,rfl,rfl,rfl⟩;refine W.go 99 rfl ?_;exact W.again (again _ _ _ _ (by omega) ⟨0+1,rfl,by omega,by rw[if_neg (by omega),←hg];simp[List.getD_eq_getElem?_getD,List.getElem?_eq_getElem hi],bZ,rfl,rfl⟩) ⟨rfl,rfl,rfl,congrArg some (bu (by omega)),trivial⟩ trivial
  ·have qq:¬i=0:=by simp at c3;omega
   rw[if_neg qq] at hg O1;have Nk:i - 1<ro.steps.length:=by omega
   have jU:ro.steps.getD (i - 1) 0=ro.steps[i - 1]:=by rw[List.getD_eq_getElem?_getD,List.getElem?_eq_getElem Nk];rfl
   rw[jU] at hg O1;refine W.go 99 rfl ?_;refine W.vf rfl rfl rfl rfl (Vf.load rfl rfl rfl (bZ.cell (hb 1 _ rfl))) ?_;refine W.go 99 rfl ?_;refine W.vf rfl rfl rfl rfl (Vf.aW rfl rfl rfl rfl rfl rfl (show IntKind.i64.wrap ((i:Int) - 1)=((i - 1:Nat):Int) by rw[wrap64_in _ (by omega) (by omega)];omega) Nk) ?_;refine W.go 99 rfl ?_;refine W.vf rfl rfl rfl rfl (Vf.load rfl rfl rfl (cu.int (List.getElem?_eq_getElem Nk))) ?_;refine W.go 99 rfl ?_;refine W.dQ rfl rfl rfl rfl (eC _ _ _) ?_ ?_
   ·rintro _ _ ⟨rfl,c4,rfl⟩;have c4':ro.steps[i - 1]<ro.steps[i]:=by simpa using c4
    rw[if_neg (by simp;omega)] at hg;refine W.go 99 rfl ?_;exact W.again (again _ _ _ _ (by omega) ⟨i+1,rfl,by omega,by rw[if_neg (by omega),←hg];simp[List.getD_eq_getElem?_getD,List.getElem?_eq_getElem hi],bZ,rfl,rfl⟩) ⟨rfl,rfl,rfl,congrArg some (bu (by omega)),trivial⟩ trivial
   ·rintro _ _ ⟨c4,rfl,rfl⟩;have c4':¬ro.steps[i - 1]<ro.steps[i]:=by simpa using c4
    rw[O1 (by simp;omega)] at r;exact WM.raise r ⟨by decide,rfl,bZ⟩
 have qo:df none ro.steps=0:=by rw[←hg,List.drop_of_length_le (by simp at d1;omega)];rfl
 rw[if_neg (by simpa using qo)] at lY;clear again hg d1 h0 h1 ec;refine W.vf rfl rfl rfl rfl (Vf.load rfl rfl rfl (bZ.cell (hb 2 _ rfl))) ?_;refine W.go 99 rfl ?_;refine W.vf rfl rfl rfl rfl (Vf.load rfl rfl rfl (bZ.cell (hb 1 _ rfl))) ?_;refine W.go 99 rfl ?_;rw[wrap64_in _ (by omega) (by omega)];refine W.dQ rfl rfl rfl rfl (eC _ _ _) ?_ ?_
 rotate_left
 ·rintro _ _ ⟨c1,rfl,rfl⟩;rw[lY,if_pos (by simp at c1;omega)] at r;exact WM.raise r ⟨by decide,rfl,bZ⟩
 rintro _ _ ⟨rfl,c1,rfl⟩;rw[if_neg (by simp at c1;omega)] at lY;refine W.go 99 rfl ?_;refine W.vf rfl rfl rfl rfl (Vf.load rfl rfl rfl (bZ.cell (hb 2 _ rfl))) ?_;refine W.go 99 rfl ?_;refine W.loop (fun m' E B L'=>∃i:Nat,m'=ro.aA.length - i∧i≤ro.aA.length∧(ro.aA.drop i).all (fun n=>bq n 0 99)=ro.aA.all (fun n=>bq n 0 99)∧Le L L'∧
   E=[(0,.v (pt br)),(74,.v (.slice a2 ro.aA.length k2)),(75,.v (.int .i64 ro.aA.length)),(76,.v (.int .i64 i))]∧B=[])
  ⟨0,rfl,by omega,by simp,bZ,rfl,rfl⟩ (by exact⟨rfl,rfl,rfl,rfl,trivial⟩) trivial ?_
 clear bZ c1;rintro _ _ _ L2 ⟨i,rfl,h1,hg,bZ,rfl,rfl⟩ again;refine W.go 99 rfl ?_;refine W.split rfl rfl rfl (fun d1=>W.go 99 rfl ?_) (fun d1=>W.go 99 rfl ?_)
 ·have hi:i<ro.aA.length:=by simpa using d1
  have hd:=List.drop_eq_getElem_cons hi;obtain⟨a,ha⟩:=h.h2.addr hi;obtain rfl:a2=some a:=ha;rw[hd,List.all_cons] at hg;refine W.vf rfl rfl rfl rfl (Vf.aW rfl rfl rfl rfl rfl rfl rfl (hi)) ?_;refine W.go 99 rfl ?_;refine W.vf rfl rfl rfl rfl (Vf.load rfl rfl rfl ((h.h2.le bZ).int (List.getElem?_eq_getElem hi))) ?_;refine W.go 99 rfl ?_;refine W.aB rfl rfl rfl (Ef.call rfl (fK _ _ _ _)) ?_;rintro _ _ _ ⟨_,rfl,rfl,rfl,rfl⟩;refine W.go 99 rfl ?_;refine W.dQ rfl rfl rfl rfl (eC _ _ _) ?_ ?_
  ·rintro _ _ ⟨rfl,c2,rfl⟩;rw[c2,Bool.true_and] at hg;refine W.go 99 rfl ?_;exact W.again (again _ _ _ _ (by omega) ⟨i+1,rfl,by omega,hg,bZ,rfl,rfl⟩) ⟨rfl,rfl,rfl,congrArg some (bu (by omega)),trivial⟩ trivial
  ·rintro _ _ ⟨c2,rfl,rfl⟩;rw[c2,Bool.false_and] at hg;rw[lY,if_pos (by rw[←hg];rfl)] at r;exact WM.raise r ⟨by decide,rfl,bZ⟩
 have qo:ro.aA.all (fun n=>bq n 0 99)=true:=by rw[←hg,List.drop_of_length_le (by simp at d1;omega)];rfl
 rw[if_neg (by rw[qo];simp)] at lY;clear again hg d1 h1;refine W.vf rfl rfl rfl rfl (Vf.load rfl rfl rfl (bZ.cell (hb 3 _ rfl))) ?_;refine W.go 99 rfl ?_;refine W.dQ rfl rfl rfl rfl (AR _ _ _) ?_ ?_
 rotate_left
 ·rintro _ _ ⟨h0,rfl,hl⟩;rw[lY,show dq ro.samples 2 40=bA ro.samples.length 1 2 by unfold dq;rw[if_pos h0],if_pos h0] at r;exact WM.raise r ⟨h0,rfl,bZ.trans hl⟩
 rintro _ L1 ⟨rfl,h0,ec⟩;have hS:dq ro.samples 2 40=fq 40 ro.samples:=by unfold dq;rw[if_neg (EW h0)]
 rw[hS] at lY;have ec:=bZ.trans ec;clear bZ;refine W.go 99 rfl ?_;refine W.vf rfl rfl rfl rfl (Vf.load rfl rfl rfl (ec.cell (hb 3 _ rfl))) ?_;refine W.go 99 rfl ?_;refine W.loop (fun m' E B L'=>∃i:Nat,m'=ro.samples.length - i∧i≤ro.samples.length∧fq 40 (ro.samples.drop i)=fq 40 ro.samples∧Le L L'∧
   E=[(0,.v (pt br)),(89,.v (.slice a3 ro.samples.length k3)),(90,.v (.int .i64 ro.samples.length)),(91,.v (.int .i64 i))]∧B=[])
  ⟨0,rfl,by omega,by simp,ec,rfl,rfl⟩ (by exact⟨rfl,rfl,rfl,rfl,trivial⟩) trivial ?_
 rintro _ _ _ L2 ⟨i,rfl,h1,hg,bZ,rfl,rfl⟩ again;refine W.go 99 rfl ?_;refine W.split rfl rfl rfl (fun d1=>W.go 99 rfl ?_) (fun d1=>W.go 99 rfl ?_)
 ·have hi:i<ro.samples.length:=by simpa using d1
  have hd:=List.drop_eq_getElem_cons hi;obtain⟨a,ha⟩:=h.h3.addr hi;obtain rfl:a3=some a:=ha;rw[hd,fq] at hg;refine W.vf rfl rfl rfl rfl (Vf.idx rfl rfl rfl rfl rfl rfl (hi)) ?_;refine W.go 99 rfl ?_;refine W.vf rfl rfl rfl rfl (Vf.cO rfl rfl rfl ((h.h3.le bZ).whole (List.getElem?_eq_getElem hi) rfl)) ?_;refine W.go 99 rfl ?_;refine W.dQ rfl rfl rfl rfl (uI _ 40 _) ?_ ?_
  ·rintro _ L3 ⟨rfl,c3,jV⟩;rw[if_neg (by simpa using c3)] at hg;refine W.go 99 rfl ?_;exact W.again (again _ _ _ _ (by omega) ⟨i+1,rfl,by omega,hg,bZ.trans jV,rfl,rfl⟩) ⟨rfl,rfl,rfl,congrArg some (bu (by omega)),trivial⟩ trivial
  ·rintro _ L3 ⟨c3,rfl,jV⟩;rw[if_pos c3] at hg;rw[lY,←hg,if_pos c3] at r;exact WM.raise r ⟨c3,rfl,bZ.trans jV⟩
 have qo:fq 40 ro.samples=0:=by rw[←hg,List.drop_of_length_le (by simp at d1;omega)];rfl
 rw[if_neg (by simpa using qo)] at lY;clear again hg d1 h0 h1 ec;refine W.vf rfl rfl rfl rfl (Vf.load rfl rfl rfl (bZ.cell (hb 4 _ rfl))) ?_;refine W.go 99 rfl ?_;refine W.dQ rfl rfl rfl rfl (eC _ _ _) ?_ ?_
 rotate_left
 ·rintro _ _ ⟨c1,rfl,rfl⟩;rw[lY,if_pos (by simp at c1;omega)] at r;exact WM.raise r ⟨by decide,rfl,bZ⟩
 rintro _ _ ⟨rfl,c1,rfl⟩;rw[if_neg (by simp at c1;omega)] at lY;refine W.go 99 rfl ?_;refine W.vf rfl rfl rfl rfl (Vf.load rfl rfl rfl (bZ.cell (hb 4 _ rfl))) ?_;refine W.go 99 rfl ?_;refine W.loop (fun m' E B L'=>∃i:Nat,m'=ro.ak.length - i∧i≤ro.ak.length∧ib ro (ro.ak.drop i)=ib ro ro.ak∧Le L L'∧
   E=[(0,.v (pt br)),(104,.v (.slice a4 ro.ak.length k4)),(105,.v (.int .i64 ro.ak.length)),(106,.v (.int .i64 i))]∧B=[])
  ⟨0,rfl,by omega,by simp,bZ,rfl,rfl⟩ (by exact⟨rfl,rfl,rfl,rfl,trivial⟩) trivial ?_
 clear bZ c1;rintro _ _ _ L2 ⟨i,rfl,h1,hg,bZ,rfl,rfl⟩ again;refine W.go 99 rfl ?_;refine W.split rfl rfl rfl (fun d1=>W.go 99 rfl ?_) (fun d1=>W.go 99 rfl ?_)
 ·have hi:i<ro.ak.length:=by simpa using d1
  have hd:=List.drop_eq_getElem_cons hi;obtain⟨a,ha⟩:=h.h4.addr hi;obtain rfl:a4=some a:=ha;rw[hd,ib] at hg;refine W.vf rfl rfl rfl rfl (Vf.idx rfl rfl rfl rfl rfl rfl (hi)) ?_;refine W.go 99 rfl ?_;refine W.vf rfl rfl rfl rfl (Vf.cO rfl rfl rfl ((h.h4.le bZ).whole (List.getElem?_eq_getElem hi) rfl)) ?_;refine W.go 99 rfl ?_;refine W.vf rfl rfl rfl rfl (Vf.cO rfl rfl rfl ((⟨rfl,fun j v hv=>by rw[cK,Nat.zero_add];exact bZ.cell (hb j v hv)⟩:cH L2 ⟨br,0,none⟩ 5 (fT ro ⟨a0,a1,a2,a3,some a,k0,k1,k2,k3,k4⟩)))) ?_;refine W.go 99 rfl ?_;refine W.dQ rfl rfl rfl rfl (sI ro ⟨a0,a1,a2,a3,some a,k0,k1,k2,k3,k4⟩ _ _ (h.le bZ)) ?_ ?_
  ·rintro _ L3 ⟨rfl,c3,jV⟩;rw[if_neg (by simpa using c3)] at hg;refine W.go 99 rfl ?_;exact W.again (again _ _ _ _ (by omega) ⟨i+1,rfl,by omega,hg,bZ.trans jV,rfl,rfl⟩) ⟨rfl,rfl,rfl,congrArg some (bu (by omega)),trivial⟩ trivial
  ·rintro _ L3 ⟨c3,rfl,jV⟩;rw[if_pos c3] at hg;rw[lY,←hg] at r;exact WM.raise r ⟨c3,rfl,bZ.trans jV⟩
 have qo:ib ro ro.ak=0:=by rw[←hg,List.drop_of_length_le (by simp at d1;omega)];rfl
 rw[qo] at lY;exact W.lP r rfl rfl ⟨rfl,lY,bZ⟩
theorem xp(ro:Ro)(p:BP)(L:LH)(h:fD L ro p):Sp X 129 [qy ro p] L (fun v L'=>v=.int .i64 (dK ro)∧Le L L'):=by
 refine Sp.enter (n:=5) Tryz.func129 rfl rfl rfl rfl fun C hX _ aG r=>?_;refine W.go 99 rfl ?_;refine W.cw 1 (.inl ⟨_,rfl⟩) rfl rfl ?_;intro br Y3 _;have hle:=Le.put Y3 (.cells (fT ro p).toArray 48);have bW:∀(i:Nat) (v:Value),(fT ro p)[i]?=some v→(L.put br (.cells (fT ro p).toArray 48)).cell? ⟨br,i,none⟩=some v:=fun i v hv=>ay (aj _ _ _) (by rw[List.getElem?_toArray];exact hv);refine W.aB rfl rfl rfl (Ef.call rfl (zA 167 [pt br] (dK ro) _ (fun L1 hl=>LY br ro p L1 (fun i v hv=>hl.cell (bW i v hv)) ((h.le hle).le hl)))) ?_;rintro _ _ _ ⟨_,rfl,rfl,rfl,hl⟩;refine W.go 99 rfl ?_;refine W.ret r rfl rfl ?_;exact⟨rfl,hle.trans hl⟩
end Go.Mz
namespace Go.Mz
open Go
structure Want where
 sort:Int
 kind:Int
 lq:Int
 pay:Int
deriving DecidableEq
structure Sw where
 bj:List (List Int)
 gf:List Int
 CI:Int
 dS:List Want
deriving DecidableEq
def upB(p:Option Int)(n:Int):Bool:=match p with
 | some q=>decide (q<n)
 | none=>false
def pL:Option Int→List Int→Int
 | _,[]=>0
 | p,n::t=>if !bq n 1 9 then 1 else if upB p n then 5 else pL (some n) t
def kh(l:List Int):Int:=if bA l.length 1 4≠0 then bA l.length 1 4 else pL none l
def E5(x:Want):Int:=if x.sort=0 then 0 else 1
def E4(ls:List (List Int))(x:Want):Int:=if x.sort=0 then 0 else if x.sort=1 then 60 else((ls.getD x.kind.toNat []).length:Int) - 1
def uk(x:Want):Int:=if x.sort=1 then -1 else 0
def iw(ls:List (List Int))(x:Want):Int:=
 if !bq x.sort 0 2 then 8 else
 if !bq x.kind (uk x) ((ls.length:Int) - 1) then 3 else
 if bq x.lq (E5 x) (E4 ls x)&&bq x.pay 0 30 then 0 else 1
def iH:List (List Int)→Int
 | []=>0
 | x::l=>if kh x≠0 then kh x else iH l
def mE:List Int→Bool
 | []=>true
 | x::l=>bq x 0 4&&mE l
def kB(ls:List (List Int)):List Want→Int
 | []=>0
 | x::l=>if iw ls x≠0 then iw ls x else kB ls l
def kK(s:Sw):Int:=
 if bA s.bj.length 1 3≠0 then bA s.bj.length 1 3 else
 if iH s.bj≠0 then iH s.bj else
 if s.gf.length≠s.bj.length then 9 else
 if !mE s.gf then 1 else
 if !bq s.CI 0 3 then 1 else
 if 5<s.dS.length then 6 else kB s.bj s.dS
structure Wy(l:List Int):Prop where
 l1:1≤l.length
 l4:l.length≤4
 r:∀n∈l,1≤n∧n≤9
structure WA(ls:List (List Int))(x:Want):Prop where
 s0:0≤x.sort
 s2:x.sort≤2
 k0:uk x≤x.kind
 k1:x.kind<ls.length
 a0:E5 x≤x.lq
 a1:x.lq≤E4 ls x
 p0:0≤x.pay
 p1:x.pay≤30
structure uB(s:Sw):Prop where
 l1:1≤s.bj.length
 l3:s.bj.length≤3
 lf:∀l∈s.bj,Wy l
 st:s.gf.length=s.bj.length
 sr:∀n∈s.gf,0≤n∧n≤8
 k0:0≤s.CI
 k3:s.CI≤3
 w5:s.dS.length≤5
 wt:∀x∈s.dS,WA s.bj x
theorem CL:∀{l:List Int} {p:Option Int},pL p l=0→∀n∈l,1≤n∧n≤9
 | [],_,_,n,hm=>by cases hm
 | x::l,p,h,n,hm=>by
  unfold pL at h
  split at h
  ·cases h
  ·rename_i h1;simp only[Bool.not_eq_true',Bool.not_eq_false,jh] at h1
   split at h
   ·cases h
   ·rcases List.mem_cons.1 hm with rfl | hm
    ·exact h1
    ·exact CL h n hm
theorem RJ{l:List Int}(h:kh l=0):Wy l:=by
 unfold kh at h
 split at h
 ·rename_i h1;exact absurd h h1
 ·rename_i h1;simp only[ne_eq,Decidable.not_not,Db] at h1;exact⟨by omega,by omega,CL h⟩
theorem HJ{ls:List (List Int)}{x:Want}(h:iw ls x=0):WA ls x:=by
 unfold iw at h
 split at h
 ·cases h
 ·rename_i h1
  split at h
  ·cases h
  ·rename_i h2
   split at h
   ·rename_i h3;simp only[Bool.not_eq_true',Bool.not_eq_false,Bool.and_eq_true,jh] at h1 h2 h3;exact⟨h1.1,h1.2,h2.1,by omega,h3.1.1,h3.1.2,h3.2.1,h3.2.2⟩
   ·cases h
theorem Ja{l:List (List Int)}:iH l=0↔∀x∈l,kh x=0:=by
 induction l with
 | nil=>simp[iH]
 | cons x l ih=>
  simp only[iH,List.mem_cons,forall_eq_or_imp]
  by_cases h:kh x=0
  ·simp[h,ih]
  ·simp[h]
theorem Oe{ls:List (List Int)}{l:List Want}:kB ls l=0↔∀x∈l,iw ls x=0:=by
 induction l with
 | nil=>simp[kB]
 | cons x l ih=>
  simp only[kB,List.mem_cons,forall_eq_or_imp]
  by_cases h:iw ls x=0
  ·simp[h,ih]
  ·simp[h]
theorem Hy{l:List Int}:mE l=true↔∀x∈l,0≤x∧x≤4:=by
 induction l with
 | nil=>simp[mE]
 | cons x l ih=>simp only[mE,Bool.and_eq_true,jh,ih,List.mem_cons,forall_eq_or_imp]
theorem Lv{s:Sw}(h:kK s=0):uB s:=by
 unfold kK at h
 split at h
 ·rename_i h1;exact absurd h h1
 ·rename_i h1
  split at h
  ·rename_i h2;exact absurd h h2
  ·rename_i h2
   split at h
   ·cases h
   ·rename_i h3
    split at h
    ·cases h
    ·rename_i h4
     split at h
     ·cases h
     ·rename_i h5
      split at h
      ·cases h
      ·rename_i h6;simp only[ne_eq,Decidable.not_not,Db,Ja,Bool.not_eq_true',Bool.not_eq_false,Hy,jh] at h1 h2 h3 h4 h5;exact⟨by omega,by omega,fun l hl=>RJ (h2 l hl),h3,fun n hn=>by have:=h4 n hn;omega,h5.1,h5.2,by omega,fun x hx=>HJ (Oe.1 h x hx)⟩
def K8(s:Sw)(k:Int):List Int:=s.bj.getD k.toNat []
def aav(s:Sw)(x:Want):Int:=max 0 (gL ((K8 s x.kind).take ((K8 s x.kind).length - x.lq.toNat)) - s.CI)
structure Pl where
 t:List Int
 s:List Int
 d:List Int
 a:Int
deriving DecidableEq
def v8(l:List Int)(k:Nat)(x:Int):List Int:=l.modify k (·+x)
def plz:Pl:=⟨[0,0,0],[0,0,0],[0,0,0],0⟩
def VY(s:Sw)(p:Pl)(x:Want):Pl:=
 if x.sort=0 then{p with t:=v8 p.t x.kind.toNat 1} else
 if x.sort=1 then(if x.kind<0 then{p with a:=p.a+x.lq} else{p with d:=v8 p.d x.kind.toNat x.lq}) else
 {p with t:=v8 p.t x.kind.toNat 1,s:=v8 p.s x.kind.toNat (aav s x)}
def A5(s:Sw)(w:List Nat):List Want:=w.filterMap (s.dS[·]?)
def Sy(s:Sw)(w:List Nat):Pl:=(A5 s w).foldl (VY s) plz
def T8(s:Sw)(l:List Int)(p:Pl)(k:Nat):Pl:={p with t:=v8 p.t k (l.getD k 0),s:=v8 p.s k (l.getD k 0 *gL (s.bj.getD k []))}
def Jv(s:Sw)(w:List Nat)(l:List Int):Pl:=(List.range s.bj.length).foldl (T8 s l) (Sy s w)
def RD(p:Pl):Int:=gL p.s - gL p.d - p.a
def VO(s:Sw)(p:Pl):Int:=
 if(List.range s.gf.length).any (fun k=>decide (s.gf.getD k 0<p.t.getD k 0)) then 12 else
 if(List.range s.gf.length).any (fun k=>decide (p.s.getD k 0<p.d.getD k 0)) then 9 else
 if RD p<0 then 9 else 0
def Yo(s:Sw)(w:List Nat):Int:=((A5 s w).countP fun x=>x.sort==2:Nat)
def K7:List Int→List (List Int)
 | []=>[[]]
 | m::t=>(List.range (m+1).toNat).flatMap fun(n:Nat)=>(K7 t).map ((n:Int)::·)
def okW(s:Sw)(w:List Nat)(l:List Int):Bool:=VO s (Jv s w l)==0
def Lo(s:Sw)(w:List Nat):List (List Int):=if Yo s w≤gL s.gf then(K7 s.gf).filter (okW s w) else[]
def yV{α:Type}(lt:α→α→Bool)(b:Option α)(x:α):Option α:=match b with
 | none=>some x
 | some y=>if lt x y then some x else some y
def zE{α:Type}(lt:α→α→Bool)(l:List α):Option α:=l.foldl (yV lt) none
structure Cr where
 w:List Nat
 l:List Int
 c:Int
 p:Int
deriving DecidableEq
def abe(s:Sw)(w:List Nat)(l:List Int):Cr:=⟨w,l,gL (Jv s w l).t,RD (Jv s w l)⟩
def acI(a b:Cr):Bool:=decide (a.c<b.c)||(decide (a.c=b.c)&&decide (a.p<b.p))
def Kz(s:Sw)(w:List Nat):Option Cr:=zE acI ((Lo s w).map (abe s w))
def Al(s:Sw)(w:List Nat):Int:=gL ((A5 s w).map (·.pay))
def DI(m:Nat):List Nat:=(List.range 5).filter (m.testBit ·)
def YB(s:Sw):List Nat:=List.range s.dS.length
def aa3(s:Sw):List (Option Cr):=(List.range (2 ^ s.dS.length)).map fun m=>Kz s (DI m)
def Hl(s:Sw):Bool:=!(Lo s (YB s)).isEmpty
def ltL:List Nat→List Nat→Bool
 | _,[]=>false
 | [],_::_=>true
 | a::l,b::k=>decide (a<b)||(decide (a=b)&&ltL l k)
def ltB(s:Sw)(a b:Cr):Bool:=
 if Al s a.w≠Al s b.w∨a.c≠b.c then decide (Al s b.w<Al s a.w)||(decide (Al s a.w=Al s b.w)&&decide (a.c<b.c)) else ltL a.w b.w
def If(s:Sw)(so:List Nat→Bool):Option Cr:=zE (ltB s) (((aa3 s).filterMap id).filter fun c=>so c.w)
def zp(o:Option Cr):List Nat:=match o with | some c=>c.w | none=>[]
def eT(s:Sw):List Nat×Int×Int:=if kK s≠0 then([],0,kK s) else(zp (If s fun _=>true),Al s (zp (If s fun _=>true)),0)
def Tl(s:Sw)(x:Want):Sw:={s with dS:=s.dS++[x]}
def Wa:Sw:=⟨[],[],0,[]⟩
def qz(s:Sw)(x:Want):Sw×Int:=
 if kK s≠0 then(Wa,kK s) else if s.dS.length=5 then(Wa,6) else if iw s.bj x≠0 then(Wa,iw s.bj x) else
 if Hl s&&!Hl (Tl s x) then(Wa,9) else(Tl s x,0)
end Go.Mz
