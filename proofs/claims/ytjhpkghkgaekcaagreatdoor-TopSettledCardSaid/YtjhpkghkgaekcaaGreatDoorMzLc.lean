/- Lemmas on which the claim leans. -/
import Derived.Test.YtjhpkghkgaekcaaGreatDoorMzLb
import Derived.Laws.Strings2
set_option maxRecDepth 100000
namespace Go.Mz
open Go.Conc
abbrev str(l:List UInt8):Value:=.string ⟨⟨l⟩⟩
theorem SW(a b:List UInt8):(ByteArray.mk ⟨a⟩++ByteArray.mk ⟨b⟩)=ByteArray.mk ⟨a++b⟩:=by
 apply ByteArray.ext;rw[ByteArray.data_append];simp
section
variable {P:Program}[S:Seat P]{E:a8}{B:List (Option Bx)}{L:LH}{t t2:TypeId}{x y:Operand}{ti:TI}{l r:List UInt8}
omit S in
theorem Vf.cat(hx:aL E x=some (.v (str l)))(hy:aL E y=some (.v (str r)))(h:l.length+r.length≤4611686018427387904):Vf P (.binOp .add t x y t2) E B L (.v (str (l++r))):=fun T R β hE _ _=>by
 have ex:=(Option.some.inj (hE.val hx)).symm;have ey:=(Option.some.inj (hE.val hy)).symm;refine⟨_,rfl,fun ty dst pos af gd Q H hq=>?_⟩;simp only[execOp,ex,ey];rw[ae,ae];show az P _ H (if((ByteArray.size ⟨⟨l⟩⟩+ByteArray.size ⟨⟨r⟩⟩:Nat):Int)>IntKind.i64.max then _ else pure (Value.string (ByteArray.mk ⟨l⟩++ByteArray.mk ⟨r⟩))) R;have h1:(ByteArray.size ⟨⟨l⟩⟩+ByteArray.size ⟨⟨r⟩⟩:Nat)=l.length+r.length:=rfl;have h2:IntKind.i64.max=9223372036854775807:=rfl;rw[h1,h2,if_neg (by omega),SW];exact hq
theorem Vf.SU{i:Nat}{j:Int}{k:IntKind}{b:UInt8}(hx:aL E x=some (.v (str l)))(hy:aL E y=some (.v (.int k j)))(ht:S.τ.find t=some ti)(hd:ti.d=.text)(hj:j=(i:Int))(hi:l[i]?=some b):Vf P (.index t x y) E B L (.v (mR b)):=fun T R β hE _ _=>by
 have ex:=(Option.some.inj (hE.val hx)).symm;have ey:=(Option.some.inj (hE.val hy)).symm;have hu:=(TT.aD S.ok ht).d;rw[hd] at hu;subst hj;refine⟨_,rfl,fun ty dst pos af gd Q H hq=>?_⟩;simp only[execOp,ex,ey];rw[ae];unfold Instr.index;rw[ae];show az P _ H (underlying t>>= _) R;rw[ae,ao hu];simp only;have h0:(0:Int)≤(i:Int):=by omega
 have hg:(ByteArray.mk ⟨l⟩)[((i:Int)).toNat]?=some b:=by
  rw[Int.toNat_natCast];obtain⟨hl,hg⟩:=List.getElem?_eq_some_iff.1 hi;show(if h:i<(ByteArray.mk ⟨l⟩).size then some ((ByteArray.mk ⟨l⟩)[i]'h) else none)=some b;rw[dif_pos (show i<(ByteArray.mk ⟨l⟩).size from hl)];show some (l[i])=some b;rw[hg]
 rw[if_pos h0,hg];exact hq
omit S in
theorem xl{lo hi:Option Value}{n i j:Nat}{Q:Nat×Nat×Nat→LH→Prop}{H:Value→LH→Prop}{R:LH}(h1:(hi=none∧n=j)∨∃k,hi=some (.int k (j:Int)))(h2:(lo=none∧i=0)∨∃k,lo=some (.int k (i:Int)))(lJ:i≤j)(hj:j≤n):az P Q H (Instr.sliceBounds false n n lo hi none) R=Q (i,j,n) R:=by
 unfold Instr.sliceBounds;rcases h1 with⟨rfl,rfl⟩ | ⟨k1,rfl⟩ <;> rcases h2 with⟨rfl,rfl⟩ | ⟨k2,rfl⟩
 ·simp only;rw[ae,ar,ae,ar,ae,ar,ar]
 ·simp only;rw[ae,ar,ae,ar,ae,cX (by omega),Int.toNat_natCast,ar]
 ·simp only;rw[ae,ar,ae,cX (by omega),Int.toNat_natCast,ae,ar,ar]
 ·simp only;rw[ae,ar,ae,cX (by omega),Int.toNat_natCast,ae,cX (by omega),Int.toNat_natCast,ar]
def FA(E:a8)(o:Option Operand)(d:Int):Option Int:=match o with
 | none=>some d
 | some x=>match aL E x with | some (.v (.int _ j))=>some j | _=>none
theorem Vf.xh{lo hi:Option Operand}{i j:Nat}{i' j':Int}(hx:aL E x=some (.v (str l)))(ht:S.τ.find t=some ti)(hd:ti.d=.text)(pI:FA E lo 0=some i')(Ei:FA E hi l.length=some j')(ei:i'=(i:Int))(ej:j'=(j:Int))(lJ:i≤j)(hj:j≤l.length):Vf P (.slice t x lo hi none) E B L (.v (str ((l.drop i).take (j - i)))):=fun T R β hE _ _=>by
 have ex:=(Option.some.inj (hE.val hx)).symm;have hu:=(TT.aD S.ok ht).d;rw[hd] at hu;subst ei ej;refine⟨_,rfl,fun ty dst pos af gd Q H hq=>?_⟩;simp only[execOp,ex,Option.map_none];rw[ae];unfold Instr.sliceAt;rw[ae,ao hu];simp only;unfold Instr.slice;rw[ae,ao hu];simp only[Option.isSome_none,Bool.false_eq_true,if_false];rw[ae];have key:∀(o:Option Operand) (d j':Int) (k:Nat),FA E o d=some j'→j'=(k:Int)→(o.map (ev T)=none∧d=k)∨∃kk,o.map (ev T)=some (.int kk (k:Int)):=by
  intro o d j' k h e;subst e;cases o with
  | none=>exact .inl ⟨rfl,Option.some.inj h⟩
  | some z=>
   unfold FA at h;simp only at h
   split at h
   ·rename_i kk q hz;cases h;exact .inr ⟨kk,by rw[Option.map_some,(Option.some.inj (hE.val hz)).symm]⟩
   ·cases h
 rw[show(ByteArray.mk ⟨l⟩).size=l.length from rfl];rw[xl (i:=i) (j:=j) ((key _ _ _ _ Ei rfl).imp (fun h=>⟨h.1,by omega⟩) id) ((key _ _ _ _ pI rfl).imp (fun h=>⟨h.1,by omega⟩) id) lJ hj];have e:(ByteArray.mk ⟨l⟩).extract i j=ByteArray.mk ⟨(l.drop i).take (j - i)⟩:=ByteArray.extract_mk l i j;simp only;rw[e];exact hq
end
section
variable {P:Program}[S:Seat P]{C:Cx P}{E:a8}{B:List (Option Bx)}{L:LH}{dst:Option Tmp}{ty:TypeId}{pos:String}{af:Array Edge}{gd:Option (Nat×Bool)}
theorem Ef.Lp{t:TypeId}{x:Operand}{ti:TI}{l:List UInt8}(hx:aL E x=some (.v (str l)))(ht:S.τ.find t=some ti)(hd:ti.d=.text):
  Ef C ⟨dst,.range t x,ty,pos,af,gd⟩ E B L (fun sv B' L'=>∃q,sv=.v (.pointer (some ⟨q,0,none⟩))∧B'=B∧L q=none∧L'=L.put q (.stringIter ⟨⟨l⟩⟩ 0)):=by
 intro T R β hE hH;have ex:=(Option.some.inj (hE.val hx)).symm;have hu:=(TT.aD S.ok ht).d;rw[hd] at hu;refine⟨rfl,?_⟩;simp only[execOp,ex];rw[ae];unfold Instr.range;rw[ae,ao hu];simp only;rw[ae,ar,ae,nT];intro q hq;rw[ar,ar];exact⟨_,B,_,⟨q,rfl,rfl,(hH.free hq).1,rfl⟩,rfl,hH.vw hq _,fun _ _=>rfl⟩
omit [Seat P] in
theorem Ef.wS{y:Operand}{q p:Nat}{s:ByteArray}(hy:aL E y=some (.v (.pointer (some ⟨q,0,none⟩))))(hq:L q=some (.stringIter s p,true)):
  Ef C ⟨dst,.next y true,ty,pos,af,gd⟩ E B L (fun sv B' L'=>B'=B∧((p<s.size∧sv=.v (.tuple #[.bool true,.int .i64 p,.int .i32 (Utf8.decode s p).1])∧L'=L.put q (.stringIter s (p+(Utf8.decode s p).2)))∨(s.size≤p∧sv=.v (.tuple #[.bool false])∧L'=L))):=by
 intro T R β hE hH;have ey:=(Option.some.inj (hE.val hy)).symm;have hR:=hH.le _ _ hq;refine⟨rfl,?_⟩;simp only[execOp,ey];rw[ae];unfold Instr.next;simp only;rw[ae];show az P _ _ (.getObj q .pure) R;unfold az;rw[hR];simp only[ic,Bool.false_eq_true,if_false];show az P _ _ _ R;simp only[pure,az]
 by_cases h:p<s.size
 ·rw[if_pos h];show az P _ _ (setObj q _>>= _) R;rw[ae,eO hR rfl rfl];exact⟨_,B,_,⟨rfl,.inl ⟨h,rfl,rfl⟩⟩,rfl,hH.m9 hq (aj _ _ _) (fun b' bG=>au R _ bG),fun _ _=>rfl⟩
 ·rw[if_neg h];exact⟨_,B,L,⟨rfl,.inr ⟨by omega,rfl,rfl⟩⟩,rfl,hH,fun _ _=>rfl⟩
end
theorem tn{l:List UInt8}{p:Nat}{b:UInt8}(h:l[p]?=some b)(hb:b.toNat<128):Utf8.decode ⟨⟨l⟩⟩ p=(b.toNat,1):=by
 obtain⟨hl,hg⟩:=List.getElem?_eq_some_iff.1 h;have e:((ByteArray.mk ⟨l⟩).get! (p+0)).toNat=b.toNat:=by
  show((⟨l⟩:Array UInt8)[p+0]!).toNat=_;rw[Nat.add_zero,getElem!_pos (⟨l⟩:Array UInt8) p hl];show(l[p]).toNat=_;rw[hg]
 unfold Utf8.decode;simp only[e];rw[if_pos (by omega)]
section
variable {P:Program}[S:Seat P]{C:Cx P}{E:a8}{B:List (Option Bx)}{L:LH}{dst:Option Tmp}{ty:TypeId}{pos:String}{af:Array Edge}{gd:Option (Nat×Bool)}
theorem Ef.Yn{ts tx e e2:TypeId}{ti te:TI}{x y:Operand}{b off dl dc m:Nat}{c:Array Value}{vs:List Value}(hx:aL E x=some (.v (.slice (some ⟨b,off,none⟩) dl dc)))(tR:S.τ.find ts=some ti)(hd:ti.d=.slice e)(he:S.τ.find e=some te)(hy:YC E B L te.size y m vs)(hm:m≤dl)
  (hb:L b=some (.cells c e2 (0,0),true))(hl:off+vs.length≤c.size)(hs:∀u∈vs,single u=true):
  Ef C ⟨dst,.call {callee:=.builtin .copy,args:=#[x,y],argTypes:=#[ts,tx]},ty,pos,af,gd⟩ E B L (fun sv B' L'=>sv=.v (.int .i64 m)∧B'=B∧L'=L.put b (.cells (db c off vs) e2)):=by
 intro T R β hE hH;have ex:=(Option.some.inj (hE.val hx)).symm;obtain⟨BF,hlen,nH⟩:=hy.first (P:=P) hE hH.boxes hH.le;have i1:=(TT.aD S.ok tR).d;rw[hd] at i1;refine⟨rfl,?_⟩;simp only[execOp,resolve,List.map_toArray,List.map_cons,List.map_nil,ex,pure,Sem.bind,bind,invoke,builtin];show az P _ _ (Builtin.copy_ _ _ _>>= fun u=>pure (Next.value u)) R;rw[ae];unfold Builtin.copy_;simp only[List.getElem?_toArray,List.getElem?_cons_zero,List.getElem?_cons_succ];rw[ae,ao i1];simp only;rw[ae,hlen,ae,bL (TT.aD S.ok he).size,ae];rw[show Nat.min m dl=m from Nat.min_eq_left hm];refine nH _ _ ?_;simp only;rw[ae];refine fL (e:=e2) vs 0 c R (hH.le _ _ hb) (by omega) hs (fun R' h1 h2=>?_);rw[Nat.add_zero] at h1;exact⟨.v (.int .i64 m),B,_,⟨rfl,rfl,rfl⟩,rfl,hH.m9 hb h1 h2,fun _ _=>rfl⟩
theorem Ef.vN{t e:TypeId}{x y:Operand}{ti:TI}{ad:Addr}{b off:Nat}{c:Array Value}{v:Value}(hx:aL E x=some (.v (.pointer (some ad))))(hy:∃s,aL E y=some s∧den dr s=some v)(ht:S.τ.find t=some ti)(ha:ad=⟨b,off,none⟩)(hb:L b=some (.cells c e (0,0),true))(hn:v.cells.size=ti.size)(hl:off+ti.size≤c.size)
  (hs:∀u∈v.cells.toList,single u=true):Ef C ⟨dst,.store t x y,ty,pos,af,gd⟩ E B L (xu (L.put b (.cells (db c off v.cells.toList) e)) B):=by
 subst ha;exact Ef.gn hx hy ht hb hn hl hs
end
theorem CV:∀{c b:List SV},c.length=b.length→sQ b 0 c=c
 | [],[],_=>rfl
 | [],_::_,h=>by simp at h
 | _::_,[],h=>by simp at h
 | x::c,y::b,h=>by
  show x::sQ b 0 c=x::c;rw[CV (by simpa using h)]
theorem C6:∀{vs:List Value},(∀u∈vs,single u=true)→AH (vs.map .v)=true
 | [],_=>rfl
 | x::vs,h=>by
  have h1:=h x List.mem_cons_self;have h2:=C6 (vs:=vs) fun u hu=>h u (List.mem_cons_of_mem _ hu);rw[List.map_cons];unfold AH;rw[show JN (.v x)=true from h1,h2]
section
variable {P:Program}[S:Seat P]{C:Cx P}{n:Nat}{k:List Item}{E:Env}{B:List (Option Bx)}{L:LH}
theorem Ef.acU{dst:Option Tmp}{ty:TypeId}{pos:String}{af:Array Edge}{gd:Option (Nat×Bool)}{Eo:a8}{t:TypeId}{x y:Operand}{ti:TI}{kk:Nat}{bt:TypeId}{vs:List Value}{cells:List SV}(hx:aL Eo x=some (.p kk 0))(hy:aL Eo y=some (.v (.agg vs.toArray)))(ht:S.τ.find t=some ti)(hb:nth B kk=some (some ⟨cells,bt⟩))(h1:vs.length=ti.size)(h2:cells.length=ti.size)(h3:∀u∈vs,single u=true):
  Ef C ⟨dst,.store t x y,ty,pos,af,gd⟩ Eo B L (xu L (B.set kk (some ⟨vs.map .v,bt⟩))):=
 Ef.Hx hx hy ht hb (by show(Value.agg vs.toArray).cells.toList.map SV.v=vs.map SV.v;rfl) (by rw[List.length_map,h1]) (by omega) (C6 h3) (CV (by rw[List.length_map,h1,h2]))
theorem W.VN{fn:Func}{Q:Value→LH→Prop}{H:List PanicEntry→LH→Prop}{a:Tmp}{t:TypeId}{kk:Nat}{bx:Bx}{vs:List Value}{ti:TI}(r:Rt C fn Q H)(zN:fn.results=#[.cell a t])(ha:get E a=some (.p kk 0))(hb:nth B kk=some (some bx))(hc:bx.cells=vs.map .v)(ht:S.τ.find t=some ti)(hg:ti.agg=true)(hn:vs.length=ti.size)(hq:Q (.agg vs.toArray) L):W C n [] (.code .ret::k) E B L:=by
 refine W.out r.ro (.inr .ret) (WM.Sn r (v:=.agg vs.toArray) (fun T R β hE hB hL=>?_) hq);obtain⟨b,h1,h2⟩:=lV (hE a _ ha);obtain⟨cs,h3,h4⟩:=hB kk b bx h1 (by rw[←bU];exact hb);rw[hc,gK] at h3;cases h3;unfold results;rw[zN,ae,Array.mapM_eq_mapM_toList];simp only[List.mapM_cons,List.mapM_nil];rw[A9,ae];simp only[h2];rw[ae,nS,lF (n:=ti.size) (vs:=vs) (by rw[(TT.aD S.ok ht).agg,hg]) (TT.aD S.ok ht).size ⟨hn,fun i v hi=>by rw[cK,Nat.zero_add];exact ay h4 (by rw[List.getElem?_toArray];exact hi)⟩];exact⟨rfl,rfl⟩
end
theorem W.A4{P:Program}{C:Cx P}{n:Nat}{ds:List Deferred}{k:List Item}{E:Env}{B:List (Option Bx)}{L:LH}(s:Nat){b:Bool}(hs:get E s=some (.lit b))(w:W C n ds k ((s,.v (.bool b))::E) B L):W C n ds k E B L:=fun T R β hT hE hH=>
 w T R β hT (fun s' x hx=>by
  rw[bD] at hx
  by_cases e:s=s'
  ·subst e;rw[if_pos rfl] at hx;cases hx;exact(hE s (.lit b) hs:den β (.lit b)=_)
  ·rw[if_neg e] at hx;exact hE s' x hx) hH
end Go.Mz
namespace Go.Mz
open Go.Conc
section
variable {P:Program}{R:LH}{H:Value→LH→Prop}
theorem E8{ts tx e:TypeId}{k tc len m:Nat}{cs vs:List Value}{v yv z:Value}{ty:TypeId}{Q:Value→LH→Prop}(tR:P.underlying ts=some (.slice e))(hk:(P.info? e).map (·.size)=some k)(u9:(P.info? e).map (·.bytes)=some tc)(hz:(P.info? e).bind (·.zero)=some z)(Z2:z.cells.size=k)(tU:ON P tx)
  (hv:∃ad,v=.slice ad len len)(ho:dE P R k len v cs)(hy:dE P R k m yv vs)(hm:0<m)(h0:0<tc)(hb:(2 * (len+m)+1024) *tc≤2 ^ 48)
  (hq:∀b c cap,R b=none→dt (R.put b (.cells c e)) k e (.slice (some ⟨b,0,none⟩) (len+m) cap) (len+m) (cs++vs) (some b)→Q (.slice (some ⟨b,0,none⟩) (len+m) cap) (R.put b (.cells c e))):az P Q H (Builtin.append_ #[ts,tx] ty #[v,yv]) R:=by
 obtain⟨BF,hlen,nH⟩:=hy;obtain⟨ad,rfl⟩:=hv;obtain⟨jR,_,hof⟩:=ho;unfold Builtin.append_;simp only[List.getElem?_toArray,List.getElem?_cons_zero,List.getElem?_cons_succ];rw[ae,ao tR];simp only;rcases tU with⟨e2,tU⟩ | tU
 all_goals
  rw[ae,bL hk,ae,ao tU,ae,ar];simp only[Bool.false_eq_true,if_false,Bool.not_false,if_true];rw[ae,hlen];have Cs:¬(len+m≤len):=by omega
  rw[if_neg Cs];obtain⟨inf,vg,yr⟩:∃inf,P.info? e=some inf∧inf.bytes=tc:=by
   cases hx:P.info? e with
   | none=>rw[hx] at u9;cases u9
   | some i=>rw[hx] at u9;cases u9;exact⟨i,rfl,rfl⟩
  have sz:¬(inf.bytes=0):=by omega
  rw[ae,dW vg,if_neg (by simp[sz]),ae,dW vg];have qg:=xM (need:=len+m) (old:=len) (by omega);have hle:Builtin.nextslicecap (len+m) len *inf.bytes≤2 ^ 48:=Nat.le_trans (by rw[yr];exact Nat.mul_le_mul_right _ qg) hb;rw[if_neg (by omega),ae,lR];intro EB IS;obtain⟨r,rfl⟩:∃r,EB=len+m+r:=by
   unfold j4 at IS;simp only[Question.forced,Bool.false_eq_true,if_false,Question.cut] at IS;obtain⟨t,ht⟩:=IS;exact⟨_,ht⟩
  rw[ae,dW vg,ae];refine mF ?_;rw[ae];refine hof _ _ ?_;rw[ae];refine nH _ _ ?_;rw[ae,dA hz,ae,fW];intro b bG;rw[ar];refine hq b _ _ bG ⟨len+m+r,_,rfl,aj _ _ _,?_,by omega,by rw[List.length_append,jR,BF,Nat.add_mul],fun i x hx=>?_⟩
  ·simp only[Builtin.zeroCells,Array.size_append,List.size_toArray,Array.size_map,Array.size_range,jR,BF,Z2];rw[show len+m+r - (len+m)=r by omega,Nat.add_mul,Nat.add_mul]
  ·have aU:=(List.getElem?_eq_some_iff.1 hx).1;rw[←Array.getElem?_toList,Array.toList_append,Array.toList_append,List.getElem?_append_left (by simpa using aU)];exact hx
end
section
variable {P:Program}[S:Seat P]{C:Cx P}{E:a8}{B:List (Option Bx)}{L:LH}{dst:Option Tmp}{ty:TypeId}{pos:String}{af:Array Edge}{gd:Option (Nat×Bool)}
def aaP{α:Type}(B:List (Option Bx))(L:LH)(k:Nat)(e:TypeId)(enc:α→List Value)(l:List α)(sv:SV)(B':List (Option Bx))(L':LH):Prop:=
 ∃b c cap,sv=.v (.slice (some ⟨b,0,none⟩) l.length cap)∧B'=B∧L b=none∧L'=L.put b (.cells c e)∧dt L' k e (.slice (some ⟨b,0,none⟩) l.length cap) l.length (l.flatMap enc) (some b)
theorem Ef.WB{α:Type}{enc:α→List Value}{l ls:List α}{ts tx e:TypeId}{ti te HD:TI}{ad:Option Addr}{x y:Operand}(hx:aL E x=some (.v (.slice ad l.length l.length)))(tR:S.τ.find ts=some ti)(hd:ti.d=.slice e)(he:S.τ.find e=some te)(tU:S.τ.find tx=some HD)(iM:LC HD.d=true)(hz:te.z.cells.size=te.size)
  (h0:Nat.blt 0 te.bytes=true)(h1:Nat.ble te.bytes 1024=true)(hk:∀x,(enc x).length=te.size)(hl:aX L ad te.size enc l)(hy:YC E B L te.size y ls.length (ls.flatMap enc))(hls:0<ls.length)(hlen:l.length+ls.length≤1073741824):
  Ef C ⟨dst,.call {callee:=.builtin .append,args:=#[x,y],argTypes:=#[ts,tx]},ty,pos,af,gd⟩ E B L (aaP B L te.size e enc (l++ls)):=by
 intro T R β hE hH;have ex:ev T x=.slice ad l.length l.length:=(Option.some.inj (hE.val hx)).symm;have fy:=hy.first (P:=P) hE hH.boxes hH.le;have fx:dE P R te.size l.length (.slice ad l.length l.length) (l.flatMap enc):=by
  cases ad with
  | none=>
   cases l with
   | nil=>exact dE.nil
   | cons x l=>obtain⟨a,h1⟩:=hl.addr (i:=0) (by simp);cases h1
  | some a=>exact dE.at (hH.le.cH (hl.cells hk))
 have i1:=(TT.aD S.ok tR).d;rw[hd] at i1;have i2:=J7 (TT.aD S.ok tU).d iM;have ie:=TT.aD S.ok he;refine⟨rfl,?_⟩;simp only[execOp,resolve,List.map_toArray,List.map_cons,List.map_nil,ex,pure,Sem.bind,bind,invoke,builtin];show az P _ _ (Builtin.append_ _ _ _>>= fun u=>pure (Next.value u)) R;rw[ae];refine E8 i1 ie.size ie.bytes ie.zero hz i2 ⟨_,rfl⟩ fx fy hls (Nat.le_of_ble_eq_true h0) ?_ fun b c cap hb ho=>?_
 ·have:=Nat.le_of_ble_eq_true h1;have h2:2 * (l.length+ls.length)+1024≤2147484672:=by omega
  exact Nat.le_trans (Nat.mul_le_mul h2 this) (by decide)
 ·rw[ar];have M7:=(hH.free hb).1;have nI:dt (L.put b (.cells c e)) te.size e (.slice (some ⟨b,0,none⟩) (l++ls).length cap) (l++ls).length ((l++ls).flatMap enc) (some b):=by
   rw[List.length_append,List.flatMap_append];exact ho.keep fun b' bG=>by cases bG;rw[aj,aj]
  exact⟨.v (.slice (some ⟨b,0,none⟩) (l.length+ls.length) cap),B,L.put b (.cells c e),⟨b,c,cap,by rw[List.length_append],rfl,M7,rfl,nI⟩,rfl,hH.vw hb _,fun _ _=>rfl⟩
end
section
variable {P:Program}{α:Type}
variable {X:ax P}{yv:Value}{Rel:α→List Value→LH→Prop}{xs:List α}{K:LH→Prop}{J:List α→LH→Prop}{Z:LH→Prop}{F L L2:LH}{pre:List α}
end
section
variable {P:Program}{α:Type}{C:Cx P}{n:Nat}{ds:List Deferred}{k:List Item}{E:Env}{B:List (Option Bx)}{L:LH}
end
end Go.Mz
set_option maxRecDepth 100000
namespace Go.Mz
open Go.Conc Go.Proofs
def bK(l:List Nat):List Int:=l.map fun(n:Nat)=>(n:Int)
theorem aV(x:Int):(cj x).length=1:=rfl
theorem iF(x:Int):∀u∈cj x,single u=true:=fun u hu=>by cases List.mem_singleton.1 hu;rfl
theorem DT{L:LH}{b:Nat}{vs:List Value}{e:TypeId}{fz:Nat×Nat}{wr:Bool}(h:L b=some (.cells vs.toArray e fz,wr)):cH L ⟨b,0,none⟩ vs.length vs:=
 ⟨rfl,fun i v hv=>by rw[cK,Nat.zero_add];exact ay h (by rw[List.getElem?_toArray];exact hv)⟩
theorem gN{L:LH}{b n:Nat}{vs:List Value}{e:TypeId}{fz:Nat×Nat}{wr:Bool}(h:L b=some (.cells vs.toArray e fz,wr))(hn:vs.length=n):cH L ⟨b,0,none⟩ n vs:=hn▸DT h
abbrev pt(b:Nat):Value:=.pointer (some ⟨b,0,none⟩)
theorem W.abf{P:Program}{C:Cx P}{n:Nat}{ds:List Deferred}{a:Item}{k:List Item}{E:Env}{B:List (Option Bx)}{L:LH}(J:Env→List (Option Bx)→LH→Prop)(hJ:∀E B L,J E B L→W C n ds k E B L)(h:(∀E' B' L',J E' B' L'→W C n ds k E' B' L')→W C n ds (a::k) E B L):W C n ds (a::k) E B L:=h hJ
abbrev Rf:=Option Addr×Nat×Nat
abbrev slV(r:Rf):Value:=.slice r.1 r.2.1 r.2.2
theorem cE{α:Type}{L:LH}{b:Nat}{l:List α}{k:Nat}{e:TypeId}{enc:α→List Value}(hk:∀x,(enc x).length=k)(h:L b=some (.cells (l.flatMap enc).toArray e (0,0),true)):aX L (some ⟨b,0,none⟩) k enc l:=by
 have hl:∀l:List α,(l.flatMap enc).length=l.length *k:=fun l=>by
  induction l with
  | nil=>simp
  | cons a l ih=>rw[List.flatMap_cons,List.length_append,hk,ih,List.length_cons,Nat.succ_mul];omega
 exact dt.at (e:=e) (len:=l.length) (cap:=l.length) (ob:=some b) ⟨l.length,(l.flatMap enc).toArray,rfl,h,by simp[hl],Nat.le_refl _,hl l,fun i x hx=>by simpa using hx⟩ hk
theorem W.cY{P:Program}{C:Cx P}{n:Nat}{ds:List Deferred}{k:List Item}{E:Env}{B:List (Option Bx)}{L:LH}(s:Nat){sv:SV}{p:Bool}(hs:get E s=some sv)(hb:rJ sv=some p)(w:W C n ds k ((s,.lit p)::E) B L):W C n ds k E B L:=
 W.bool s hs hb (fun e=>by rw[e] at w;exact w) (fun e=>by rw[e] at w;exact w)
abbrev Rw(α:Type):=Rf×List α
def zt{α:Type}(x:Rw α):List Value:=[slV x.1]
theorem Ip{α:Type}(x:Rw α):(zt x).length=1:=rfl
structure Kn{α:Type}(L:LH)(k:Nat)(enc:α→List Value)(x:Rw α):Prop where
 sl:aX L x.1.1 k enc x.2
 len:x.1.2.1=x.2.length
 cap:x.2.length≤x.1.2.2
theorem Kn.le{α:Type}{L L':LH}{k:Nat}{enc:α→List Value}{x:Rw α}(h:Kn L k enc x)(hl:Le L L'):Kn L' k enc x:=⟨h.sl.le hl,h.len,h.cap⟩
def ll{α:Type}(L:LH)(ad:Option Addr)(k:Nat)(enc:α→List Value)(ls:List (List α)):Prop:=∃rs:List (Rw α),rs.map Prod.snd=ls∧aX L ad 1 zt rs∧∀x∈rs,Kn L k enc x
section
variable {β:Type}{F F' I L L' L2:LH}{e k:Nat}{enc:β→List Value}{v:Value}{l:List β}
end
section
variable {α:Type}{I L L':LH}{e k:Nat}{enc:α→List Value}{v:Value}{ls:List (List α)}
theorem ll.le{ad:Option Addr}(h:ll L ad k enc ls)(hl:Le L L'):ll L' ad k enc ls:=let⟨rs,h1,h2,h3⟩:=h;⟨rs,h1,h2.le hl,fun x hx=>(h3 x hx).le hl⟩
theorem ll.addr{ad:Option Addr}(h:ll L ad k enc ls){i:Nat}(hi:i<ls.length):∃a,ad=some a:=by
 obtain⟨rs,rfl,h2,_⟩:=h;exact h2.addr (by simpa using hi)
theorem ll.row{ad:Addr}(h:ll L (some ad) k enc ls){i:Nat}{l:List α}(hl:ls[i]?=some l):∃a c,L.cell? (ad.add i)=some (.slice a l.length c)∧aX L a k enc l∧l.length≤c:=by
 obtain⟨rs,rfl,h2,h3⟩:=h;rw[List.getElem?_map] at hl;obtain⟨⟨⟨a,n,c⟩,l'⟩,hx,rfl⟩:=Option.map_eq_some_iff.1 hl;have hk:=h3 _ (List.mem_of_getElem? hx);have hn:n=l'.length:=hk.len;subst hn;refine⟨a,c,?_,hk.sl,hk.cap⟩;have:=h2.get hx (j:=0) (v:=slV (a,l'.length,c)) rfl
 simpa using this
end
section
variable {P:Program}{E:a8}{B:List (Option Bx)}{L:LH}
end
variable {X:ax Tryz.prog}
def di(x:bV):List Value:=[.int .i64 x.lo,.int .i64 x.hi]
def wz(x:nX):List Value:=[.int .i64 x.gV,.int .i64 x.tick,.int .i64 x.r7]
theorem gQ(x:bV):(di x).length=2:=rfl
theorem Io(x:nX):(wz x).length=3:=rfl
theorem oJ(x:bV):∀u∈di x,single u=true:=fun u hu=>by
 simp only[di,List.mem_cons,List.not_mem_nil,or_false] at hu;rcases hu with rfl | rfl <;> rfl
structure BP where
 a0:Option Addr
 a1:Option Addr
 a2:Option Addr
 a3:Option Addr
 a4:Option Addr
 c0:Nat
 c1:Nat
 c2:Nat
 c3:Nat
 c4:Nat
abbrev Fz(b:Bl)(p:BP):List Value:=[.slice p.a0 b.gw.length p.c0,.slice p.a1 b.ir.length p.c1,.slice p.a2 b.marks.length p.c2,.slice p.a3 b.lZ.length p.c3,.slice p.a4 b.proofs.length p.c4]
abbrev Bj(b:Bl)(p:BP):Value:=.agg (Fz b p).toArray
structure ny(L:LH)(b:Bl)(p:BP):Prop where
 h0:aX L p.a0 2 di b.gw
 h1:aN L p.a1 b.ir
 h2:aN L p.a2 b.marks
 h3:aX L p.a3 2 di b.lZ
 h4:aX L p.a4 3 wz b.proofs
 n0:b.gw.length≤1000000
 n1:b.ir.length≤1000000
 n2:b.marks.length≤1000000
 n3:b.lZ.length≤1000000
 n4:b.proofs.length≤1000000
 k4:b.proofs.length≤p.c4
theorem ny.le{L L':LH}{b:Bl}{p:BP}(h:ny L b p)(hl:Le L L'):ny L' b p:=⟨h.h0.le hl,h.h1.le hl,h.h2.le hl,h.h3.le hl,h.h4.le hl,h.n0,h.n1,h.n2,h.n3,h.n4,h.k4⟩
theorem lj(n lo hi:Int)(L:LH):Sp X 126 [.int .i64 n,.int .i64 lo,.int .i64 hi] L (fun v L'=>v=.bool (bq n lo hi)∧L=L'):=by
 refine Sp.enter (n:=15) Tryz.func126 rfl rfl rfl rfl fun C hX _ aG r=>?_;refine W.go 99 rfl ?_;refine W.split rfl rfl rfl (fun c=>?_) (fun c=>?_)
 ·refine W.go 99 rfl ?_;exact W.ret r rfl rfl ⟨by unfold bq;rw[c];rfl,rfl⟩
 ·refine W.go 99 rfl ?_;exact W.ret r rfl rfl ⟨by unfold bq;rw[c];rfl,rfl⟩
theorem DU(s:bV)(m:Int)(L:LH):Sp X 214 [.agg (di s).toArray,.int .i64 m] L (fun v L'=>v=.int .i64 (eE s m)∧L=L'):=by
 refine Sp.enter (n:=22) Tryz.func214 rfl rfl rfl rfl fun C hX _ aG r=>?_;refine W.go 99 rfl ?_;refine W.aB rfl rfl rfl (Ef.call rfl (lj _ _ _ _)) ?_;rintro _ _ _ ⟨_,rfl,rfl,rfl,rfl⟩;refine W.go 99 rfl ?_;refine W.split rfl rfl rfl (fun c1=>?_) (fun c1=>?_)
 ·refine W.go 99 rfl ?_;exact W.ret r rfl rfl ⟨by unfold eE;rw[if_pos (by simp at c1;simp[c1])];rfl,rfl⟩
 refine W.go 99 rfl ?_;refine W.aB rfl rfl rfl (Ef.call rfl (lj _ _ _ _)) ?_;rintro _ _ _ ⟨_,rfl,rfl,rfl,rfl⟩;refine W.go 99 rfl ?_;refine W.split rfl rfl rfl (fun c2=>?_) (fun c2=>?_)
 ·refine W.go 99 rfl ?_;exact W.ret r rfl rfl ⟨by unfold eE;rw[if_pos (by simp at c1 c2;simp[c1,c2])];rfl,rfl⟩
 refine W.go 99 rfl ?_;refine W.split rfl rfl rfl (fun c3=>?_) (fun c3=>?_)
 ·refine W.go 99 rfl ?_;exact W.ret r rfl rfl ⟨by unfold eE;rw[if_neg (by simp at c1 c2;simp[c1,c2]),if_pos (by simpa using c3)];rfl,rfl⟩
 ·refine W.go 99 rfl ?_;exact W.ret r rfl rfl ⟨by unfold eE;rw[if_neg (by simp at c1 c2;simp[c1,c2]),if_neg (by simpa using c3)];rfl,rfl⟩
theorem sJ(ad:Option Addr)(cp:Nat)(l:List bV)(many m:Int)(L:LH)(hl:aX L ad 2 di l)(hn:l.length≤1000000):Sp X 162 [.slice ad l.length cp,.int .i64 many,.int .i64 m] L (fun v L'=>v=.int .i64 (dq l many m)∧L=L'):=by
 refine Sp.enter (n:=33) Tryz.func162 rfl rfl rfl rfl fun C hX _ aG r=>?_;refine W.go 99 rfl ?_;refine W.split rfl rfl rfl (fun c1=>?_) (fun c1=>?_)
 ·refine W.go 99 rfl ?_;exact W.ret r rfl rfl ⟨by unfold dq bA;simp at c1;simp[c1,o9],rfl⟩
 refine W.go 99 rfl ?_;refine W.split rfl rfl rfl (fun c2=>?_) (fun c2=>?_)
 ·refine W.go 99 rfl ?_;exact W.ret r rfl rfl ⟨by unfold dq bA;simp at c1 c2;rw[if_neg (show¬((l.length:Int)<1) by omega),if_pos (show many<(l.length:Int) by omega)];rfl,rfl⟩
 refine W.go 99 rfl ?_;have hs:bA l.length 1 many=0:=by unfold bA;simp at c1 c2;rw[if_neg (by omega),if_neg (by omega)]
 refine W.loop (fun m' E B L'=>∃i:Nat,m'=l.length - i∧i≤l.length∧fq m (l.drop i)=fq m l∧E=[(2,.v (.int .i64 m)),(20,.v (.slice ad l.length cp)),(21,.v (.int .i64 l.length)),(22,.v (.int .i64 i))]∧B=[]∧L=L')
  ⟨0,rfl,by omega,by simp,rfl,rfl,rfl⟩ ⟨rfl,rfl,rfl,rfl,trivial⟩ trivial ?_
 rintro _ _ _ _ ⟨i,rfl,h1,hg,rfl,rfl,rfl⟩ again;refine W.go 99 rfl ?_;refine W.split rfl rfl rfl (fun d1=>?_) (fun d1=>?_)
 ·refine W.go 99 rfl ?_;have hi:i<l.length:=by simpa using d1
  have hd:=List.drop_eq_getElem_cons hi;obtain⟨a,rfl⟩:=hl.addr hi;refine W.vf rfl rfl rfl rfl (Vf.idx rfl rfl rfl rfl rfl rfl (hi)) ?_;refine W.go 99 rfl ?_;refine W.vf rfl rfl rfl rfl (Vf.cO rfl rfl rfl (hl.whole (List.getElem?_eq_getElem hi) rfl)) ?_;refine W.go 99 rfl ?_;refine W.aB rfl rfl rfl (Ef.call rfl (DU _ _ _)) ?_;rintro _ _ _ ⟨_,rfl,rfl,rfl,rfl⟩;refine W.go 99 rfl ?_;refine W.split rfl rfl rfl (fun d2=>?_) (fun d2=>?_)
  ·refine W.go 99 rfl ?_;exact W.ret r rfl rfl ⟨by unfold dq;rw[if_neg (by simp[hs]),←hg,hd,fq,if_pos (by simpa using d2)];rfl,rfl⟩
  ·refine W.go 99 rfl ?_;exact W.again (again _ _ _ _ (by omega) ⟨i+1,rfl,by omega,by rw[←hg,hd,fq,if_neg (by simpa using d2)],rfl,rfl,rfl⟩) ⟨rfl,rfl,rfl,congrArg some (bu (by omega)),trivial⟩ trivial
 ·refine W.go 99 rfl ?_;exact W.ret r rfl rfl ⟨by unfold dq;rw[if_neg (by simp[hs]),←hg,List.drop_of_length_le (by simp at d1;omega)];rfl,rfl⟩
theorem Bn(ad:Option Addr)(cp:Nat)(l:List Int)(L:LH)(hl:aN L ad l)(hn:l.length≤1000000):Sp X 163 [.slice ad l.length cp] L (fun v L'=>v=.int .i64 (km l)∧L=L'):=by
 refine Sp.enter (n:=34) Tryz.func163 rfl rfl rfl rfl fun C hX _ aG r=>?_;refine W.go 99 rfl ?_;refine W.split rfl rfl rfl (fun c1=>?_) (fun c1=>?_)
 ·refine W.go 99 rfl ?_;exact W.ret r rfl rfl ⟨by unfold km;simp at c1;rw[if_pos (by omega)];rfl,rfl⟩
 have h3:l.length=3:=by simp at c1;omega
 refine W.go 99 rfl ?_;refine W.loop (fun m' E B L'=>∃i:Nat,m'=l.length - i∧i≤l.length∧(l.drop i).all (fun n=>bq n 1 60)=l.all (fun n=>bq n 1 60)∧E=[(0,.v (.slice ad l.length cp)),(8,.v (.slice ad l.length cp)),(9,.v (.int .i64 l.length)),(10,.v (.int .i64 i))]∧B=[]∧L=L')
  ⟨0,rfl,by omega,by simp,rfl,rfl,rfl⟩ ⟨rfl,rfl,rfl,rfl,trivial⟩ trivial ?_
 rintro _ _ _ _ ⟨i,rfl,h1,hg,rfl,rfl,rfl⟩ again;refine W.go 99 rfl ?_;refine W.split rfl rfl rfl (fun d1=>?_) (fun d1=>?_)
 ·refine W.go 99 rfl ?_;have hi:i<l.length:=by simpa using d1
  have hd:=List.drop_eq_getElem_cons hi;obtain⟨a,rfl⟩:=hl.addr hi;refine W.vf rfl rfl rfl rfl (Vf.aW rfl rfl rfl rfl rfl rfl rfl (hi)) ?_;refine W.go 99 rfl ?_;refine W.vf rfl rfl rfl rfl (Vf.load rfl rfl rfl (hl.int (List.getElem?_eq_getElem hi))) ?_;refine W.go 99 rfl ?_;refine W.aB rfl rfl rfl (Ef.call rfl (lj _ _ _ _)) ?_;rintro _ _ _ ⟨_,rfl,rfl,rfl,rfl⟩;refine W.go 99 rfl ?_;refine W.split rfl rfl rfl (fun d2=>?_) (fun d2=>?_)
  ·refine W.go 99 rfl ?_;exact W.ret r rfl rfl ⟨by unfold km;rw[if_neg (by omega),if_pos (by rw[←hg,hd,List.all_cons];simp at d2;simp[d2])];rfl,rfl⟩
  ·refine W.go 99 rfl ?_;exact W.again (again _ _ _ _ (by omega) ⟨i+1,rfl,by omega,by rw[←hg,hd,List.all_cons];simp at d2;simp[d2],rfl,rfl,rfl⟩) ⟨rfl,rfl,rfl,congrArg some (bu (by omega)),trivial⟩ trivial
 have cz:l.all (fun n=>bq n 1 60)=true:=by rw[←hg,List.drop_of_length_le (by simp at d1;omega)];rfl
 clear again hg;obtain⟨x,y,z,rfl⟩:∃x y z,l=[x,y,z]:=by
  match l,h3 with
  | [x,y,z],_=>exact⟨x,y,z,rfl⟩
 obtain⟨a,rfl⟩:=hl.addr (show 0<[x,y,z].length by simp);refine W.go 99 rfl ?_;refine W.drawn (by kernel_rfl) _ (Le.refl _) ?_;refine DD.run' [0,3] rfl ?_;refine DD.vf 1 rfl rfl rfl rfl rfl (Vf.aW rfl rfl rfl rfl rfl rfl rfl ((show 0<3 by decide))) ?_;refine DD.vf 2 rfl rfl rfl rfl rfl (Vf.load rfl rfl rfl (hl.int (show[x,y,z][0]?=some x from rfl))) ?_;refine DD.vf 4 rfl rfl rfl rfl rfl (Vf.aW rfl rfl rfl rfl rfl rfl rfl ((show 1<3 by decide))) ?_;refine DD.vf 5 rfl rfl rfl rfl rfl (Vf.load rfl rfl rfl (hl.int (show[x,y,z][1]?=some y from rfl))) ?_;refine DD.run' [6,7] rfl ?_;refine DD.split 25 rfl (fun e1=>?_) (fun e1=>?_)
 ·refine DD.run' [8,9,10,11,12,13,14,15] rfl ?_;refine .fin rfl ?_;refine W.go 99 rfl ?_;exact W.ret r rfl rfl ⟨by unfold km;rw[if_neg (by simp),if_neg (by simpa using cz),if_pos (by simp at e1;simp;omega)];rfl,rfl⟩
 ·refine DD.run' [8,11] rfl ?_;refine DD.vf 9 rfl rfl rfl rfl rfl (Vf.aW rfl rfl rfl rfl rfl rfl rfl ((show 1<3 by decide))) ?_;refine DD.vf 10 rfl rfl rfl rfl rfl (Vf.load rfl rfl rfl (hl.int (show[x,y,z][1]?=some y from rfl))) ?_;refine DD.vf 12 rfl rfl rfl rfl rfl (Vf.aW rfl rfl rfl rfl rfl rfl rfl ((show 2<3 by decide))) ?_;refine DD.vf 13 rfl rfl rfl rfl rfl (Vf.load rfl rfl rfl (hl.int (show[x,y,z][2]?=some z from rfl))) ?_;refine DD.run' [14,15] rfl ?_;refine .fin rfl ?_;refine W.go 99 rfl ?_;refine W.split rfl rfl rfl (fun e2=>?_) (fun e2=>?_)
  ·refine W.go 99 rfl ?_;exact W.ret r rfl rfl ⟨by unfold km;rw[if_neg (by simp),if_neg (by simpa using cz),if_pos (by simp at e1 e2;simp;omega)];rfl,rfl⟩
  ·refine W.go 99 rfl ?_;exact W.ret r rfl rfl ⟨by unfold km;rw[if_neg (by simp),if_neg (by simpa using cz),if_neg (by simp at e1 e2;simp;omega)];rfl,rfl⟩
theorem w1{n:Nat}(h:n≤1000000):IntKind.i64.wrap ((n:Int) - 1)=(n:Int) - 1:=wrap64_in _ (by omega) (by omega)
theorem Bo(b:Bl)(p:BP)(x:nX)(n0:b.gw.length≤1000000)(L:LH):Sp X 164 [Bj b p,.agg (wz x).toArray] L (fun v L'=>v=.int .i64 (iR b x)∧L=L'):=by
 refine Sp.enter (n:=28) Tryz.func164 rfl rfl rfl rfl fun C hX _ aG r=>?_;refine W.go 99 rfl ?_;rw[w1 n0];refine W.aB rfl rfl rfl (Ef.call rfl (lj _ _ _ _)) ?_;rintro _ _ _ ⟨_,rfl,rfl,rfl,rfl⟩;refine W.go 99 rfl ?_;refine W.split rfl rfl rfl (fun c1=>?_) (fun c1=>?_)
 ·refine W.go 99 rfl ?_;exact W.ret r rfl rfl ⟨by unfold iR;rw[if_pos (by simp at c1;simp[c1])];rfl,rfl⟩
 refine W.go 99 rfl ?_;refine W.aB rfl rfl rfl (Ef.call rfl (lj _ _ _ _)) ?_;rintro _ _ _ ⟨_,rfl,rfl,rfl,rfl⟩;refine W.go 99 rfl ?_;refine W.split rfl rfl rfl (fun c2=>?_) (fun c2=>?_)
 ·refine W.go 99 rfl ?_;exact W.ret r rfl rfl ⟨by unfold iR;rw[if_pos (by simp at c1 c2;simp[c1,c2])];rfl,rfl⟩
 refine W.go 99 rfl ?_;refine W.aB rfl rfl rfl (Ef.call rfl (lj _ _ _ _)) ?_;rintro _ _ _ ⟨_,rfl,rfl,rfl,rfl⟩;refine W.go 99 rfl ?_;refine W.split rfl rfl rfl (fun c3=>?_) (fun c3=>?_)
 ·refine W.go 99 rfl ?_;exact W.ret r rfl rfl ⟨by unfold iR;rw[if_neg (by simp at c1 c2;simp[c1,c2]),if_pos (by simp at c3;simp[c3])];rfl,rfl⟩
 ·refine W.go 99 rfl ?_;exact W.ret r rfl rfl ⟨by unfold iR;rw[if_neg (by simp at c1 c2;simp[c1,c2]),if_neg (by simp at c3;simp[c3])];rfl,rfl⟩
end Go.Mz
