/- Lemmas on which the claim leans. -/
import Derived.Test.YtjhpkghkgaekcaaGreatDoorMzAg
import Derived.Laws.Strings2
namespace Go.Mz
open Go.Conc
def dt(L:LH)(k:Nat)(e:TypeId)(v:Value)(len:Nat)(cs:List Value):Option Nat→Prop
 | none=>(∃cap,v=.slice none 0 cap∧cap=0)∧len=0∧cs=[]
 | some b=>∃(cap:Nat) (c:Array Value),v=.slice (some ⟨b,0,none⟩) len cap∧L b=some (.cells c e (0,0),true)∧c.size=cap *k∧len≤cap∧cs.length=len *k∧∀(i:Nat) (x:Value),cs[i]?=some x→c[i]?=some x
theorem dt.nil{L:LH}{k:Nat}{e:TypeId}:dt L k e (.slice none 0 0) 0 [] none:=⟨⟨0,rfl,rfl⟩,rfl,rfl⟩
theorem dt.len{L:LH}{k:Nat}{e:TypeId}{v:Value}{len:Nat}{cs:List Value}{ob:Option Nat}(h:dt L k e v len cs ob):cs.length=len *k:=by
 cases ob with
 | none=>obtain⟨_,rfl,rfl⟩:=h;simp
 | some b=>obtain⟨_,_,_,_,_,_,h,_⟩:=h;exact h
theorem dt.le{L L':LH}{k:Nat}{e:TypeId}{v:Value}{len:Nat}{cs:List Value}{ob:Option Nat}(h:dt L k e v len cs ob)(hl:Le L L'):dt L' k e v len cs ob:=by
 cases ob with
 | none=>exact h
 | some b=>obtain⟨cap,c,h1,h2,h3⟩:=h;exact⟨cap,c,h1,hl _ _ h2,h3⟩
theorem dt.keep{L L':LH}{k:Nat}{e:TypeId}{v:Value}{len:Nat}{cs:List Value}{ob:Option Nat}(h:dt L k e v len cs ob)(hl:∀b,ob=some b→L' b=L b):dt L' k e v len cs ob:=by
 cases ob with
 | none=>exact h
 | some b=>obtain⟨cap,c,h1,h2,h3⟩:=h;exact⟨cap,c,h1,(hl b rfl).trans h2,h3⟩
theorem dt.slice{L:LH}{k:Nat}{e:TypeId}{v:Value}{len:Nat}{cs:List Value}{ob:Option Nat}(h:dt L k e v len cs ob):∃ad cap,v=.slice ad len cap∧len≤cap:=by
 cases ob with
 | none=>obtain⟨⟨cap,h1,h0⟩,h2,_⟩:=h;subst h2 h0;exact⟨none,0,h1,Nat.le_refl _⟩
 | some b=>obtain⟨cap,c,h1,_,_,h2,_⟩:=h;exact⟨_,cap,h1,h2⟩
theorem dt.blk{L:LH}{k:Nat}{e:TypeId}{v:Value}{len:Nat}{cs:List Value}{b:Nat}(h:dt L k e v len cs (some b)):L b≠none:=by
 obtain⟨cap,c,_,h1,_⟩:=h;rw[h1];simp
theorem rT{α:Type}{enc:α→List Value}{k:Nat}(hk:∀x,(enc x).length=k):∀{l:List α} {i j:Nat} {x:α} {v:Value},l[i]?=some x→(enc x)[j]?=some v→(l.flatMap enc)[i *k+j]?=some v
 | [],_,_,_,_,hx,_=>by simp at hx
 | y::l,0,j,x,v,hx,hv=>by
  have hj:j<k:=by
   have:=(List.getElem?_eq_some_iff.1 hv).1;rw[hk] at this;exact this
  simp only[List.getElem?_cons_zero,Option.some.injEq] at hx;subst hx;rw[List.flatMap_cons,Nat.zero_mul,Nat.zero_add,List.getElem?_append_left (by rw[hk];exact hj)];exact hv
 | y::l,i+1,j,x,v,hx,hv=>by
  rw[List.flatMap_cons,List.getElem?_append_right (by rw[hk,Nat.succ_mul];omega),hk,Nat.succ_mul,show i *k+k+j - k=i *k+j by omega];exact rT hk (by simpa using hx) hv
theorem dt.at{α:Type}{L:LH}{k:Nat}{e:TypeId}{len:Nat}{ob:Option Nat}{enc:α→List Value}{l:List α}{ad:Option Addr}{cap:Nat}(h:dt L k e (.slice ad len cap) l.length (l.flatMap enc) ob)(hk:∀x,(enc x).length=k):aX L ad k enc l:=by
 intro i x hx;cases ob with
 | none=>
  obtain⟨_,h2,_⟩:=h;have aU:=(List.getElem?_eq_some_iff.1 hx).1;omega
 | some b=>
  obtain⟨O8,c,h1,h2,h3,h4,h5,h6⟩:=h;cases h1;refine⟨_,rfl,fun j v hv=>?_⟩;rw[cK];refine ay h2 ?_;rw[Nat.zero_add];exact h6 _ _ (rT hk hx hv)
section
variable {P:Program}{R:LH}{H:Value→LH→Prop}
theorem lR{q:Question}{Q:Nat→LH→Prop}:az P Q H (choose q) R=∀n,j4 q n→Q n R:=rfl
theorem mF{n:Nat}{Q:Unit→LH→Prop}(h:Q () R):az P Q H (askRoom n) R:=by
 unfold askRoom
 split
 ·exact⟨.inl rfl,h⟩
 ·exact h
theorem zJ(m:Nat):∀(r c:Nat),c<m→r≤4→Builtin.growBy m r c≤2 *m+1024
 | 0,c,h,_=>by unfold Builtin.growBy;omega
 | r+1,c,h,hr=>by
  unfold Builtin.growBy
  split
  ·omega
  ·by_cases h2:c+(c+768) / 4<m
   ·exact zJ m r _ h2 (by omega)
   ·have:∀r c,m≤c→Builtin.growBy m r c=c:=by
     intro r c hc;cases r with
     | zero=>rfl
     | succ r=>unfold Builtin.growBy;rw[if_pos (by omega)]
    rw[this r _ (by omega)];omega
theorem xM{need old:Nat}(h:old<need):Builtin.nextslicecap need old≤2 *need+1024:=by
 unfold Builtin.nextslicecap
 split
 ·omega
 ·split
  ·omega
  ·exact zJ _ _ _ h (Nat.le_refl _)
def dE(P:Program)(R:LH)(k m:Nat)(yv:Value)(vs:List Value):Prop:=vs.length=m *k∧(∀(Q:Nat→LH→Prop) (H:Value→LH→Prop),az P Q H (Builtin.lenOf yv) R=Q m R)∧∀(Q:Array Value→LH→Prop) (H:Value→LH→Prop),Q vs.toArray R→az P Q H (Builtin.firstCells k m yv) R
theorem dE.at{k m:Nat}{ad:Addr}{cap:Nat}{vs:List Value}(h:cH R ad (m *k) vs):dE P R k m (.slice (some ad) m cap) vs:=
 ⟨h.1,fun _ _=>rfl,fun Q H hq=>by unfold Builtin.firstCells;rw[rI h];exact hq⟩
theorem dE.nil{k cap:Nat}:dE P R k 0 (.slice none 0 cap) []:=⟨by simp,fun _ _=>rfl,fun Q H hq=>hq⟩
def mR(b:UInt8):Value:=.int .u8 (b.toNat:Int)
theorem dE.str{l:List UInt8}:dE P R 1 l.length (.string ⟨⟨l⟩⟩) (l.map mR):=⟨by simp,fun _ _=>rfl,fun Q H hq=>by
 have e:(ByteArray.extract ⟨⟨l⟩⟩ 0 l.length).data.map (fun b=>Value.int .u8 (b.toNat:Int))=(l.map mR).toArray:=by
  rw[ByteArray.extract_mk];simp[mR]
 show az P Q H (pure ((ByteArray.extract ⟨⟨l⟩⟩ 0 l.length).data.map fun b=>Value.int .u8 (b.toNat:Int))) R;rw[e];exact hq⟩
def ON(P:Program)(tx:TypeId):Prop:=(∃e,P.underlying tx=some (.slice e))∨P.underlying tx=some .string
def LC:TD→Bool
 | .slice _=>true
 | .text=>true
 | _=>false
theorem J7{t:TypeId}{d:TD}(h:vP P t d)(hs:LC d=true):ON P t:=by
 cases d <;> first | cases hs;done | exact .inl ⟨_,h⟩ | exact .inr h
theorem dt.first{k:Nat}{e:TypeId}{v:Value}{len:Nat}{cs:List Value}{ob:Option Nat}(h:dt R k e v len cs ob):dE P R k len v cs:=by
 cases ob with
 | none=>obtain⟨⟨cap,rfl,h0⟩,rfl,rfl⟩:=h;exact dE.nil
 | some b=>
  obtain⟨cap,c,rfl,h1,h2,h3,h4,h5⟩:=h;exact dE.at ⟨h4,fun i v hv=>by rw[cK];exact ay h1 (by rw[Nat.zero_add];exact h5 i v hv)⟩
structure aaQ(k:Nat)(e:TypeId)(len:Nat)(cs:List Value)(ob:Option Nat)(m:Nat)(vs:List Value)(R:LH)(v:Value)(R':LH):Prop where
 own:∃nu,dt R' k e v (len+m) (cs++vs) nu∧((R'=R∧nu=none∧ob=none)∨∃b c,nu=some b∧R'=R.put b (.cells c e)∧((ob=some b∧∃c0,R b=some (.cells c0 e (0,0),true)∧c.size=c0.size)∨R b=none))
theorem G5(vs:List Value):∀(c:Array Value) (i j:Nat),(db c i vs)[j]?=if j<i then c[j]? else if h:j - i<vs.length∧j<c.size then some (vs[j - i]'h.1) else c[j]?:=by
 induction vs with
 | nil=>intro c i j;simp[db]
 | cons v vs ih=>
  intro c i j;rw[db,ih]
  by_cases h1:j<i
  ·rw[if_pos (by omega),if_pos h1,Array.getElem?_setIfInBounds_ne (by omega)]
  ·rw[if_neg h1]
   by_cases h2:j=i
   ·subst h2;rw[if_pos (by omega)]
    by_cases h3:j<c.size
    ·rw[dif_pos ⟨by simp,h3⟩];simp[Array.getElem?_setIfInBounds,h3]
    ·rw[dif_neg (by omega)];simp[Array.getElem?_setIfInBounds,h3]
   ·rw[if_neg (by omega)]
    by_cases h3:j - (i+1)<vs.length∧j<c.size
    ·rw[dif_pos ⟨h3.1,by simpa using h3.2⟩,dif_pos ⟨by simp;omega,h3.2⟩]
     congr 1
     have e:j - i=(j - (i+1))+1:=by omega
     simp only[e,List.getElem_cons_succ]
    ·rw[dif_neg (by simpa using h3)];rw[Array.getElem?_setIfInBounds_ne (by omega)];rw[dif_neg];intro h4;apply h3;simp at h4;omega
theorem x8{ts tx e:TypeId}{k tc len m:Nat}{cs vs:List Value}{ob:Option Nat}{v yv z:Value}{ty:TypeId}{Q:Value→LH→Prop}(tR:P.underlying ts=some (.slice e))(hk:(P.info? e).map (·.size)=some k)(u9:(P.info? e).map (·.bytes)=some tc)(hz:(P.info? e).bind (·.zero)=some z)(Z2:z.cells.size=k)(tU:ON P tx)
  (ho:dt R k e v len cs ob)(hy:dE P R k m yv vs)(hs:∀u∈vs,single u=true)(h0:0<tc)(hb:(2 * (len+m)+1024) *tc≤2 ^ 48)(hq:∀v' R',aaQ k e len cs ob m vs R v' R'→Q v' R'):az P Q H (Builtin.append_ #[ts,tx] ty #[v,yv]) R:=by
 obtain⟨BF,hlen,nH⟩:=hy;unfold Builtin.append_;simp only[List.getElem?_toArray,List.getElem?_cons_zero,List.getElem?_cons_succ];rw[ae,ao tR];simp only;obtain⟨ad,cap,rfl,US⟩:=ho.slice;simp only;rcases tU with⟨e2,tU⟩ | tU
 all_goals
  rw[ae,bL hk,ae,ao tU,ae,ar];simp only[Bool.false_eq_true,if_false,Bool.not_false,if_true];rw[ae,hlen]
  by_cases Cs:len+m≤cap
  ·rw[if_pos Cs,ae];refine nH _ _ ?_;cases ob with
   | none=>
    obtain⟨⟨O8,h1,h0'⟩,h2,h3⟩:=ho;cases h1;clear h2;subst h3 h0';have hm:m=0:=by omega
    subst hm;have Rk:vs=[]:=by cases vs with | nil=>rfl | cons _ _=>simp at BF
    subst Rk;refine hq _ _ ⟨none,⟨⟨0,rfl,rfl⟩,rfl,rfl⟩,.inl ⟨rfl,rfl,rfl⟩⟩
   | some b=>
    obtain⟨_,c,h1,h2,h3,h4,h5,h6⟩:=ho;cases h1;simp only;rw[ae];rw[cK,Nat.zero_add];have hmul:len *k+m *k≤cap *k:=by rw[←Nat.add_mul];exact Nat.mul_le_mul_right _ Cs
    refine fL (e:=e) vs 0 c R h2 (by rw[BF,h3];omega) hs (fun R' g1 g2=>?_);rw[ar];rw[Nat.add_zero] at g1;refine hq _ _ ⟨some b,⟨cap,_,rfl,g1,by rw[vB,h3],Cs,by rw[List.length_append,h5,BF,Nat.add_mul],fun i x hx=>?_⟩,.inr ⟨b,db c (len *k) vs,rfl,?_,.inl ⟨rfl,c,h2,vB _ _ _⟩⟩⟩
    ·rw[G5]
     by_cases hi:i<len *k
     ·rw[if_pos hi];rw[List.getElem?_append_left (by omega)] at hx;exact h6 i x hx
     ·rw[List.getElem?_append_right (by omega),h5] at hx;have aU:=(List.getElem?_eq_some_iff.1 hx).1;rw[if_neg hi,dif_pos ⟨aU,by rw[h3];omega⟩];rw[←List.getElem?_eq_getElem aU];exact hx
    ·funext b'
     by_cases e':b'=b
     ·subst e';rw[g1,aj]
     ·rw[g2 b' e',au _ _ e']
  ·rw[if_neg Cs];obtain⟨inf,vg,yr⟩:∃inf,P.info? e=some inf∧inf.bytes=tc:=by
    cases hx:P.info? e with
    | none=>rw[hx] at u9;cases u9
    | some i=>rw[hx] at u9;cases u9;exact⟨i,rfl,rfl⟩
   have sz:¬(inf.bytes=0):=by omega
   rw[ae,dW vg,if_neg (by simp[sz]),ae,dW vg];have qg:=xM (need:=len+m) (old:=cap) (by omega);have hle:Builtin.nextslicecap (len+m) cap *inf.bytes≤2 ^ 48:=Nat.le_trans (by rw[yr];exact Nat.mul_le_mul_right _ qg) hb;rw[if_neg (by omega),ae,lR];intro EB IS;obtain⟨r,rfl⟩:∃r,EB=len+m+r:=by
    unfold j4 at IS;simp only[Question.forced,Bool.false_eq_true,if_false,Question.cut] at IS;obtain⟨t,ht⟩:=IS;exact⟨_,ht⟩
   rw[ae,dW vg,ae];refine mF ?_;rw[ae];refine(ho.first (P:=P)).2.2 _ _ ?_;rw[ae];refine nH _ _ ?_;rw[ae,dA hz,ae,fW];intro b bG;rw[ar];have jR:=ho.len;refine hq _ _ ⟨some b,⟨len+m+r,_,rfl,aj _ _ _,?_,by omega,by rw[List.length_append,jR,BF,Nat.add_mul],fun i x hx=>?_⟩,.inr ⟨b,_,rfl,rfl,.inr bG⟩⟩
   ·simp only[Builtin.zeroCells,Array.size_append,List.size_toArray,Array.size_map,Array.size_range,jR,BF,Z2];rw[show len+m+r - (len+m)=r by omega,Nat.add_mul,Nat.add_mul]
   ·have aU:=(List.getElem?_eq_some_iff.1 hx).1;rw[←Array.getElem?_toList,Array.toList_append,Array.toList_append,List.getElem?_append_left (by simpa using aU)];exact hx
end
inductive YC(E:a8)(B:List (Option Bx))(L:LH)(k:Nat)(y:Operand):Nat→List Value→Prop
 | own {kk off m cap:Nat} {bx:Bx} {jl:List SV} {vs:List Value} (hy:aL E y=some (.sl kk off m cap)) (hb:nth B kk=some (some bx)) (hp:part bx.cells off (m *k)=some jl) (hd:bC dr jl=some vs):YC E B L k y m vs
 | far {a:Addr} {m cap:Nat} {vs:List Value} (hy:aL E y=some (.v (.slice (some a) m cap))) (hc:cH L a (m *k) vs):YC E B L k y m vs
 | nil {cap:Nat} (hy:aL E y=some (.v (.slice none 0 cap))):YC E B L k y 0 []
 | str {l:List UInt8} (h1:k=1) (hy:aL E y=some (.v (.string ⟨⟨l⟩⟩))):YC E B L k y l.length (l.map mR)
theorem oN{α:Type}{enc:α→List Value}{k:Nat}(hk:∀x,(enc x).length=k):∀l:List α,(l.flatMap enc).length=l.length *k
 | []=>by simp
 | x::l=>by rw[List.flatMap_cons,List.length_append,hk,oN hk l,List.length_cons,Nat.succ_mul];omega
theorem Iu{α:Type}{enc:α→List Value}{k:Nat}(hk:∀x,(enc x).length=k)(h0:0<k){l:List α}{n:Nat}{v:Value}(h:(l.flatMap enc)[n]?=some v):∃i j x,n=i *k+j∧l[i]?=some x∧(enc x)[j]?=some v:=by
 have aU:=(List.getElem?_eq_some_iff.1 h).1;rw[oN hk] at aU;have hi:n / k<l.length:=Nat.div_lt_of_lt_mul (by rw[Nat.mul_comm];exact aU);refine⟨n / k,n % k,l[n / k],by rw[Nat.mul_comm];exact(Nat.div_add_mod n k).symm,List.getElem?_eq_getElem hi,?_⟩;have hj:n % k<(enc l[n / k]).length:=by rw[hk];exact Nat.mod_lt _ h0
 have:=rT hk (List.getElem?_eq_getElem hi) (List.getElem?_eq_getElem hj);rw[show n / k *k+n % k=n by rw[Nat.mul_comm];exact Nat.div_add_mod n k,h] at this;rw[List.getElem?_eq_getElem hj];exact this.symm
theorem aX.cells{α:Type}{enc:α→List Value}{k:Nat}{L:LH}{a:Addr}{l:List α}(h:aX L (some a) k enc l)(hk:∀x,(enc x).length=k):cH L a (l.length *k) (l.flatMap enc):=by
 refine⟨oN hk l,fun n v hv=>?_⟩;rcases Nat.eq_zero_or_pos k with rfl | h0
 ·have aU:=(List.getElem?_eq_some_iff.1 hv).1;rw[oN hk] at aU;omega
 ·obtain⟨i,j,x,rfl,hx,hj⟩:=Iu hk h0 hv;exact h.get hx hj
theorem YC.sl{α:Type}{enc:α→List Value}{k cap:Nat}{E:a8}{B:List (Option Bx)}{L:LH}{y:Operand}{ad:Option Addr}{l:List α}(h:aX L ad k enc l)(hk:∀x,(enc x).length=k)(hy:aL E y=some (.v (.slice ad l.length cap))):YC E B L k y l.length (l.flatMap enc):=by
 cases ad with
 | none=>
  cases l with
  | nil=>exact .nil hy
  | cons x l=>obtain⟨a,h1⟩:=h.addr (i:=0) (by simp);cases h1
 | some a=>exact .far hy (h.cells hk)
def bM{α:Type}(I:LH)(k:Nat)(e:TypeId)(enc:α→List Value)(L:LH)(v:Value)(l:List α):Prop:=Le I L∧∃ob,dt L k e v l.length (l.flatMap enc) ob∧∀b,ob=some b→I b=none
section
variable {α:Type}{I L L':LH}{k:Nat}{e:TypeId}{enc:α→List Value}{v:Value}{l:List α}
theorem bM.nil(h:Le I L):bM I k e enc L (.slice none 0 0) []:=⟨h,none,dt.nil,fun b hb=>by cases hb⟩
theorem bM.new{b:Nat}(h:Le I L)(hb:L b=some (.cells #[] e (0,0),true))(hn:I b=none):bM I k e enc L (.slice (some ⟨b,0,none⟩) 0 0) []:=⟨h,some b,⟨0,#[],rfl,hb,by simp,Nat.le_refl _,by simp,fun i x hx=>by simp at hx⟩,fun b' bG=>by cases bG;exact hn⟩
theorem bM.le(h:bM I k e enc L v l)(hl:Le L L'):bM I k e enc L' v l:=let⟨h1,ob,h2,h3⟩:=h;⟨h1.trans hl,ob,h2.le hl,h3⟩
theorem bM.slice(h:bM I k e enc L v l):∃ad cap,v=.slice ad l.length cap∧l.length≤cap:=let⟨_,_,h2,_⟩:=h;h2.slice
theorem bM.at{ad:Option Addr}{len cap:Nat}(h:bM I k e enc L (.slice ad len cap) l)(hk:∀x,(enc x).length=k):len=l.length∧aX L ad k enc l:=by
 obtain⟨_,ob,h2,_⟩:=h;obtain⟨Mm,O8,h3,_⟩:=h2.slice;cases h3;exact⟨rfl,h2.at hk⟩
end
section
variable {P:Program}[S:Seat P]{C:Cx P}{E:a8}{B:List (Option Bx)}{L:LH}{dst:Option Tmp}{ty:TypeId}{pos:String}{af:Array Edge}{gd:Option (Nat×Bool)}
omit S in
theorem YC.first{k m:Nat}{y:Operand}{vs:List Value}(h:YC E B L k y m vs){T:Array Value}{R:LH}{β:Nm}(hE:aH β E T)(hB:nU β B R)(hL:Le L R):dE P R k m (ev T y) vs:=by
 cases h with
 | own hy hb hp hd=>
  rename_i kk off cap bx jl;have hv:=hE.val hy;unfold den at hv;cases hk:β kk with
  | none=>rw[hk] at hv;cases hv
  | some b=>
   rw[hk] at hv;have tV:=(Option.some.inj hv).symm;rw[tV];obtain⟨cs,hc,hR⟩:=hB kk b bx hk (by rw[←bU];exact hb);obtain⟨ws,h1,h2⟩:=tp hc hp;rw[oI hd β] at h1;cases h1;refine dE.at ⟨by rw[gO hd,pQ hp],fun i v hv=>?_⟩;rw[cK];exact ay hR (by rw[List.getElem?_toArray];exact h2 i v hv)
 | far hy hc=>
  have hv:=(Option.some.inj (hE.val hy)).symm;rw[hv];exact dE.at (hL.cH hc)
 | nil hy=>
  have hv:=(Option.some.inj (hE.val hy)).symm;rw[hv];exact dE.nil
 | str h1 hy=>
  subst h1;have hv:=(Option.some.inj (hE.val hy)).symm;rw[hv];exact dE.str
def XX{α:Type}(B:List (Option Bx))(L:LH)(I:LH)(k:Nat)(e:TypeId)(enc:α→List Value)(l:List α)(sv:SV)(B':List (Option Bx))(L':LH):Prop:=∃v,sv=.v v∧B'=B∧bM I k e enc L' v l∧(∀b,L b≠none→L' b≠none)
theorem Ef.grow{α:Type}{I:LH}{enc:α→List Value}{l ls:List α}{ts tx e:TypeId}{ti te HD:TI}{v:Value}{x y:Operand}(hx:aL E x=some (.v v))(tR:S.τ.find ts=some ti)(hd:ti.d=.slice e)(he:S.τ.find e=some te)(tU:S.τ.find tx=some HD)(iM:LC HD.d=true)(hz:te.z.cells.size=te.size)
  (h0:Nat.blt 0 te.bytes=true)(h1:Nat.ble te.bytes 1024=true)(hk:∀x,(enc x).length=te.size)(hs:∀x,∀u∈enc x,single u=true)(hg:bM I te.size e enc L v l)(hy:YC E B L te.size y ls.length (ls.flatMap enc))(hlen:l.length+ls.length≤1073741824):
  Ef C ⟨dst,.call {callee:=.builtin .append,args:=#[x,y],argTypes:=#[ts,tx]},ty,pos,af,gd⟩ E B L (XX B L I te.size e enc (l++ls)):=by
 intro T R β hE hH;obtain⟨hI,ob,ho,hn⟩:=hg;have ex:ev T x=v:=(Option.some.inj (hE.val hx)).symm;have fy:=hy.first (P:=P) hE hH.boxes hH.le;have i1:=(TT.aD S.ok tR).d;rw[hd] at i1;have i2:=J7 (TT.aD S.ok tU).d iM;have ie:=TT.aD S.ok he;refine⟨rfl,?_⟩;simp only[execOp,resolve,List.map_toArray,List.map_cons,List.map_nil,ex,pure,Sem.bind,bind,invoke,builtin];show az P _ _ (Builtin.append_ _ _ _>>= fun u=>pure (Next.value u)) R;rw[ae];refine x8 i1 ie.size ie.bytes ie.zero hz i2 (ho.le hH.le) fy (fun u hu=>?_) (Nat.le_of_ble_eq_true h0) ?_ fun v' R' hr=>?_
 ·obtain⟨a,_,hu⟩:=List.mem_flatMap.1 hu;exact hs a u hu
 ·have:=Nat.le_of_ble_eq_true h1;have h2:2 * (l.length+ls.length)+1024≤2147484672:=by omega
  exact Nat.le_trans (Nat.mul_le_mul h2 this) (by decide)
 ·rw[ar];obtain⟨nu,g1,g2⟩:=hr;rcases g2 with⟨rfl,rfl,rfl⟩ | ⟨b,c,rfl,rfl,g3⟩
  ·refine⟨.v v',B,L,⟨v',rfl,rfl,⟨hI,none,?_,hn⟩,fun _ h=>h⟩,rfl,hH,fun _ _=>rfl⟩;rw[List.length_append,List.flatMap_append];exact g1
  ·have nI:∀L',L' b=some (.cells c e (0,0),true)→dt L' te.size e v' (l++ls).length ((l++ls).flatMap enc) (some b):=fun L' ID=>by
    rw[List.length_append,List.flatMap_append];exact g1.keep fun b' bG=>by cases bG;rw[ID,aj]
   rcases g3 with⟨rfl,_⟩ | g3
   ·have n8:∃o,L b=some (o,true):=by
     obtain⟨_,c',_,h2,_⟩:=ho;exact⟨_,h2⟩
    obtain⟨o,n8⟩:=n8;have hIb:=hn b rfl;refine⟨.v v',B,L.put b (.cells c e),⟨v',rfl,rfl,⟨fun b' x hx=>?_,some b,nI _ (aj _ _ _),fun b' bG=>by cases bG;exact hIb⟩,fun b' bG=>?_⟩,rfl,hH.m9 n8 (aj _ _ _) (fun b' bG=>au _ _ bG),fun _ _=>rfl⟩
    ·rw[au _ _ (fun e=>by subst e;rw[hIb] at hx;cases hx)];exact hI b' x hx
    ·by_cases e':b'=b
     ·subst e';rw[aj];simp
     ·rw[au _ _ e'];exact bG
   ·have M7:=(hH.free g3).1;refine⟨.v v',B,L.put b (.cells c e),⟨v',rfl,rfl,⟨hI.trans (Le.put M7 _),some b,nI _ (aj _ _ _),fun b' bG=>by cases bG;exact aP hI M7⟩,fun b' bG=>?_⟩,rfl,hH.vw g3 _,fun _ _=>rfl⟩
    by_cases e':b'=b
    ·subst e';rw[aj];simp
    ·rw[au _ _ e'];exact bG
def XR(B:List (Option Bx))(L:LH)(k:Nat)(e:TypeId)(len:Nat)(cs:List Value)(ob:Option Nat)(sv:SV)(B':List (Option Bx))(L':LH):Prop:=∃v nu,sv=.v v∧B'=B∧dt L' k e v len cs nu∧
 ((L'=L∧nu=none∧ob=none)∨∃b c,nu=some b∧L'=L.put b (.cells c e)∧((ob=some b∧∃c0,L b=some (.cells c0 e (0,0),true)∧c.size=c0.size)∨L b=none))
theorem Ef.lX{len m:Nat}{cs vs:List Value}{ob:Option Nat}{ts tx e:TypeId}{ti te HD:TI}{v:Value}{x y:Operand}(hx:aL E x=some (.v v))(tR:S.τ.find ts=some ti)(hd:ti.d=.slice e)(he:S.τ.find e=some te)(tU:S.τ.find tx=some HD)(iM:LC HD.d=true)(hz:te.z.cells.size=te.size)
  (h0:Nat.blt 0 te.bytes=true)(h1:Nat.ble te.bytes 1024=true)(hs:∀u∈vs,single u=true)(ho:dt L te.size e v len cs ob)(hy:YC E B L te.size y m vs)(hlen:len+m≤1073741824):
  Ef C ⟨dst,.call {callee:=.builtin .append,args:=#[x,y],argTypes:=#[ts,tx]},ty,pos,af,gd⟩ E B L (XR B L te.size e (len+m) (cs++vs) ob):=by
 intro T R β hE hH;have ex:ev T x=v:=(Option.some.inj (hE.val hx)).symm;have fy:=hy.first (P:=P) hE hH.boxes hH.le;have i1:=(TT.aD S.ok tR).d;rw[hd] at i1;have i2:=J7 (TT.aD S.ok tU).d iM;have ie:=TT.aD S.ok he;refine⟨rfl,?_⟩;simp only[execOp,resolve,List.map_toArray,List.map_cons,List.map_nil,ex,pure,Sem.bind,bind,invoke,builtin];show az P _ _ (Builtin.append_ _ _ _>>= fun u=>pure (Next.value u)) R;rw[ae];refine x8 i1 ie.size ie.bytes ie.zero hz i2 (ho.le hH.le) fy hs (Nat.le_of_ble_eq_true h0) ?_ fun v' R' hr=>?_
 ·have:=Nat.le_of_ble_eq_true h1;have h2:2 * (len+m)+1024≤2147484672:=by omega
  exact Nat.le_trans (Nat.mul_le_mul h2 this) (by decide)
 ·rw[ar];obtain⟨nu,g1,g2⟩:=hr;rcases g2 with⟨rfl,rfl,rfl⟩ | ⟨b,c,rfl,rfl,g3⟩
  ·exact⟨.v v',B,L,⟨v',none,rfl,rfl,g1,.inl ⟨rfl,rfl,rfl⟩⟩,rfl,hH,fun _ _=>rfl⟩
  ·have nI:dt (L.put b (.cells c e)) te.size e v' (len+m) (cs++vs) (some b):=g1.keep fun b' bG=>by cases bG;rw[aj,aj]
   rcases g3 with⟨rfl,c0,g4,g5⟩ | g3
   ·have n8:L b=some (.cells c0 e (0,0),true):=by
     obtain⟨_,c',_,h2,_⟩:=id ho;have:=hH.le _ _ h2;rw[g4] at this;cases this;exact h2
    exact⟨.v v',B,L.put b (.cells c e),⟨v',some b,rfl,rfl,nI,.inr ⟨b,c,rfl,rfl,.inl ⟨rfl,c0,n8,g5⟩⟩⟩,rfl,hH.m9 n8 (aj _ _ _) (fun b' bG=>au _ _ bG),fun _ _=>rfl⟩
   ·have M7:=(hH.free g3).1;exact⟨.v v',B,L.put b (.cells c e),⟨v',some b,rfl,rfl,nI,.inr ⟨b,c,rfl,rfl,.inr M7⟩⟩,rfl,hH.vw g3 _,fun _ _=>rfl⟩
end
end Go.Mz
set_option maxRecDepth 100000
namespace Go.Proofs
end Go.Proofs
namespace Go.Mz
open Go.Conc Go.Proofs
section
variable {P:Program}{H:Value→LH→Prop}{L:LH}
theorem MQ{d:Nat}{t:TypeId}{k:IntKind}{a c:Int}{Q:Bool→LH→Prop}(hu:P.underlying t=some (.int k)):az P Q H (Op.equalIn (d+1) t (.int k a) (.int k c)) L=Q (a==c) L:=by
 rw[Op.equalIn,ae,ao hu];simp only[if_true]
 rfl
theorem pX{t:TypeId}{cs:Array Value}{off:Nat}{v:Value}{Q:Value→LH→Prop}(ha:eV P t=some false)(h:cs[off]?=some v):az P Q H (Go.part t cs off) L=Q v L:=by
 unfold Go.part;rw[ae,uo ha];simp only[Bool.false_eq_true,if_false,h]
 rfl
def bX(xs:List Int):Value:=.agg (xs.map (Value.int .i64)).toArray
end
section
variable {P:Program}{E:a8}{B:List (Option Bx)}{L:LH}
theorem Vf.eqS{t t2:TypeId}{op:BinOp}{x y:Operand}{sx sy:SV}{xs ys:List Int}{c:Bool}(aZ:op=.eql∨op=.neq)(hx:aL E x=some sx)(dx:den dr sx=some (bX xs))(hy:aL E y=some sy)(dy:den dr sy=some (bX ys))(hg:P.eqGuardType P.depth t=false)
  (he:∀(n:Nat) (Q:Bool→LH→Prop) (H:Value→LH→Prop) (R:LH),az P Q H (Op.equalIn (n+3) t (bX xs) (bX ys)) R=Q c R):Vf P (.binOp op t x y t2) E B L (.v (.bool (yg op c))):=fun T R β hE _ _=>by
 have ex:ev T x=bX xs:=Option.some.inj ((hE.val hx).symm.trans (cP dx β));have ey:ev T y=bX ys:=Option.some.inj ((hE.val hy).symm.trans (cP dy β));refine⟨_,rfl,fun ty dst pos af gd Q H hq=>?_⟩;simp only[execOp,ex,ey];rw[ae,ae];have jU:az P (fun _ L'=>az P (fun b L'=>az P Q H (pure (Next.value b)) L') H (binOp op t (bX xs) (bX ys)) L') H (eqGuard op t x y (bX xs) (bX ys)) R=az P (fun b L'=>az P Q H (pure (Next.value b)) L') H (binOp op t (bX xs) (bX ys)) R:=by
  unfold eqGuard bX;rcases aZ with rfl | rfl <;> (show az P _ H (program>>= _) R=_;rw[ae,dV,ae,dV,hg];rfl)
 rw[jU];rcases aZ with rfl | rfl
 ·show az P _ H (do pure (Value.bool (←Op.equal t (bX xs) (bX ys)))) R;unfold Op.equal;simp only[ae,ar];rw[show Op.maxDepth=9997+3 from rfl,he];exact hq
 ·show az P _ H (do pure (Value.bool (!(←Op.equal t (bX xs) (bX ys))))) R;unfold Op.equal;simp only[ae,ar];rw[show Op.maxDepth=9997+3 from rfl,he];exact hq
end
end Go.Mz
set_option maxRecDepth 100000
namespace Go.Mz
open Go.Conc Go.Proofs
section
variable {P:Program}{H:Value→LH→Prop}{L:LH}
theorem fV{r:Nat}{es:Array MapEntry}{clk:Nat}{wr:Bool}{Q:Obj→LH→Prop}(h:L r=some (.map es clk,wr)):az P Q H (getObj r) L=Q (.map es clk) L:=by
 show az P Q H (.getObj r .pure) L=_;unfold az;rw[h]
 rfl
variable {E:a8}{B:List (Option Bx)}
theorem Vf.lookup{t kt et:TypeId}{x y:Operand}{r:Nat}{sk:SV}{kv z:Value}{es:Array MapEntry}{clk:Nat}{wr:Bool}{res:Option (Nat×Value)}(hx:aL E x=some (.v (.map (some r))))(hy:aL E y=some sk)(dk:den dr sk=some kv)(hu:P.underlying t=some (.map kt et))(hL:L r=some (.map es clk,wr))(hz:(P.info? et).bind (·.zero)=some z)
  (hc:∀(e:Bool) (Q:Unit→LH→Prop) (H:Value→LH→Prop) (R:LH),az P Q H (Instr.checkKey e 10000 kt kv) R=Q () R)(hf:∀(Q:Option (Nat×Value)→LH→Prop) (H:Value→LH→Prop) (R:LH),az P Q H (Instr.findKey kt kv es.toList) R=Q res R):
  Vf P (.lookup t x y true) E B L (.v (.tuple #[(res.map (·.2)).getD z,.bool res.isSome])):=fun T R β hE _ hR=>by
 have ex:=(Option.some.inj (hE.val hx)).symm;have ey:ev T y=kv:=Option.some.inj ((hE.val hy).symm.trans (cP dk β));refine⟨_,rfl,fun ty dst pos af gd Q H hq=>?_⟩;simp only[execOp,ex,ey];rw[ae];unfold Instr.lookup;rw[ae,ao hu];simp only;rw[ae,fV (hR _ _ hL)];show az P _ H (Instr.checkKey es.isEmpty 10000 kt kv>>= _) R;rw[ae,hc,ae,hf];cases res with
 | none=>simp only;rw[ae,dA hz];exact hq
 | some p=>exact hq
variable {C:Cx P}{dst:Option Tmp}{ty:TypeId}{pos:String}{af:Array Edge}{gd:Option (Nat×Bool)}
theorem Ef.Vy{t kt et:TypeId}{x y u:Operand}{r:Nat}{sk su:SV}{kv uv:Value}{es:Array MapEntry}{clk:Nat}(hx:aL E x=some (.v (.map (some r))))(hy:aL E y=some sk)(dk:den dr sk=some kv)(hw:aL E u=some su)(du:den dr su=some uv)(hu:P.underlying t=some (.map kt et))(hL:L r=some (.map es clk,true))
  (hc:∀(e:Bool) (Q:Unit→LH→Prop) (H:Value→LH→Prop) (R:LH),az P Q H (Instr.checkKey e 10000 kt kv) R=Q () R)(hf:∀(Q:Option (Nat×Value)→LH→Prop) (H:Value→LH→Prop) (R:LH),az P Q H (Instr.findKey kt kv es.toList) R=Q none R):
  Ef C ⟨dst,.mapUpdate t x y u,ty,pos,af,gd⟩ E B L (xu (L.put r (.map (es.push {key:=kv,val:=uv,born:=clk}) (clk+1))) B):=by
 intro T R β hE hH;have ex:=(Option.some.inj (hE.val hx)).symm;have ey:ev T y=kv:=Option.some.inj ((hE.val hy).symm.trans (cP dk β));have eu:ev T u=uv:=Option.some.inj ((hE.val hw).symm.trans (cP du β));refine⟨rfl,?_⟩;simp only[execOp,ex,ey,eu];rw[ae];unfold Instr.mapUpdate;rw[ae,ao hu];simp only;rw[ae,fV (hH.le _ _ hL)];simp only;rw[ae,hc,ae,hf];simp only;rw[eO (hH.le _ _ hL) rfl rfl];exact⟨.v undef,B,_,⟨rfl,rfl,rfl⟩,rfl,hH.m9 hL (aj _ _ _) (fun b' bG=>au R _ bG),fun _ _=>rfl⟩
end
section
variable {P:Program}[S:Seat P]{C:Cx P}{E:a8}{B:List (Option Bx)}{L:LH}{dst:Option Tmp}{ty:TypeId}{pos:String}{af:Array Edge}{gd:Option (Nat×Bool)}
theorem Ef.LF{t e:TypeId}{x y:Operand}{ti:TI}{b off:Nat}{cs iY us:List Value}{v:Value}(hx:aL E x=some (.v (.pointer (some ⟨b,off,none⟩))))(hy:∃s,aL E y=some s∧den dr s=some v)(ht:S.τ.find t=some ti)(hb:L b=some (.cells cs.toArray e (0,0),true))(hu:v.cells=us.toArray)(hn:Nat.beq us.length ti.size=true)(hl:Nat.ble (off+ti.size) cs.length=true)
  (hs:us.all single=true)(hc:o0 cs off us=iY):Ef C ⟨dst,.store t x y,ty,pos,af,gd⟩ E B L (xu (L.put b (.cells iY.toArray e)) B):=by
 have:=Ef.gn (C:=C) (B:=B) (dst:=dst) (ty:=ty) (pos:=pos) (af:=af) (gd:=gd) hx hy ht hb (by rw[hu,List.size_toArray];exact Nat.eq_of_beq_eq_true hn) (by rw[List.size_toArray];exact Nat.le_of_ble_eq_true hl) (by rw[hu];intro u h;exact List.all_eq_true.1 hs u (by simpa using h));have e1:db cs.toArray off v.cells.toList=iY.toArray:=by
  apply Array.toList_inj.1;rw[kp,hu,hc]
 rw[e1] at this;exact this
end
section
variable {P:Program}{E:a8}{B:List (Option Bx)}{L:LH}
theorem Vf.index{t e:TypeId}{x y:Operand}{sx:SV}{cs:List Value}{v:Value}{n i:Nat}{k:IntKind}(hx:aL E x=some sx)(dx:den dr sx=some (.agg cs.toArray))(hy:aL E y=some (.v (.int k i)))(hu:P.underlying t=some (.array n e))(hs:(P.info? e).map (·.size)=some 1)(ha:eV P e=some false)(hi:i<n)(hv:cs[i]?=some v):
  Vf P (.index t x y) E B L (.v v):=fun T R β hE _ _=>by
 have ex:ev T x=.agg cs.toArray:=Option.some.inj ((hE.val hx).symm.trans (cP dx β));have ey:=(Option.some.inj (hE.val hy)).symm;refine⟨_,rfl,fun ty dst pos af gd Q H hq=>?_⟩;simp only[execOp,ex,ey];rw[ae];unfold Instr.index;rw[ae];show az P _ H (underlying t>>= _) R;rw[ae,ao hu];simp only;rw[if_pos (by omega),ae,bL hs,pX ha (v:=v) (by rw[Int.toNat_natCast,Nat.mul_one,List.getElem?_toArray];exact hv)];exact hq
end
def LH.cD(L:LH)(b:Nat):LH:=fun b'=>if b'=b then none else L b'
theorem jo(L:LH)(b:Nat):Le (L.cD b) L:=fun b' x hx=>by
 unfold LH.cD at hx
 split at hx
 ·cases hx
 ·exact hx
theorem dg{L:LH}{b b':Nat}(h:b'≠b):L.cD b b'=L b':=by unfold LH.cD;rw[if_neg h]
theorem we{L:LH}{b:Nat}{a:Addr}{v:Value}(h:L.cell? a=some v)(hb:a.block≠b):(L.cD b).cell? a=some v:=by
 unfold LH.cell? at h ⊢;rw[dg hb];exact h
theorem qI{L:LH}{b:Nat}{o:Obj}:Le (L.cD b) (L.put b o):=fun b' x hx=>by
 unfold LH.cD at hx
 split at hx
 ·cases hx
 ·rename_i e;rw[au _ _ e];exact hx
section
variable {P:Program}{H:Value→LH→Prop}{L:LH}{E:a8}{B:List (Option Bx)}
theorem cX{k:IntKind}{j:Int}{y:Nat}{code:BoundsCode}{Q:Nat→LH→Prop}(h:0≤j∧j≤y):az P Q H (Instr.sliceBound (.int k j) y code) L=Q j.toNat L:=by
 unfold Instr.sliceBound;rw[ae];show az P Q H (if 0≤j∧j≤y then _ else _) L=_;rw[if_pos h];rfl
theorem Vf.V5{t e:TypeId}{x:Operand}{ad:Addr}{n m:Nat}(hx:aL E x=some (.v (.pointer (some ad))))(hu:P.underlying t=some (.array n e))(hs:(P.info? e).map (·.size)=some m)(hn:n≠0):
  Vf P (.slice t x none none none) E B L (.v (.slice (some ad) n n)):=fun T R β hE _ _=>by
 have ex:=(Option.some.inj (hE.val hx)).symm;refine⟨_,rfl,fun ty dst pos af gd Q H hq=>?_⟩;simp only[execOp,ex,Option.map_none];rw[ae];unfold Instr.sliceAt;rw[ae,ao hu];simp only;rw[ae];show az P _ H (sizeOf e>>= _) R;rw[ae,bL hs];rw[if_neg (by omega)];have e0:ad.add (0 *m)=ad:=by rw[Nat.zero_mul];rfl
 rw[e0];exact hq
theorem Vf.slice3{t e:TypeId}{x y u:Operand}{oa:Option Addr}{len cap m j c:Nat}{k k':IntKind}(hx:aL E x=some (.v (.slice oa len cap)))(hy:aL E y=some (.v (.int k j)))(hw:aL E u=some (.v (.int k' c)))(hu:P.underlying t=some (.slice e))(hs:(P.info? e).map (·.size)=some m)(hj:j≤c)(hc:c≤cap):
  Vf P (.slice t x none (some y) (some u)) E B L (.v (.slice oa j c)):=fun T R β hE _ _=>by
 have ex:=(Option.some.inj (hE.val hx)).symm;have ey:=(Option.some.inj (hE.val hy)).symm;have eu:=(Option.some.inj (hE.val hw)).symm;refine⟨_,rfl,fun ty dst pos af gd Q H hq=>?_⟩;simp only[execOp,ex,Option.map_some,Option.map_none,ey,eu];rw[ae];unfold Instr.sliceAt;rw[ae,ao hu];simp only;unfold Instr.slice;rw[ae,ao hu];simp only;rw[ae];unfold Instr.sliceBounds;simp only;rw[ae,cX (by omega),ae,Int.toNat_natCast,cX (by omega),Int.toNat_natCast];show az P _ H (sizeOf e>>= _) R;rw[ae,bL hs];have e0:(if c=0 then oa else oa.map fun x=>x.add (0 *m))=oa:=by
  split
  ·rfl
  ·cases oa with
   | none=>rfl
   | some a=>rw[Nat.zero_mul];rfl
 rw[e0];exact hq
end
end Go.Mz
namespace Go.Mz
open Go.Conc
theorem dt.calm{L:LH}{k:Nat}{e:TypeId}{v:Value}{len:Nat}{cs:List Value}{ob:Option Nat}(h:dt L k e v len cs ob):dt L.calm k e v len cs ob:=by
 cases ob with
 | none=>exact h
 | some b=>obtain⟨cap,c,h1,h2,h3⟩:=h;exact⟨cap,c,h1,jG h2,h3⟩
def LH.less(L:LH)(bs:List Nat):LH:=fun b=>if b∈bs then none else L b
theorem GG(L:LH)(bs:List Nat):Le (L.less bs) L:=fun b x hx=>by
 unfold LH.less at hx
 split at hx
 ·cases hx
 ·exact hx
theorem iQ{L:LH}{bs:List Nat}{b:Nat}(h:b∉bs):L.less bs b=L b:=by unfold LH.less;rw[if_neg h]
theorem RB{F L:LH}{bs:List Nat}(h:Le F L)(hb:∀b∈bs,F b=none):Le F (L.less bs):=fun b x hx=>by
 rw[iQ (fun hm=>by rw[hb b hm] at hx;cases hx)];exact h b x hx
theorem zV{L:LH}{bs:List Nat}{b:Nat}(h:b∈bs):L.less bs b=none:=by unfold LH.less;rw[if_pos h]
section
variable {P:Program}{C:Cx P}{n:Nat}{ds:List Deferred}{k:List Item}{E:Env}{B:List (Option Bx)}{L:LH}
variable {dst:Option Tmp}{ty:TypeId}{pos:String}{af:Array Edge}{gd:Option (Nat×Bool)}{E:a8}
theorem Ef.makeMap{t:TypeId}:Ef C ⟨dst,.makeMap t none,ty,pos,af,gd⟩ E B L (fun sv B' L'=>∃r,sv=.v (.map (some r))∧B'=B∧L r=none∧L'=L.put r (.map #[] 0)):=by
 intro T R β hE hH;refine⟨rfl,uu.makeMap _ _ _ _ _ _ ?_⟩;intro b hb;exact⟨_,B,_,⟨b,rfl,rfl,(hH.free hb).1,rfl⟩,rfl,hH.vw hb _,fun _ _=>rfl⟩
end
section
variable {P:Program}{C:Cx P}{o:Oper}{E:a8}{B:List (Option Bx)}{L:LH}
theorem BQ.mono{X:ax P}{T:Array Value}{K K':Value→LH→Prop}(hk:∀v L',K v L'→K' v L')(h:BQ X o T L K):BQ X o T L K':=by
 obtain⟨h1,h2⟩:=h;refine⟨h1,gH (fun nx L' hx=>?_) (fun _ _ h=>h) _ _ h2⟩;cases nx <;> first | exact hk _ _ hx | (obtain⟨Q,g1,g2⟩:=hx;exact⟨Q,g1,fun v g9 hq=>hk _ _ (g2 v g9 hq)⟩) | exact hx
theorem Ef.cw(s:Nat){kk:Nat}{x:Bx}{cs:List Value}{Q:Nat→SV→List (Option Bx)→LH→Prop}(hs:(∃off,E s=some (.p kk off))∨(∃off len cap,E s=some (.sl kk off len cap)))(hx:nth B kk=some (some x))(hc:bC dr x.cells=some cs)
  (h:∀b,L b=none→C.R0 b=none→Ef C o (fun s=>(E s).map (jk kk b)) (B.set kk none) (L.put b (.cells cs.toArray x.ty)) (Q b)):Ef C o E B L (fun sv B' L'=>∃b,L b=none∧C.R0 b=none∧Q b sv B' L'):=by
 intro T R β hE hH;have hb:∃b,β kk=some b:=by
  rcases hs with⟨off,hs⟩ | ⟨off,len,cap,hs⟩
  ·obtain⟨b,hb,_⟩:=lV (hE s _ hs);exact⟨b,hb⟩
  ·have:=hE s _ hs;unfold den at this;cases hk:β kk with
   | none=>rw[hk] at this;cases this
   | some b=>exact⟨b,rfl⟩
 obtain⟨b,hb⟩:=hb;have jZ:B[kk]?=some (some x):=by rw[←bU];exact hx
 obtain⟨h1,h2⟩:=hH.cw hb jZ hc;have h3:=(hH.box kk b x hb jZ).2.1;have lH:aH β (fun s=>(E s).map (jk kk b)) T:=fun s y hy=>by
  rw[Option.map_eq_some_iff] at hy;obtain⟨u,g1,rfl⟩:=hy;rw[lg hb];exact hE s u g1
 refine BQ.mono ?_ (h b h1 h3 T R β lH h2);rintro v R' ⟨sv,B',L',q,g1,g2,g3⟩;refine⟨sv,B',L',⟨b,h1,h3,q⟩,g1,g2,fun k' gq=>?_⟩;rw[g3 k' gq,List.getElem?_set_ne (fun e=>by subst e;rw[hb] at gq;cases gq)]
end
section
variable {P:Program}{C:Cx P}{n:Nat}{E:Env}{B:List (Option Bx)}{L:LH}
theorem nS{H:Value→LH→Prop}{R:LH}{ad:Addr}{Q:Addr→LH→Prop}:az P Q H (asAddr (.pointer (some ad))) R=Q ad R:=rfl
theorem WM.acS{fn:Func}{Q:Value→LH→Prop}{H:List PanicEntry→LH→Prop}{va vb:Value}{a b:Tmp}{ta tb:TypeId}{aa ab:Addr}(r:Rt C fn Q H)(zN:fn.results=#[.cell a ta,.cell b tb])(ea:get E a=some (.v (.pointer (some aa))))(eb:get E b=some (.v (.pointer (some ab))))
  (ha:∀(R:LH) (Q:Value→LH→Prop) (H:Value→LH→Prop),Le L R→az P Q H (loadVar ta aa) R=Q va R)(hb:∀(R:LH) (Q:Value→LH→Prop) (H:Value→LH→Prop),Le L R→az P Q H (loadVar tb ab) R=Q vb R)(hq:Q (.tuple #[va,vb]) L):WM C n [] .returning E B L:=by
 refine WM.Sn r (fun T R β hE _ hL=>?_) hq;have e1:T.getD a undef=.pointer (some aa):=(Option.some.inj (hE _ _ ea)).symm;have e2:T.getD b undef=.pointer (some ab):=(Option.some.inj (hE _ _ eb)).symm;unfold results;rw[zN,ae,Array.mapM_eq_mapM_toList];simp only[List.mapM_cons,List.mapM_nil];rw[A9,ae];simp only[e1,e2];rw[ae,nS,ha _ _ _ hL,ae,ae,ae,nS,hb _ _ _ hL];exact⟨rfl,rfl⟩
theorem vt{t:TypeId}{a:Addr}{v:Value}(hg:eV P t=some false)(h:L.cell? a=some v)(R:LH)(Q:Value→LH→Prop)(H:Value→LH→Prop)(hL:Le L R):az P Q H (loadVar t a) R=Q v R:=lE hg (hL.cell h)
theorem Vt{t:TypeId}{a:Addr}{m:Nat}{vs:List Value}(hg:eV P t=some true)(hn:(P.info? t).map (·.size)=some m)(h:cH L a m vs)(R:LH)(Q:Value→LH→Prop)(H:Value→LH→Prop)(hL:Le L R):az P Q H (loadVar t a) R=Q (.agg vs.toArray) R:=lF hg hn (hL.cH h)
end
section
variable {P:Program}[S:Seat P]{C:Cx P}{E:a8}{B:List (Option Bx)}{L:LH}{dst:Option Tmp}{ty:TypeId}{pos:String}{af:Array Edge}{gd:Option (Nat×Bool)}
theorem Ef.copy{ts tx e e2:TypeId}{ti te:TI}{x y:Operand}{b dl dc m:Nat}{c:Array Value}{vs:List Value}(hx:aL E x=some (.v (.slice (some ⟨b,0,none⟩) dl dc)))(tR:S.τ.find ts=some ti)(hd:ti.d=.slice e)(he:S.τ.find e=some te)(hy:YC E B L te.size y m vs)(hm:m≤dl)
  (hb:L b=some (.cells c e2 (0,0),true))(hl:vs.length≤c.size)(hs:∀u∈vs,single u=true):
  Ef C ⟨dst,.call {callee:=.builtin .copy,args:=#[x,y],argTypes:=#[ts,tx]},ty,pos,af,gd⟩ E B L (fun sv B' L'=>sv=.v (.int .i64 m)∧B'=B∧L'=L.put b (.cells (db c 0 vs) e2)):=by
 intro T R β hE hH;have ex:=(Option.some.inj (hE.val hx)).symm;obtain⟨BF,hlen,nH⟩:=hy.first (P:=P) hE hH.boxes hH.le;have i1:=(TT.aD S.ok tR).d;rw[hd] at i1;refine⟨rfl,?_⟩;simp only[execOp,resolve,List.map_toArray,List.map_cons,List.map_nil,ex,pure,Sem.bind,bind,invoke,builtin];show az P _ _ (Builtin.copy_ _ _ _>>= fun u=>pure (Next.value u)) R;rw[ae];unfold Builtin.copy_;simp only[List.getElem?_toArray,List.getElem?_cons_zero,List.getElem?_cons_succ];rw[ae,ao i1];simp only;rw[ae,hlen,ae,bL (TT.aD S.ok he).size,ae];rw[show Nat.min m dl=m from Nat.min_eq_left hm];refine nH _ _ ?_;simp only;rw[ae];refine fL (e:=e2) vs 0 c R (hH.le _ _ hb) (by omega) hs (fun R' h1 h2=>?_);rw[Nat.add_zero] at h1;exact⟨.v (.int .i64 m),B,_,⟨rfl,rfl,rfl⟩,rfl,hH.m9 hb h1 h2,fun _ _=>rfl⟩
end
end Go.Mz
