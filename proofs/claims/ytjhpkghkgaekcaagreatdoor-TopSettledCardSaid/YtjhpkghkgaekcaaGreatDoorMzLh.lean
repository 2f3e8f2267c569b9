/- Lemmas on which the claim leans. -/
import Derived.Test.YtjhpkghkgaekcaaGreatDoorMzLg
set_option maxRecDepth 100000
namespace Go.Mz
open Go.Conc Go.Proofs
variable {X:ax Tryz.prog}
abbrev cL(f:List Int):List Value:=(fb f).map (Value.int .i64)
def acM(g:List bV):List bV:=[g.getD 0 ⟨0,0⟩,g.getD 1 ⟨0,0⟩]
def cF(f:List Int)(g:List bV)(n:Int):List Value:=cL f++((acM g).flatMap di++[.int .i64 n])
theorem DK(f:List Int)(g:List bV)(n:Int):(cF f g n).length=9:=rfl
theorem O5(f:List Int){g:List bV}(hg:g.length≤2)(n:Int):db (cF f [] n).toArray 4 (g.flatMap di)=(cF f g n).toArray:=by
 match g,hg with
 | [],_=>rfl
 | [a],_=>rfl
 | [a,b],_=>rfl
theorem T4(f:List Int){g:List bV}(hg:g.length≤2)(n:Int){k:Nat}(hk:k<g.length)(s:bV):db (cF f g n).toArray (4+k * 2) (di s)=(cF f (g.set k s) n).toArray:=by
 match g,hg,k,hk with
 | [a],_,0,_=>rfl
 | [a,b],_,0,_=>rfl
 | [a,b],_,1,_=>rfl
theorem T3(f:List Int)(g:List bV)(n m:Int):db (cF f g n).toArray 8 [.int .i64 m]=(cF f g m).toArray:=rfl
theorem O6{L:LH}{b:Nat}{f:List Int}{g:List bV}{n:Int}{e:TypeId}{wr:Bool}(hb:L b=some (.cells (cF f g n).toArray e (0,0),wr))(hg:g.length≤2){k:Nat}{s:bV}(hs:g[k]?=some s):cH L ((Addr.add ⟨b,0,none⟩ 4).add (k * 2)) 2 (di s):=by
 refine⟨rfl,fun i v hv=>?_⟩;rw[cK,cK,cK,Nat.zero_add];refine ay hb ?_;have hi:i<2:=(List.getElem?_eq_some_iff.1 hv).1
 match g,hg,k,hs,i,hi,hv with
 | [a],_,0,hs,0,_,hv=>obtain rfl:=Option.some.inj hs;exact hv
 | [a],_,0,hs,1,_,hv=>obtain rfl:=Option.some.inj hs;exact hv
 | [a,b],_,0,hs,0,_,hv=>obtain rfl:=Option.some.inj hs;exact hv
 | [a,b],_,0,hs,1,_,hv=>obtain rfl:=Option.some.inj hs;exact hv
 | [a,b],_,1,hs,0,_,hv=>obtain rfl:=Option.some.inj hs;exact hv
 | [a,b],_,1,hs,1,_,hv=>obtain rfl:=Option.some.inj hs;exact hv
theorem abc{L:LH}{b:Nat}{f:List Int}{g:List bV}{n:Int}{e:TypeId}{wr:Bool}(hb:L b=some (.cells (cF f g n).toArray e (0,0),wr)):L.cell? (Addr.add ⟨b,0,none⟩ 8)=some (.int .i64 n):=by
 rw[cK,Nat.zero_add];exact ay hb rfl
theorem rR{f g:List Int}(h:f.length=g.length)(h4:f.length≤4)(e:fb f=fb g):f=g:=by
 unfold fb at e;simp only[List.cons.injEq,and_true] at e;obtain⟨e0,e1,e2,e3⟩:=e;refine List.ext_getElem? fun i=>?_;have key:∀(l:List Int) (i:Nat),l[i]?=if i<l.length then some (l.getD i 0) else none:=fun l i=>by
  split
  ·rename_i hi;rw[List.getD_eq_getElem?_getD,List.getElem?_eq_getElem hi];rfl
  ·exact List.getElem?_eq_none (by omega)
 rw[key f,key g,h]
 split
 ·rename_i hi
  match i,(show i<4 by omega) with
  | 0,_=>rw[e0]
  | 1,_=>rw[e1]
  | 2,_=>rw[e2]
  | 3,_=>rw[e3]
 ·rfl
theorem Yj(f:List Int)(g:List bV)(n:Int):∀u∈cF f g n,single u=true:=fun u hu=>by
 unfold cF at hu;rcases List.mem_append.1 hu with hu | hu
 ·obtain⟨z,_,rfl⟩:=List.mem_map.1 hu;rfl
 ·rcases List.mem_append.1 hu with hu | hu
  ·obtain⟨a,_,hu⟩:=List.mem_flatMap.1 hu;exact oJ a u hu
  ·cases List.mem_singleton.1 hu;rfl
def uh(s:bV):Prop:=0≤s.lo∧s.lo≤1000∧-1≤s.hi∧s.hi≤40
theorem rj{s:bV}(h:uh s):0≤bR s∧bR s≤41:=by unfold uh at h;unfold bR;omega
theorem xz{ro:Ro}(hr:gj ro){f:List Int}(hf:∀i,0≤f.getD i 0∧f.getD i 0≤3){i:Nat}(hi:i<ro.ai.length){y:Int}(hy:0≤y∧y≤60):0≤bQ ro f i y∧bQ ro f i y≤900:=by
 have hg:=hr.gl _ (List.getElem_mem hi);have IM:=hf i;have jU:ro.ai.getD i ⟨0,0,⟨0,0⟩⟩=ro.ai[i]:=by rw[List.getD_eq_getElem?_getD,List.getElem?_eq_getElem hi];rfl
 unfold bQ;rw[jU];generalize ro.ai[i]=g at hg;have h1:f.getD i 0=0∨f.getD i 0=1∨f.getD i 0=2∨f.getD i 0=3:=by omega
 rcases h1 with e | e | e | e <;> simp only[e] <;> omega
theorem NZ{s:bV}(h:uh s){n g:Int}(hg:0≤g∧g≤900):uh (dj s (gv n g)):=by
 unfold uh at *;unfold dj gv
 split
 ·simp only;omega
 ·split <;> simp only <;> omega
theorem D6(r:Ro)(f:List Int)(ss:List Sg)(s:Sg):aI r f (ss++[s])=(aI r f ss).modify s.aJ.toNat fun x=>dj x (gv s.found (bQ r f s.cZ.toNat s.year)):=by
 unfold aI;rw[List.foldl_append];rfl
theorem zH{ro:Ro}(hr:gj ro){f:List Int}(hf:∀i,0≤f.getD i 0∧f.getD i 0≤3){ss:List Sg}(hs:∀s∈ss,zb ro s):∀x∈aI ro f ss,uh x:=by
 have key:∀(ss:List Sg) (g:List bV),(∀s∈ss,zb ro s)→(∀x∈g,uh x)→∀x∈ss.foldl (fun g s=>g.modify s.aJ.toNat fun x=>dj x (gv s.found (bQ ro f s.cZ.toNat s.year))) g,uh x:=by
  intro ss
  induction ss with
  | nil=>intro g _ h;exact h
  | cons s ss ih=>
   intro g h1 h2;refine ih _ (fun t ht=>h1 t (List.mem_cons_of_mem _ ht)) fun x hx=>?_;obtain⟨i,hi⟩:=List.mem_iff_getElem?.1 hx;rw[List.getElem?_modify] at hi;have ho:=h1 s List.mem_cons_self;cases lI:g[i]? with
   | none=>rw[lI] at hi;cases hi
   | some y=>
    rw[lI] at hi;have hy:=h2 y (List.mem_of_getElem? lI);obtain rfl:=Option.some.inj hi;simp only
    split
    ·exact NZ hy (xz hr hf (by have:=ho.g0;have:=ho.g1;omega) ⟨ho.y0,ho.y1⟩)
    ·exact hy
 refine key ss _ hs fun x hx=>?_;have:=hr.sp x hx;unfold uh;omega
theorem Da{l:List Int}(hl:l.length≤2)(h:∀x∈l,0≤x∧x≤41):0≤gG l∧gG l≤1681:=by
 match l,hl with
 | [],_=>exact⟨by decide,by decide⟩
 | [a],_=>have:=h a List.mem_cons_self;simp[gG] at *;omega
 | [a,b],_=>
  have h1:=h a (by simp);have h2:=h b (by simp);simp only[gG,List.foldl,Int.one_mul] at *;have:=Int.mul_nonneg h1.1 h2.1;have h3:a *b≤41 * 41:=Int.mul_le_mul h1.2 h2.2 h2.1 (by decide);omega
theorem F1{ro:Ro}{p:BP}{b:Nat}(f:List Int)(sa:Option Addr)(sc:Nat)(ss:List Sg)(L:LH)(hr:gj ro)(hd:Fq X L b ro p)(cA:aX L p.a0 4 eY ro.ai)(F4:aX L p.a3 2 di ro.samples)(hf:∀i,0≤f.getD i 0∧f.getD i 0≤3)(iO:aX L sa 4 fE ss)(BE:∀s∈ss,zb ro s)(jg:ss.length≤1000):
  Sp X 212 [pt b,.agg (cL f).toArray,.slice sa ss.length sc] L (fun v L'=>v=.agg (cF f (aI ro f ss) (bz (aI ro f ss))).toArray∧Le L L'):=by
 have s2:=hr.p2;have hz:[Value.int .i64 (f.getD 0 0),.int .i64 (f.getD 1 0),.int .i64 (f.getD 2 0),.int .i64 (f.getD 3 0),.int .i64 0,.int .i64 0,.int .i64 0,.int .i64 0,.int .i64 1]=cF f [] 1:=rfl;refine Sp.enter (n:=72) Tryz.func212 rfl rfl rfl rfl fun C hX _ aG r=>?_;have bE:=r.ro;obtain⟨X0,f0,BI,pf,Bq,Be,Bf⟩:=C;obtain rfl:X0=X:=hX;refine W.go 99 rfl ?_;refine W.cw 7 (.inl ⟨_,rfl⟩) rfl rfl ?_;intro b7 Qe _;have Gk:=Le.put Qe (.cells (cF f [] 1).toArray 239);have hp7:=aj L b7 (.cells (cF f [] 1).toArray 239);refine W.drawn (by kernel_rfl) L Gk ?_;refine DD.run' [0,2,3,4,5] rfl ?_;refine DD.vf 1 rfl rfl rfl rfl rfl (Vf.V5 rfl Tryz.underlying237 V3 (by decide)) ?_;refine DD.rd 6 hd.h3 rfl rfl rfl rfl rfl rfl rfl ?_;refine DD.act 7 rfl rfl rfl rfl rfl (Ef.Yn (c:=(cF f [] 1).toArray) rfl rfl rfl rfl (YC.sl (F4.le Gk) gQ rfl) s2 hp7 (by rw[oN gQ];show 4+_ * 2≤9;omega) (fun u hu=>by obtain⟨a,_,hu⟩:=List.mem_flatMap.1 hu;exact oJ a u hu)) ((by rintro _ _ _ ⟨rfl,rfl,rfl⟩;exact⟨aC Gk Qe _,rfl,.inl rfl⟩)) ?_;rintro _ _ _ ⟨rfl,rfl,rfl⟩;refine .fin rfl ?_;refine W.go 99 rfl ?_;rw[O5 f s2] at *;refine W.loop (fun m' E B L'=>∃i:Nat,m'=ss.length - i∧i≤ss.length∧Le L L'∧L' b7=some (.cells (cF f (aI ro f (ss.take i)) 1).toArray 239 (0,0),true)∧
   E=[(0,.v (pt b)),(4,.p 0 0),(6,.p 1 0),(7,.v (pt b7)),(21,.v (.slice sa ss.length sc)),(22,.v (.int .i64 ss.length)),(23,.v (.int .i64 i))]∧B=[some ⟨(cL f).map .v,236⟩,some ⟨eK (.v J4.z),239⟩])
  ⟨0,rfl,by omega,aC Gk Qe _,aj _ _ _,rfl,rfl⟩ (by exact⟨rfl,rfl,rfl,rfl,rfl,rfl,rfl,trivial⟩) (by exact⟨rfl,rfl,trivial⟩) ?_ rfl (gX _ _ rfl)
 rintro _ _ _ L1 ⟨i,rfl,hi,ec,dN,rfl,rfl⟩ again;clear hp7 Gk;refine W.go 99 rfl ?_;refine W.split rfl rfl rfl (fun d1=>W.go 99 rfl ?_) (fun d1=>W.go 99 rfl ?_)
 ·have hi:i<ss.length:=by simpa using d1
  have hx:=List.getElem?_eq_getElem hi;have eI:ss.take (i+1)=ss.take i++[ss[i]]:=List.take_succ_eq_append_getElem hi;have ho:=BE _ (List.getElem_mem hi);generalize ss[i]=sg at hx eI ho;obtain⟨sn,JN,sy,sf⟩:=sg;have o1:=ho.s0;have o2:=ho.s1;have o3:=ho.g0;have o4:=ho.g1;have o5:=ho.y0;have o6:=ho.y1;have o7:=ho.fd;simp only at o1 o2 o3 o4 o5 o6 o7;obtain⟨k,rfl⟩:∃k:Nat,sn=(k:Int):=⟨sn.toNat,by omega⟩;obtain⟨q,rfl⟩:∃q:Nat,JN=(q:Int):=⟨JN.toNat,by omega⟩;obtain⟨a,rfl⟩:=iO.addr hi;have iN:(aI ro f (ss.take i)).length=ro.samples.length:=fR _ _ _;obtain⟨s,hs⟩:∃s,(aI ro f (ss.take i))[k]?=some s:=⟨_,List.getElem?_eq_getElem (by omega)⟩;refine W.vf rfl rfl rfl rfl (Vf.idx rfl rfl rfl rfl rfl rfl (hi)) ?_;refine W.go 99 rfl ?_;refine W.vf rfl rfl rfl rfl (Vf.cO rfl rfl rfl ((iO.le ec).whole hx rfl)) ?_;refine W.go 99 rfl ?_;have Qq:=xz hr hf (show q<ro.ai.length by omega) ⟨o5,o6⟩;refine W.drawn (by kernel_rfl) L1 (Le.refl _) ?_;refine DD.run' [0,1,2,3,4,7,8,10,12,13,14,15,22] rfl ?_;refine DD.vf 5 rfl rfl rfl rfl rfl (Vf.Ru rfl rfl rfl rfl rfl rfl ((show k<2 by omega))) ?_;refine DD.vf 6 rfl rfl rfl rfl rfl (Vf.cO rfl rfl rfl (O6 dN (by omega) hs)) ?_;refine DD.vf 11 rfl rfl rfl rfl rfl (Vf.RI rfl rfl rfl rfl rfl rfl) ?_;refine DD.act 9 rfl rfl rfl rfl rfl (Ef.call rfl (PN sf L1 o7)) (by rintro _ _ _ ⟨_,rfl,rfl,rfl,rfl⟩;exact⟨Le.refl _,rfl,.inl rfl⟩) ?_;rintro _ _ _ ⟨_,rfl,rfl,rfl,rfl⟩;refine DD.run' [17] rfl ?_;refine DD.vf 18 rfl rfl rfl rfl rfl (Iv sf o7 rfl) ?_;refine DD.run' [19] rfl ?_;refine DD.act 16 rfl rfl rfl rfl rfl (Ef.call rfl (BZ f q sy L1 hr (hd.le ec) (cA.le ec) hf (show q<ro.ai.length by omega) ⟨o5,o6⟩)) (by rintro _ _ _ ⟨_,rfl,rfl,rfl,rfl⟩;exact⟨Le.refl _,rfl,.inl rfl⟩) ?_;rintro _ _ _ ⟨_,rfl,rfl,rfl,rfl⟩;refine DD.act 20 rfl rfl rfl rfl rfl (FE sf (bQ ro f q sy) o7 (by omega) rfl rfl) ((by rintro _ _ _ ⟨_,rfl,rfl,rfl,rfl⟩;exact⟨Le.refl _,rfl,.inl rfl⟩)) ?_;rintro _ _ _ ⟨_,rfl,rfl,rfl,rfl⟩;refine DD.act 21 rfl rfl rfl rfl rfl (Ef.call rfl (Ey s (gv sf (bQ ro f q sy)) L1)) (by rintro _ _ _ ⟨_,rfl,rfl,rfl,rfl⟩;exact⟨Le.refl _,rfl,.inl rfl⟩) ?_;rintro _ _ _ ⟨_,rfl,rfl,rfl,rfl⟩;refine DD.vf 23 rfl rfl rfl rfl rfl (Vf.Ru rfl rfl rfl rfl rfl rfl ((show k<2 by omega))) ?_;refine .rest 24 rfl rfl rfl rfl ?_;refine W.dY rfl rfl (Ef.vN (b:=b7) (off:=4+k * 2) rfl ⟨_,rfl,rfl⟩ rfl (by rw[cK,cK,Nat.zero_add]) dN rfl (by show 4+k * 2+2≤9;omega) (oJ _)) ?_;rintro _ _ _ ⟨rfl,rfl,rfl⟩;refine W.go 99 rfl ?_;have dP:db (cF f (aI ro f (ss.take i)) 1).toArray (4+k * 2) (di (dj s (gv sf (bQ ro f q sy))))=(cF f (aI ro f (ss.take (i+1))) 1).toArray:=by
   rw[T4 f (by omega) 1 (by omega),eI,D6,GQ _ (by exact hs)]
   rfl
  exact W.again (again _ _ _ _ (by omega) ⟨i+1,rfl,by omega,aC ec Qe _,by rw[aj];exact congrArg (fun c=>some (Obj.cells c 239 (0,0),true)) dP,rfl,rfl⟩) (by exact⟨rfl,rfl,rfl,rfl,rfl,rfl,congrArg some (bu (by omega)),trivial⟩) (by exact⟨rfl,rfl,trivial⟩) rfl (gX _ _ rfl)
 ·have iZ:i=ss.length:=by simp at d1;omega
  subst iZ;rw[List.take_length] at dN;clear again;have iN:(aI ro f ss).length=ro.samples.length:=fR _ _ _;have kT:=zH hr hf BE;refine W.rd (hd.h3.le ec) r.ro rfl rfl rfl rfl rfl rfl ?_;refine W.go 99 rfl ?_;refine W.loop (fun m' E B L'=>∃j:Nat,m'=ro.samples.length - j∧j≤ro.samples.length∧Le L L'∧L' b7=some (.cells (cF f (aI ro f ss) (gG (((aI ro f ss).take j).map bR))).toArray 239 (0,0),true)∧
    E=[(0,.v (pt b)),(4,.p 0 0),(6,.p 1 0),(7,.v (pt b7)),(57,.v (.int .i64 ro.samples.length)),(58,.v (.int .i64 j))]∧B=[some ⟨(cL f).map .v,236⟩,some ⟨eK (.v J4.z),239⟩])
   ⟨0,rfl,by omega,ec,dN,rfl,rfl⟩ (by exact⟨rfl,rfl,rfl,rfl,rfl,rfl,trivial⟩) (by exact⟨rfl,rfl,trivial⟩) ?_ rfl (gX _ _ rfl)
  rintro _ _ _ L2 ⟨j,rfl,hj,bZ,eR,rfl,rfl⟩ again;clear dN ec;refine W.go 99 rfl ?_;refine W.split rfl rfl rfl (fun d2=>W.go 99 rfl ?_) (fun d2=>W.go 99 rfl ?_)
  ·have hj:j<ro.samples.length:=by simpa using d2
   have Zr:(aI ro f ss)[j]?=some (aI ro f ss)[j]:=List.getElem?_eq_getElem (by omega);have iO:=kT _ (List.getElem_mem (show j<(aI ro f ss).length by omega));generalize(aI ro f ss)[j]=s at Zr iO;have fZ:=rj iO;have ed:=Da (l:=((aI ro f ss).take j).map bR) (by simp;omega) (fun x hx=>by
    obtain⟨y,hy,rfl⟩:=List.mem_map.1 hx;exact rj (kT y (List.mem_of_mem_take hy)))
   have BB:0≤gG (((aI ro f ss).take j).map bR) *bR s∧gG (((aI ro f ss).take j).map bR) *bR s≤1681 * 41:=⟨Int.mul_nonneg ed.1 fZ.1,Int.mul_le_mul ed.2 fZ.2 fZ.1 (by decide)⟩;have eI:gG (((aI ro f ss).take (j+1)).map bR)=gG (((aI ro f ss).take j).map bR) *bR s:=by
    rw[List.take_add_one,Zr,List.map_append,Option.toList_some,List.map_cons,List.map_nil,G3]
   unfold uh at iO;refine W.drawn (by kernel_rfl) L2 (Le.refl _) ?_;refine DD.run' [0,2,3] rfl ?_;refine DD.vf 1 rfl rfl rfl rfl rfl (Vf.load rfl rfl rfl (abc eR)) ?_;refine DD.vf 4 rfl rfl rfl rfl rfl (Vf.Ru rfl rfl rfl rfl rfl rfl ((show j<2 by omega))) ?_;refine DD.vf 5 rfl rfl rfl rfl rfl (Vf.cO rfl rfl rfl (O6 eR (by omega) Zr)) ?_;refine DD.act 6 rfl rfl rfl rfl rfl (Ef.call rfl (mZ s L2 (by omega))) (by rintro _ _ _ ⟨_,rfl,rfl,rfl,rfl⟩;exact⟨Le.refl _,rfl,.inl rfl⟩) ?_;rintro _ _ _ ⟨_,rfl,rfl,rfl,rfl⟩;refine DD.run' [7,8] rfl ?_;refine .rest 9 rfl rfl rfl rfl ?_;refine W.dY rfl rfl (Ef.gn (b:=b7) (off:=8) rfl ⟨_,rfl,rfl⟩ rfl eR rfl (by show 8+1≤9;omega) (bY rfl)) ?_;rintro _ _ _ ⟨rfl,rfl,rfl⟩;refine W.go 99 rfl ?_;have dP:db (cF f (aI ro f ss) (gG (((aI ro f ss).take j).map bR))).toArray 8 [.int .i64 (IntKind.i64.wrap (gG (((aI ro f ss).take j).map bR) *bR s))]=(cF f (aI ro f ss) (gG (((aI ro f ss).take (j+1)).map bR))).toArray:=by
    rw[wrap64_in _ (by omega) (by omega),T3,eI]
   exact W.again (again _ _ _ _ (by omega) ⟨j+1,rfl,by omega,aC bZ Qe _,by rw[aj];exact congrArg (fun c=>some (Obj.cells c 239 (0,0),true)) dP,rfl,rfl⟩) (by exact⟨rfl,rfl,rfl,rfl,rfl,congrArg some (bu (by omega)),trivial⟩) (by exact⟨rfl,rfl,trivial⟩) rfl (gX _ _ rfl)
  ·have yu:j=ro.samples.length:=by simp at d2;omega
   subst yu;rw[←iN,List.take_length] at eR;refine W.vf rfl rfl rfl rfl (Vf.cO rfl rfl rfl (gN eR (DK _ _ _))) ?_;refine W.dY rfl rfl (Ef.acU rfl rfl rfl rfl (DK _ _ _) rfl (Yj _ _ _)) ?_;rintro _ _ _ ⟨rfl,rfl,rfl⟩;refine W.dv [] 2 rfl ?_;exact W.VN r rfl rfl rfl rfl rfl rfl (DK _ _ _) ⟨rfl,bZ⟩
end Go.Mz
set_option maxRecDepth 100000
namespace Go.Mz
open Go.Conc Go.ConcN Go.Proofs
open Go.ConcR (KK wgBlock WgAt stA smA rd wr)
abbrev FG:=List Int×List bV
def zu(x:FG)(j:Nat):MapEntry:={key:=.agg (cL x.1).toArray,val:=.agg (cF x.1 x.2 (bz x.2)).toArray,born:=j}
def fh(xs:List FG):Array MapEntry:=(xs.zipIdx.map fun z=>zu z.1 z.2).toArray
theorem Je(xs:List FG)(x:FG):fh (xs++[x])=(fh xs).push (zu x xs.length):=by
 unfold fh;rw[List.zipIdx_append,List.map_append];simp
theorem mI{xs:List FG}{e:MapEntry}(h:e∈fh xs):∃x,xs[e.born]?=some x∧e=zu x e.born:=by
 unfold fh at h;rw[List.mem_toArray] at h;obtain⟨⟨x,j⟩,hz,rfl⟩:=List.mem_map.1 h;exact⟨x,(List.mem_zipIdx_iff_getElem?.1 hz),rfl⟩
structure GZ where
 W:Nat
 X:Nat
 N:Nat
 B:Nat
 ro:Ro
 p:BP
 n:Nat
 base:Nat
abbrev GZ.fl(z:GZ):List (List Int):=aS z.ro.ai
def GZ.kx(z:GZ)(i:Nat):FG:=(z.fl.getD i [-1],aI z.ro (z.fl.getD i [-1]) z.ro.ak)
noncomputable abbrev GZ.z (z:GZ):RZ:={W:=z.W,X:=z.X,N:=z.N,B:=z.B,v0:=.slice z.p.a0 z.ro.ai.length z.p.c0,v1:=.slice z.p.a1 z.ro.steps.length z.p.c1,v2:=.slice z.p.a2 z.ro.aA.length z.p.c2,v3:=.slice z.p.a3 z.ro.samples.length z.p.c3,v4:=.slice z.p.a4 z.ro.ak.length z.p.c4,n:=z.n,base:=z.base,len:=z.fl.length,ob:=fun K=>.map (fh (K.map z.kx)) K.length,keep:=fun i=>decide (0<bz (z.kx i).2)}
variable {z:GZ}
theorem Jb{f:Nat}{s:Ws}{L:LH}{k:Nat}{v:Value}(h:(k<5∧(fT z.ro z.p)[k]?=some v)∨(k=7∧v=.map (some z.B))):Rd (LZ z.z f s) L ⟨z.X,k,none⟩ v:=.inl fun w hw=>by
 obtain⟨_,⟨st,sm,hx⟩,_⟩:=hw;rw[eP (a:=⟨z.X,k,none⟩) hx];rcases h with⟨h1,h2⟩ | ⟨rfl,rfl⟩
 ·match k,h1,h2 with
  | 0,_,h2=>exact h2
  | 1,_,h2=>exact h2
  | 2,_,h2=>exact h2
  | 3,_,h2=>exact h2
  | 4,_,h2=>exact h2
 ·rfl
theorem Wj(z:RZ)(J:Option Nat)(L:LH)(f:Nat)(T:Mu.Th)(hT:T.pc=.own):Ft (LZ z f ⟨.put,T,J⟩) 238 [iB ⟨z.X,5,none⟩] L (fun Y L'=>∃f',f'≤f∧Y=LZ z f' ⟨.idle,{pc:=.out,left:=T.left},J⟩∧L'=L):=by
 refine Ft.enter (n:=6) Tryz.func238 rfl rfl rfl rfl fun C hX hf aG r=>?_;obtain⟨X0,f0,BI,pf,Bq,Be,Bf⟩:=C;obtain rfl:X0=_:=hX;refine W.go 99 rfl ?_;refine W.kN (args:=[iB ⟨z.X,5,none⟩]) rfl rfl rfl rfl (Vk z J L f T hT) ?_;rintro Y v _ ⟨f4,By,rfl,rfl,rfl⟩;refine W.go 99 rfl ?_;exact W.aaw (r.to _) rfl (.inl rfl) ⟨f4,By,rfl,rfl⟩
theorem Kv(f:List Int)(g:List bV)(n:Int):Value.agg (cF f g n).toArray=.agg #[.int .i64 (f.getD 0 0),.int .i64 (f.getD 1 0),.int .i64 (f.getD 2 0),.int .i64 (f.getD 3 0),.int .i64 (g.getD 0 ⟨0,0⟩).lo,.int .i64 (g.getD 0 ⟨0,0⟩).hi,.int .i64 (g.getD 1 ⟨0,0⟩).lo,.int .i64 (g.getD 1 ⟨0,0⟩).hi,.int .i64 n]:=rfl
theorem vq{a b c d:Int}(em:Bool)(Q:Unit→LH→Prop)(H:Value→LH→Prop)(R:LH):az Tryz.prog Q H (Instr.checkKey em 10000 236 (.agg #[.int .i64 a,.int .i64 b,.int .i64 c,.int .i64 d])) R=Q () R:=by
 kernel_rfl
theorem Vl(i l f:Nat)(L:LH)(hl:l≠0)(hk:z.z.keep i=true)(hdj:∀j,j≠i→fb (z.kx j).1≠fb (z.kx i).1):
  jO (LZ z.z f ⟨.idle,{pc:=.out,left:=l},some i⟩) 213 [pt z.X,.agg (cF (z.kx i).1 (z.kx i).2 (bz (z.kx i).2)).toArray] L (fun Y v L'=>∃f',f'≤f∧Y=LZ z.z f' ⟨.idle,{pc:=.out,left:=l - 1},none⟩∧v=.tuple #[]∧L'=L):=by
 rw[Kv];refine jO.enter (n:=18) Tryz.func213 rfl rfl rfl rfl fun C hX hf aG r=>?_;have aM:C.kd≠.early:=by rcases r.kd with e | e <;> rw[e] <;> decide
 obtain⟨X0,f0,BI,pf,Bq,Be,Bf⟩:=C;obtain rfl:X0=_:=hX;refine W.go 99 rfl ?_;refine W.kN (args:=[iB ⟨z.X,5,none⟩]) rfl rfl rfl rfl (Z9 z.z (some i) L l f hl i rfl hk) ?_;rintro Y v _ ⟨f2,K,jT,rfl,hK,rfl,rfl⟩;refine W.go 99 rfl ?_;refine W.DX (args:=[iB ⟨z.X,5,none⟩]) r.ro rfl rfl rfl ?_;refine W.go 99 rfl ?_;refine W.drawn (by kernel_rfl) _ (Le.refl _) ?_;refine DD.run' [0,1,2,4] rfl ?_;refine DD.rd 3 (Jb (z:=z) (.inr ⟨rfl,rfl⟩)) rfl rfl rfl rfl rfl rfl rfl ?_;refine DD.run' [5,6] rfl ?_;refine .rest 7 rfl rfl rfl rfl ?_;have Q1:z.z.b.ob (K++[i])=.map ((fh (K.map z.kx)).push {key:=.agg (cL (z.kx i).1).toArray,val:=.agg (cF (z.kx i).1 (z.kx i).2 (bz (z.kx i).2)).toArray,born:=K.length}) (K.length+1):=by
  show Obj.map (fh ((K++[i]).map z.kx)) (K++[i]).length=_;rw[List.map_append,List.map_singleton,Je,List.length_map,List.length_append]
  rfl
 have lL:∀y∈(fh (K.map z.kx)).toList,∃ys:List Int,ys.length=4∧y.key=bX ys∧ys≠fb (z.kx i).1:=by
  intro y hy;obtain⟨x,hx,Vb⟩:=mI (Array.mem_def.2 hy);obtain⟨j,hj,rfl⟩:=List.mem_map.1 (List.mem_of_getElem? hx);refine⟨fb (z.kx j).1,rfl,by rw[Vb];rfl,hdj j fun e=>?_⟩;subst e;exact hK j rfl hj
 refine W.upd (b:=z.z.b) (T:={pc:=.own,left:=l - 1}) (J:=some i) (i0:=i) (K:=K) (es:=fh (K.map z.kx)) (clk:=K.length) rfl rfl hk r.ro rfl rfl rfl rfl rfl rfl rfl Tryz.underlying230 rfl Q1 (fun em Q H R=>vq em Q H R) (fun Q H R=>uT Tryz.underlying236 Tryz.underlying3 xe BT rfl lL Q) fun f3 Ee=>?_;refine W.go 99 rfl ?_;refine W.out r.ro (.inl .nil) ?_;refine WM.Ua (args:=[iB ⟨z.X,5,none⟩]) (Wj z.z none _ f3 {pc:=.own,left:=l - 1} rfl) ?_;rintro Y _ ⟨f4,By,rfl,rfl⟩;exact WM.iy (r.to _) rfl rfl ⟨f4,by omega,rfl,rfl,rfl⟩
end Go.Mz
