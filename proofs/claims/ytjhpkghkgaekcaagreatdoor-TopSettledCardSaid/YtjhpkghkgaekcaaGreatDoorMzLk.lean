/- Lemmas on which the claim leans. -/
import Derived.Test.YtjhpkghkgaekcaaGreatDoorMzLj
set_option maxRecDepth 100000
namespace Go.Mz
open Go.Conc Go.Proofs
variable {X:ax Tryz.prog}
theorem wQ{xs:List FG}{i:Nat}{x:FG}(h:xs[i]?=some x):(fh xs)[i]?=some (zu x i):=by
 unfold fh;rw[List.getElem?_toArray,List.getElem?_map,List.getElem?_zipIdx,h];simp
theorem zX{xs:List FG}{e:MapEntry}(h:e∈fh xs):(fh xs).find? (fun x=>x.born==e.born)=some e:=by
 obtain⟨x,hx,he⟩:=mI h;have aU:=(List.getElem?_eq_some_iff.1 hx).1;have hg:=wQ hx;rw[←he] at hg;have hb:∀(j:Nat) (y:MapEntry),(fh xs)[j]?=some y→y.born=j:=fun j y hy=>by
  unfold fh at hy;rw[List.getElem?_toArray,List.getElem?_map,List.getElem?_zipIdx] at hy;obtain⟨z,hz,rfl⟩:=Option.map_eq_some_iff.1 hy;obtain⟨u,_,rfl⟩:=Option.map_eq_some_iff.1 hz;simp[zu]
 have hl:(fh xs).toList[e.born]?=some e:=by rw[Array.getElem?_toList];exact hg
 rw[←Array.toArray_toList (xs:=fh xs),List.find?_toArray,List.find?_eq_some_iff_getElem];obtain⟨h1,h2⟩:=List.getElem?_eq_some_iff.1 hl;refine⟨by simp,e.born,h1,h2,fun j hj=>?_⟩;have:=hb j (fh xs).toList[j] (by rw[←Array.getElem?_toList,List.getElem?_eq_getElem]);rw[this];simp;omega
theorem jL(a:Int)(l:List Int):gL (a::l)=a+gL l:=by
 have key:∀(l:List Int) (b c:Int),l.foldl (·+·) (b+c)=b+l.foldl (·+·) c:=fun l=>by
  induction l with
  | nil=>intro b c;rfl
  | cons x l ih=>intro b c;rw[List.foldl_cons,List.foldl_cons,Int.add_assoc,ih]
 unfold gL;rw[List.foldl_cons];have:=key l a 0;rw[Int.zero_add]
 rwa [Int.add_zero] at this
theorem AZ{l m:List Int}(h:l.Perm m):gL l=gL m:=by
 induction h with
 | nil=>rfl
 | cons x _ ih=>rw[jL,jL,ih]
 | swap x y l=>rw[jL,jL,jL,jL];omega
 | trans _ _ h1 h2=>rw[h1,h2]
def po(F:FG→Int)(xs:List FG)(seen:List Nat):Int:=gL (seen.map fun j=>(xs[j]?.map F).getD 0)
theorem JW{F:FG→Int}{xs:List FG}{seen:List Nat}{j:Nat}{x:FG}(h:xs[j]?=some x):po F xs (seen++[j])=po F xs seen+F x:=by
 unfold po;rw[List.map_append,List.map_singleton,Df,h];rfl
theorem N5{F:FG→Int}{xs:List FG}{seen:List Nat}(hn:seen.Nodup)(h1:∀j∈seen,j<xs.length)(h2:∀j,j<xs.length→j∈seen):po F xs seen=gL (xs.map F):=by
 have hp:seen.Perm (List.range xs.length):=(List.perm_ext_iff_of_nodup hn List.nodup_range).2 fun j=>by rw[List.mem_range];exact⟨h1 j,h2 j⟩
 unfold po;rw[AZ (hp.map _)]
 congr 1
 refine List.ext_getElem? fun i=>?_;rw[List.getElem?_map,List.getElem?_map]
 by_cases h:i<xs.length
 ·rw[List.getElem?_range h,List.getElem?_eq_getElem h];show some ((Option.map F xs[i]?).getD 0)=_;rw[List.getElem?_eq_getElem h];rfl
 ·rw[List.getElem?_eq_none (by simp;omega),List.getElem?_eq_none (by omega)];rfl
theorem nK{ro:Ro}(ok:gj ro){x:FG}(h:x∈aT ro ro.ak):x.2.length=ro.samples.length∧(∀s∈x.2,uh s)∧0<bz x.2∧bz x.2≤1681∧(∀s∈x.2,0<bR s)∧x.1∈aS ro.ai:=by
 unfold aT at h;obtain⟨h1,h2⟩:=List.mem_filter.1 h;obtain⟨f,hf,rfl⟩:=List.mem_map.1 h1;have h2:0<bz (aI ro f ro.ak):=by simpa using h2
 have kT:=zH ok (It ok hf) ok.si;have hl:(aI ro f ro.ak).length=ro.samples.length:=fR _ _ _;have p2:=ok.p2;refine⟨hl,kT,h2,?_,fun s hs=>?_,hf⟩
 ·exact(Da (l:=(aI ro f ro.ak).map bR) (by rw[List.length_map];omega) (fun x hx=>by
   obtain⟨y,hy,rfl⟩:=List.mem_map.1 hx;exact rj (kT y hy))).2
 ·exact w6 h2 (fun x hx=>by
   obtain⟨y,hy,rfl⟩:=List.mem_map.1 hx;exact(rj (kT y hy)).1) _ (List.mem_map.2 ⟨s,hs,rfl⟩)
theorem Mn{ro:Ro}(ok:gj ro)(k:Nat):0≤(bh ro k).lo∧(bh ro k).lo≤40∧0≤(bh ro k).hi∧(bh ro k).hi≤40:=by
 have hd:∀i,0≤ro.steps.getD i 0∧ro.steps.getD i 0≤40:=fun i=>by
  rw[List.getD_eq_getElem?_getD];cases h:ro.steps[i]? with
  | none=>exact⟨by simp,by simp⟩
  | some x=>have:=ok.st x (List.mem_of_getElem? h);simp only[Option.getD_some];omega
 have h1:=hd (k - 1);unfold bh;refine⟨?_,?_,?_,?_⟩ <;> simp only <;> split <;> first | omega | skip
 ·rename_i hk;have hm:=ok.st (ro.steps.getD k 0) (by rw[List.getD_eq_getElem?_getD,List.getElem?_eq_getElem hk];exact List.getElem_mem hk);omega
 ·have:=hd k;omega
theorem J6{ro:Ro}(ok:gj ro){x:FG}(h:x∈aT ro ro.ak){k:Nat}(hk:k<ro.samples.length)(s:bV)(hs:0≤s.lo∧s.lo≤40∧0≤s.hi∧s.hi≤40):0≤cW x.2 k s∧cW x.2 k s≤68921:=by
 obtain⟨h1,h2,h3,h4,h5,_⟩:=nK ok h;have QG:x.2[k]?=some (x.2.getD k ⟨0,0⟩):=by rw[List.getD_eq_getElem?_getD,List.getElem?_eq_getElem (show k<x.2.length by omega)];rfl
 have hm:=h2 _ (List.mem_of_getElem? QG);have hp:=h5 _ (List.mem_of_getElem? QG);unfold uh at hm;have IU:0≤bR (dj (x.2.getD k ⟨0,0⟩) s)∧bR (dj (x.2.getD k ⟨0,0⟩) s)≤41:=by unfold bR dj;simp only;omega
 have Q7:0≤(bz x.2).tdiv (bR (x.2.getD k ⟨0,0⟩)):=Int.tdiv_nonneg (by omega) (by omega);have Gs:(bz x.2).tdiv (bR (x.2.getD k ⟨0,0⟩))≤1681:=by
  have h1:(bz x.2).tdiv (bR (x.2.getD k ⟨0,0⟩))≤bz x.2:=by
   rw[Int.tdiv_eq_ediv_of_nonneg (by omega)];exact Int.ediv_le_self _ (by omega)
  omega
 have e1:=Int.mul_nonneg Q7 IU.1;have e2:(bz x.2).tdiv (bR (x.2.getD k ⟨0,0⟩)) *bR (dj (x.2.getD k ⟨0,0⟩) s)≤1681 * 41:=Int.mul_le_mul Gs IU.2 IU.1 (by decide);exact⟨e1,e2⟩
theorem Ig{bb mb:Nat}{ro:Ro}{p:BP}{ks:List FG}(sm k:Nat)(L:LH)(h:jD L bb mb ro p ks)(ok:gj ro)(kT:sm<ro.samples.length)(hk:k≤ro.steps.length):Sp X 308 [pt bb,.int .i64 sm,.int .i64 k] L (fun v L'=>v=.int .i64 (iJ ro sm k)∧Le L L'):=by
 have yo:(aS ro.ai).length≤256:=by
  refine Nat.le_trans (pD fun g hg=>?_) (Nat.pow_le_pow_right (n:=4) (by decide) ok.g4);have:=ok.gl g hg;omega
 have UR:ks.length≤256:=by
  rw[h.pm.length_eq];unfold aT;refine Nat.le_trans (List.length_filter_le _ _) ?_;rw[List.length_map];exact yo
 have Gi:∀x∈ks,x∈aT ro ro.ak:=fun x hx=>h.pm.mem_iff.1 hx;have tw:=Mn ok k;have hF:∀x∈ks,0≤cW x.2 sm (bh ro k)∧cW x.2 sm (bh ro k)≤68921:=fun x hx=>J6 ok (Gi x hx) kT _ tw;have p2:=ok.p2;refine Sp.enter (n:=28) Tryz.func308 rfl rfl rfl rfl fun C hX _ aG r=>?_;refine W.go 99 rfl ?_;refine W.vf rfl rfl rfl rfl (Vf.load rfl rfl rfl (h.m7)) ?_;refine W.go 99 rfl ?_;refine W.aB rfl rfl rfl (Ef.range rfl Tryz.underlying230 h.mp) ?_;rintro _ _ _ ⟨q,rfl,rfl,hq,rfl⟩;have QV:mb≠q:=fun e=>by subst e;rw[h.mp] at hq;cases hq
 have Rh:(fh ks).size=ks.length:=by unfold fh;simp
 refine W.go 99 rfl ?_;refine W.loop (fun m' E B L'=>∃(seen:Array Nat),m'=ks.length - seen.size∧seen.toList.Nodup∧(∀j∈seen.toList,j<ks.length)∧Le L L'∧L' q=some (.mapIter (some mb) ks.length seen ks.length,true)∧
   E=[(0,.v (pt bb)),(1,.v (.int .i64 sm)),(2,.v (.int .i64 k)),(7,.v (.int .i64 (po (fun x=>cW x.2 sm (bh ro k)) ks seen.toList))),(14,.v (.pointer (some ⟨q,0,none⟩)))]∧B=[])
  ⟨#[],rfl,by simp,(fun j hj=>by simp at hj),Le.put hq _,aj _ _ _,rfl,rfl⟩ (by exact⟨rfl,rfl,rfl,rfl,rfl,trivial⟩) (by exact trivial) ?_
 rintro _ _ _ L2 ⟨seen,rfl,fZ,aU,bZ,Gt,rfl,rfl⟩ again;have IH:∀e∈fh ks,e.born<ks.length∧e.born<ks.length:=fun e he=>by
  obtain⟨x,hx,_⟩:=mI he;have:=(List.getElem?_eq_some_iff.1 hx).1;exact⟨this,this⟩
 have h2:=h.le bZ;refine W.go 99 rfl ?_;refine W.aB rfl rfl rfl (Ef.next rfl Gt h2.mp IH) ?_;rintro _ _ _ ⟨rfl,iG⟩;rcases iG with⟨rfl,cz,rfl⟩ | ⟨e,he,Gn,rfl,rfl⟩
 ·have Rg:po (fun x=>cW x.2 sm (bh ro k)) ks seen.toList=iJ ro sm k:=by
   rw[N5 fZ aU (fun j hj=>?_)]
   ·exact AZ (h.pm.map _)
   ·have:=cz _ (Array.mem_of_getElem? (wQ (List.getElem?_eq_getElem hj)))
    simpa [zu] using this
  rw[Rg];refine W.go 99 rfl ?_;refine W.split rfl rfl rfl (fun c=>absurd c (by decide)) (fun c=>?_);refine W.go 99 rfl ?_;refine W.ret r rfl rfl ?_;exact⟨rfl,bZ⟩
 ·obtain⟨x,hx,GA⟩:=mI he;have Na:=zX he;obtain⟨ek,ev,eb⟩:=e;obtain⟨rfl,rfl⟩:ek=.agg (cL x.1).toArray∧ev=.agg (cF x.1 x.2 (bz x.2)).toArray:=by cases GA;exact⟨rfl,rfl⟩
  dsimp only at hx Na Gn;have zR:=(List.getElem?_eq_some_iff.1 hx).1;have vm:=List.mem_of_getElem? hx;obtain⟨m1,m2,m3,m4,m5,_⟩:=nK ok (Gi x vm);have lL:eb∉seen.toList:=fun hm=>by
   have:seen.contains eb=true:=by simpa using hm
   rw[this] at Gn;cases Gn
  have Cv:(seen.push eb).toList.Nodup:=by
   rw[Array.toList_push,List.nodup_append];exact⟨fZ,by simp,fun a ha b hb=>by rw[List.mem_singleton.1 hb];exact fun e=>lL (e▸ha)⟩
  have vi:∀j∈(seen.push eb).toList,j<ks.length:=fun j hj=>by
   rw[Array.toList_push] at hj;rcases List.mem_append.1 hj with h | h
   ·exact aU j h
   ·rw[List.mem_singleton.1 h];exact zR
  have ed:=Hc Cv vi;rw[Array.toList_push,List.length_append,List.length_singleton,Array.length_toList] at ed;have UW:ks.length - (seen.push eb).size<ks.length - seen.size:=by rw[Array.size_push];omega
  have dP:Le L (L2.put q (.mapIter (some mb) ks.length (seen.push eb) ks.length)):=aC bZ hq _;have h3:=h.le dP;have hFx:=hF x vm;have Gu:=SY 68921 (seen.toList.map fun j=>((ks[j]?.map fun x=>cW x.2 sm (bh ro k)).getD 0)) (fun y hy=>by
   obtain⟨j,_,rfl⟩:=List.mem_map.1 hy;cases hj:ks[j]? with
   | none=>exact⟨by simp,by simp⟩
   | some z=>exact hF z (List.mem_of_getElem? hj))
  rw[List.length_map,Array.length_toList] at Gu;have jg:po (fun x=>cW x.2 sm (bh ro k)) ks (seen.push eb).toList=po (fun x=>cW x.2 sm (bh ro k)) ks seen.toList+cW x.2 sm (bh ro k):=by
   rw[Array.toList_push,JW hx]
  have hwr:IntKind.i64.wrap (po (fun x=>cW x.2 sm (bh ro k)) ks seen.toList+cW x.2 sm (bh ro k))=po (fun x=>cW x.2 sm (bh ro k)) ks (seen.push eb).toList:=by
   rw[jg];have:0≤po (fun x=>cW x.2 sm (bh ro k)) ks seen.toList∧po (fun x=>cW x.2 sm (bh ro k)) ks seen.toList≤((68921:Nat):Int) * (seen.size:Int):=Gu;exact wrap64_in _ (by omega) (by omega)
  refine W.go 99 rfl ?_;refine W.split rfl rfl rfl (fun c=>?_) (fun c=>absurd c (by decide));refine W.go 99 rfl ?_;refine W.vf rfl rfl rfl rfl (Vf.entry (e:=⟨.agg (cL x.1).toArray,.agg (cF x.1 x.2 (bz x.2)).toArray,eb⟩) rfl (aj _ _ _) (dP _ _ h.mp) (by simp) Na) ?_;rw[Kv];refine W.go 99 rfl ?_;refine W.drawn (by kernel_rfl) _ (Le.refl _) ?_;refine DD.run' [0,1,2,3,4] rfl ?_;refine DD.act 5 rfl rfl rfl rfl rfl (Ef.call rfl (OU k _ h3 ok hk)) (by rintro _ _ _ ⟨_,rfl,rfl,rfl,rfl⟩;exact⟨Le.refl _,rfl,.inl rfl⟩) ?_;rintro _ _ _ ⟨_,rfl,rfl,rfl,rfl⟩;refine DD.act 6 rfl rfl rfl rfl rfl (Ef.call rfl (N9 x.1 x.2 sm (bh ro k) _ (by omega) (by omega) m2 (by omega) (m5 _ (by rw[List.getD_eq_getElem?_getD,List.getElem?_eq_getElem (show sm<x.2.length by omega)];exact List.getElem_mem _)) (by omega))) (by rintro _ _ _ ⟨_,rfl,rfl,rfl,rfl⟩;exact⟨Le.refl _,rfl,.inl rfl⟩) ?_;rintro _ _ _ ⟨_,rfl,rfl,rfl,rfl⟩;refine DD.run' [7,8] rfl ?_;refine .fin rfl ?_;refine W.go 99 rfl ?_;rw[hwr];exact W.again (again _ _ _ _ UW ⟨seen.push eb,rfl,Cv,vi,dP,aj _ _ _,rfl,rfl⟩) (by exact⟨rfl,rfl,rfl,rfl,rfl,trivial⟩) (by exact trivial)
section
variable {X:ax Tryz.prog}
abbrev oF(ro:Ro)(sm n:Nat):List Int:=((List.range n).filter fun k=>decide (0<iJ ro sm k)).map fun(k:Nat)=>(k:Int)
theorem Ii(ro:Ro)(sm n:Nat):oF ro sm (n+1)=if 0<iJ ro sm n then oF ro sm n++[(n:Int)] else oF ro sm n:=by
 unfold oF;rw[List.range_succ,List.filter_append]
 by_cases h:0<iJ ro sm n
 ·rw[if_pos h,List.filter_cons_of_pos (by simpa using h)];simp
 ·rw[if_neg h,List.filter_cons_of_neg (by simpa using h)];simp
theorem BY(ro:Ro)(sm n:Nat):(oF ro sm n).length≤n:=by
 unfold oF;rw[List.length_map];have:=List.length_filter_le (fun k=>decide (0<iJ ro sm k)) (List.range n)
 rwa [List.length_range] at this
theorem Ih{bb mb:Nat}{ro:Ro}{p:BP}{ks:List FG}(sm:Nat)(L:LH)(h:jD L bb mb ro p ks)(ok:gj ro)(kT:sm<ro.samples.length):Sp X 306 [pt bb,.int .i64 sm] L (fun v L'=>bM L 1 3 cj L' v (oF ro sm ro.aA.length)):=by
 have t3:=ok.t3;have d1:=ok.d1;refine Sp.enter (n:=27) Tryz.func306 rfl rfl rfl rfl fun C hX _ aG r=>?_;refine W.go 99 rfl ?_;refine W.vf rfl rfl rfl rfl (Vf.load rfl rfl rfl (h.D5 2 _ (by decide) rfl)) ?_;refine W.go 99 rfl ?_;refine W.loop (fun m' E B L'=>∃(i:Nat) (v:Value),m'=ro.aA.length - i∧i≤ro.aA.length∧bM L 1 3 cj L' v (oF ro sm i)∧
   E=[(0,.v (pt bb)),(1,.v (.int .i64 sm)),(5,.v v),(12,.v (.int .i64 ro.aA.length)),(13,.v (.int .i64 i))]∧B=[])
  ⟨0,.slice none 0 0,rfl,by omega,bM.nil (Le.refl _),rfl,rfl⟩ (by exact⟨rfl,rfl,rfl,rfl,rfl,trivial⟩) (by exact trivial) ?_
 rintro _ _ _ L1 ⟨i,v,rfl,hi,hg,rfl,rfl⟩ again;have h1:=h.le hg.1;refine W.go 99 rfl ?_;refine W.split rfl rfl rfl (fun e1=>?_) (fun e1=>?_)
 ·have hi:i<ro.aA.length:=by simpa using e1
  refine W.go 99 rfl ?_;refine W.aB rfl rfl rfl (Ef.call rfl (Ig sm i L1 h1 ok kT (by omega))) ?_;rintro _ _ _ ⟨_,rfl,rfl,rfl,hl⟩;rename_i L2;have oS:=hg.le hl;have Ep:=Ii ro sm i;have QR:=BY ro sm i;refine W.go 99 rfl ?_
  by_cases hc:0<iJ ro sm i
  ·rw[if_pos hc] at Ep;rw[decide_eq_true hc];refine W.split rfl rfl rfl (fun c=>?_) (fun c=>absurd c (by decide));refine W.go 99 rfl ?_;refine W.aB rfl rfl rfl (Ef.grow rfl rfl rfl rfl rfl rfl rfl rfl rfl aV iF oS (ls:=[(i:Int)]) (.own rfl rfl rfl rfl) ((by rw[List.length_singleton];omega))) ?_;rintro _ _ _ ⟨v1,rfl,rfl,fe,_⟩;refine W.go 99 rfl ?_;exact W.again (again _ _ _ _ (by omega) ⟨i+1,_,rfl,hi,by rw[Ep];exact fe,rfl,rfl⟩) (by exact⟨rfl,rfl,rfl,rfl,congrArg some (bu (by omega)),trivial⟩) (by exact trivial)
  ·rw[if_neg hc] at Ep;rw[decide_eq_false hc];refine W.split rfl rfl rfl (fun c=>absurd c (by decide)) (fun c=>?_);refine W.go 99 rfl ?_;exact W.again (again _ _ _ _ (by omega) ⟨i+1,_,rfl,hi,by rw[Ep];exact oS,rfl,rfl⟩) (by exact⟨rfl,rfl,rfl,rfl,congrArg some (bu (by omega)),trivial⟩) (by exact trivial)
 ·have iZ:i=ro.aA.length:=by simp at e1;omega
  subst iZ;refine W.go 99 rfl ?_;refine W.ret r rfl rfl ?_;exact hg
def uH(l:List Int):List Value:=[.int .i64 (lA l),.int .i64 (ov l),.bool (!l.isEmpty)]
theorem xK{l:List Int}(h:l≠[])(x:Int):lA (l++[x])=min (lA l) x:=by
 cases l with
 | nil=>exact absurd rfl h
 | cons a l=>unfold lA;simp[List.foldl_append]
theorem z7{l:List Int}(h:l≠[])(x:Int):ov (l++[x])=max (ov l) x:=by
 cases l with
 | nil=>exact absurd rfl h
 | cons a l=>unfold ov;simp[List.foldl_append]
theorem lO(L:LH)(b:Nat)(o1 o2:Obj):(L.put b o1).put b o2=L.put b o2:=by
 funext y
 by_cases e:y=b
 ·subst e;rw[aj,aj]
 ·rw[au _ _ e,au _ _ e,au _ _ e]
theorem Wb(b:Nat)(l:List Int)(x:Int)(a:Addr)(c:Nat)(L:LH)(hb:L b=some (.cells (uH l).toArray 447 (0,0),true))(hx:aN (L.cD b) (some a) [x]):Sp X 307 [pt b,.slice (some a) 1 c] L (fun v L'=>v=.tuple #[]∧L'=L.put b (.cells (uH (l++[x])).toArray 447)):=by
 have jZ:aN L (some a) [x]:=hx.le (jo _ _);refine Sp.enter (n:=47) Tryz.func307 rfl rfl rfl rfl fun C hX _ aG r=>?_;refine W.go 99 rfl ?_;refine W.kW ?_;refine W.go 99 rfl ?_;refine W.split rfl rfl rfl (fun c=>?_) (fun c=>absurd c (by decide));refine W.go 99 rfl ?_;refine W.vf rfl rfl rfl rfl (Vf.aW rfl rfl rfl rfl rfl rfl rfl (Nat.one_pos)) ?_;refine W.go 99 rfl ?_;refine W.vf rfl rfl rfl rfl (Vf.load rfl rfl rfl (jZ.int (show[x][0]?=some x from rfl))) ?_;refine W.go 99 rfl ?_;refine W.vf rfl rfl rfl rfl (Vf.load rfl rfl rfl (ay hb rfl)) ?_;refine W.go 99 rfl ?_;cases l with
 | nil=>
  refine W.split rfl rfl rfl (fun c=>?_) (fun c=>Bool.noConfusion (show true=false from c));refine W.go 99 rfl ?_;refine W.dY rfl rfl (Ef.gn rfl ⟨_,rfl,rfl⟩ rfl hb rfl (by decide) (bY rfl)) ?_;rintro _ _ _ ⟨rfl,rfl,rfl⟩;refine W.go 99 rfl ?_;refine W.dY rfl rfl (Ef.gn rfl ⟨_,rfl,rfl⟩ rfl (aj _ _ _) rfl (show 1+1≤3 by decide) (bY rfl)) ?_;rintro _ _ _ ⟨rfl,rfl,rfl⟩;refine W.go 99 rfl ?_;refine W.dY rfl rfl (Ef.gn rfl ⟨_,rfl,rfl⟩ rfl (aj _ _ _) rfl (show 2+1≤3 by decide) (bY rfl)) ?_;rintro _ _ _ ⟨rfl,rfl,rfl⟩;refine W.go 99 rfl ?_;rw[lO,lO];have dN:=aj L b (.cells #[.int .i64 x,.int .i64 x,.bool true] 447)
  change W _ _ _ _ _ _ (L.put b (.cells #[.int .i64 x,.int .i64 x,.bool true] 447))
  refine W.drawn (by kernel_rfl) oY (aE _) ?_;refine DD.run' [0,1,2,3,4,6,8,9,10,12] rfl ?_;refine DD.OQ 5 11 rfl rfl rfl rfl rfl rfl rfl rfl (Ef.val rfl (Vf.load rfl rfl rfl (ay dN rfl))) (Ef.val rfl (Vf.load rfl rfl rfl (ay dN rfl))) (by rintro _ _ _ ⟨rfl,rfl,rfl⟩;exact⟨aE _,rfl,.inl rfl⟩) (by rintro _ _ _ ⟨rfl,rfl,rfl⟩;exact⟨aE _,rfl,.inl rfl⟩) ?_ ?_
  ·rintro _ _ _ ⟨rfl,rfl,rfl⟩;refine DD.run' [7] rfl ?_;refine DD.act 11 rfl rfl rfl rfl rfl (Ef.val rfl (Vf.load rfl rfl rfl (ay dN rfl))) (by rintro _ _ _ ⟨rfl,rfl,rfl⟩;exact⟨aE _,rfl,.inl rfl⟩) ?_;rintro _ _ _ ⟨rfl,rfl,rfl⟩;refine DD.run' [13,14,15] rfl ?_;refine DD.act 16 rfl rfl rfl rfl rfl (Ef.gn rfl ⟨_,rfl,rfl⟩ rfl dN rfl (show 0+1≤3 by decide) (bY rfl)) (by rintro _ _ _ ⟨rfl,rfl,rfl⟩;exact⟨aE _,rfl,.inl rfl⟩) ?_;rintro _ _ _ ⟨rfl,rfl,rfl⟩;refine DD.run' [17,18] rfl ?_;refine DD.act 19 rfl rfl rfl rfl rfl (Ef.gn rfl ⟨_,rfl,rfl⟩ rfl (aj _ _ _) rfl (show 1+1≤3 by decide) (bY rfl)) (by rintro _ _ _ ⟨rfl,rfl,rfl⟩;exact⟨aE _,rfl,.inl rfl⟩) ?_;rintro _ _ _ ⟨rfl,rfl,rfl⟩;refine .fin rfl ?_;refine W.go 99 rfl ?_;refine W.dJ ?_;refine W.go 99 rfl ?_;refine W.split rfl rfl rfl (fun c=>Bool.noConfusion (show false=true from c)) (fun c=>?_);refine W.go 99 rfl ?_;refine W.lP r rfl rfl ⟨rfl,?_⟩;rw[lO,lO];show L.put b (.cells #[.int .i64 (if x<x then x else x),.int .i64 (if x>x then x else x),.bool true] 447)=_;rw[ite_self];rfl
  ·rintro _ _ _ ⟨rfl,rfl,rfl⟩;refine DD.run' [13] rfl ?_;refine DD.act 5 rfl rfl rfl rfl rfl (Ef.val rfl (Vf.load rfl rfl rfl (ay dN rfl))) (by rintro _ _ _ ⟨rfl,rfl,rfl⟩;exact⟨aE _,rfl,.inl rfl⟩) ?_;rintro _ _ _ ⟨rfl,rfl,rfl⟩;refine DD.run' [7,14,15] rfl ?_;refine DD.act 16 rfl rfl rfl rfl rfl (Ef.gn rfl ⟨_,rfl,rfl⟩ rfl dN rfl (show 0+1≤3 by decide) (bY rfl)) (by rintro _ _ _ ⟨rfl,rfl,rfl⟩;exact⟨aE _,rfl,.inl rfl⟩) ?_;rintro _ _ _ ⟨rfl,rfl,rfl⟩;refine DD.run' [17,18] rfl ?_;refine DD.act 19 rfl rfl rfl rfl rfl (Ef.gn rfl ⟨_,rfl,rfl⟩ rfl (aj _ _ _) rfl (show 1+1≤3 by decide) (bY rfl)) (by rintro _ _ _ ⟨rfl,rfl,rfl⟩;exact⟨aE _,rfl,.inl rfl⟩) ?_;rintro _ _ _ ⟨rfl,rfl,rfl⟩;refine .fin rfl ?_;refine W.go 99 rfl ?_;refine W.dJ ?_;refine W.go 99 rfl ?_;refine W.split rfl rfl rfl (fun c=>Bool.noConfusion (show false=true from c)) (fun c=>?_);refine W.go 99 rfl ?_;refine W.lP r rfl rfl ⟨rfl,?_⟩;rw[lO,lO];show L.put b (.cells #[.int .i64 (if x<x then x else x),.int .i64 (if x>x then x else x),.bool true] 447)=_;rw[ite_self];rfl
 | cons y l=>
  refine W.split rfl rfl rfl (fun c=>Bool.noConfusion (show false=true from c)) (fun c=>?_);refine W.go 99 rfl ?_;refine W.drawn (by kernel_rfl) oY (aE _) ?_;refine DD.run' [0,1,2,3,4,6,8,9,10,12] rfl ?_;refine DD.OQ 5 11 rfl rfl rfl rfl rfl rfl rfl rfl (Ef.val rfl (Vf.load rfl rfl rfl (ay hb rfl))) (Ef.val rfl (Vf.load rfl rfl rfl (ay hb rfl))) (by rintro _ _ _ ⟨rfl,rfl,rfl⟩;exact⟨aE _,rfl,.inl rfl⟩) (by rintro _ _ _ ⟨rfl,rfl,rfl⟩;exact⟨aE _,rfl,.inl rfl⟩) ?_ ?_
  ·rintro _ _ _ ⟨rfl,rfl,rfl⟩;refine DD.run' [7] rfl ?_;refine DD.act 11 rfl rfl rfl rfl rfl (Ef.val rfl (Vf.load rfl rfl rfl (ay hb rfl))) (by rintro _ _ _ ⟨rfl,rfl,rfl⟩;exact⟨aE _,rfl,.inl rfl⟩) ?_;rintro _ _ _ ⟨rfl,rfl,rfl⟩;refine DD.run' [13,14,15] rfl ?_;refine DD.act 16 rfl rfl rfl rfl rfl (Ef.gn rfl ⟨_,rfl,rfl⟩ rfl hb rfl (show 0+1≤3 by decide) (bY rfl)) (by rintro _ _ _ ⟨rfl,rfl,rfl⟩;exact⟨aE _,rfl,.inl rfl⟩) ?_;rintro _ _ _ ⟨rfl,rfl,rfl⟩;refine DD.run' [17,18] rfl ?_;refine DD.act 19 rfl rfl rfl rfl rfl (Ef.gn rfl ⟨_,rfl,rfl⟩ rfl (aj _ _ _) rfl (show 1+1≤3 by decide) (bY rfl)) (by rintro _ _ _ ⟨rfl,rfl,rfl⟩;exact⟨aE _,rfl,.inl rfl⟩) ?_;rintro _ _ _ ⟨rfl,rfl,rfl⟩;refine .fin rfl ?_;refine W.go 99 rfl ?_;refine W.dJ ?_;refine W.go 99 rfl ?_;refine W.split rfl rfl rfl (fun c=>Bool.noConfusion (show false=true from c)) (fun c=>?_);refine W.go 99 rfl ?_;refine W.lP r rfl rfl ⟨rfl,?_⟩;rw[lO];exact congrArg (fun c=>LH.put _ b (Obj.cells c 447)) (show#[Value.int .i64 (if x<lA (y::l) then x else lA (y::l)),.int .i64 (if x>ov (y::l) then x else ov (y::l)),.bool true]=(uH (y::l++[x])).toArray by rw[Ez,Ex,←xK (by simp),←z7 (by simp)];rfl)
  ·rintro _ _ _ ⟨rfl,rfl,rfl⟩;refine DD.run' [13] rfl ?_;refine DD.act 5 rfl rfl rfl rfl rfl (Ef.val rfl (Vf.load rfl rfl rfl (ay hb rfl))) (by rintro _ _ _ ⟨rfl,rfl,rfl⟩;exact⟨aE _,rfl,.inl rfl⟩) ?_;rintro _ _ _ ⟨rfl,rfl,rfl⟩;refine DD.run' [7,14,15] rfl ?_;refine DD.act 16 rfl rfl rfl rfl rfl (Ef.gn rfl ⟨_,rfl,rfl⟩ rfl hb rfl (show 0+1≤3 by decide) (bY rfl)) (by rintro _ _ _ ⟨rfl,rfl,rfl⟩;exact⟨aE _,rfl,.inl rfl⟩) ?_;rintro _ _ _ ⟨rfl,rfl,rfl⟩;refine DD.run' [17,18] rfl ?_;refine DD.act 19 rfl rfl rfl rfl rfl (Ef.gn rfl ⟨_,rfl,rfl⟩ rfl (aj _ _ _) rfl (show 1+1≤3 by decide) (bY rfl)) (by rintro _ _ _ ⟨rfl,rfl,rfl⟩;exact⟨aE _,rfl,.inl rfl⟩) ?_;rintro _ _ _ ⟨rfl,rfl,rfl⟩;refine .fin rfl ?_;refine W.go 99 rfl ?_;refine W.dJ ?_;refine W.go 99 rfl ?_;refine W.split rfl rfl rfl (fun c=>Bool.noConfusion (show false=true from c)) (fun c=>?_);refine W.go 99 rfl ?_;refine W.lP r rfl rfl ⟨rfl,?_⟩;rw[lO];exact congrArg (fun c=>LH.put _ b (Obj.cells c 447)) (show#[Value.int .i64 (if x<lA (y::l) then x else lA (y::l)),.int .i64 (if x>ov (y::l) then x else ov (y::l)),.bool true]=(uH (y::l++[x])).toArray by rw[Ez,Ex,←xK (by simp),←z7 (by simp)];rfl)
end
end Go.Mz
set_option maxRecDepth 100000
namespace Go.Mz
open Go.Conc Go.Proofs
variable {Post:Value→World→Prop}{W0:World}
theorem Ma(ro:Ro)(x:Int):dI ro x=if qZ ro (some x) none≠0 then(⟨0,0⟩,qZ ro (some x) none) else(⟨lA ((bS ro x.toNat).map fun k=>ro.aA.getD k 0),ov ((bS ro x.toNat).map fun k=>ro.aA.getD k 0)⟩,0):=by
 unfold dI qZ uf
 by_cases h1:dK ro≠0
 ·rw[if_pos h1,if_pos h1,if_pos h1,if_pos h1]
 ·rw[if_neg h1,if_neg h1];cases h2:bq x 0 ((ro.samples.length:Int) - 1) with
  | false=>
   have ha:iV ro (some x) none=3:=by unfold iV;rw[show xw ro (some x)=false from h2]
   rw[ha]
   rfl
  | true=>
   have ha:iV ro (some x) none=0:=by unfold iV;rw[show xw ro (some x)=true from h2];rfl
   rw[ha]
   by_cases h3:aT ro ro.ak=[]
   ·rw[if_pos h3];simp[h3]
   ·rw[if_neg h3];simp[h3]
theorem Vn{ro:Ro}{x:Int}(h:qZ ro (some x) none=0):bq x 0 ((ro.samples.length:Int) - 1)=true:=by
 unfold qZ uf at h
 by_cases h1:dK ro≠0
 ·rw[if_pos h1,if_pos h1] at h;exact absurd h h1
 ·rw[if_neg h1] at h;cases h2:bq x 0 ((ro.samples.length:Int) - 1) with
  | false=>
   have ha:iV ro (some x) none=3:=by unfold iV;rw[show xw ro (some x)=false from h2]
   rw[ha] at h;cases h
  | true=>rfl
theorem TA(ro:Ro)(p:BP)(x:Int)(L:LH)(cA:fD L ro p):Sp (kG Tryz.prog Post W0) 305 [qy ro p,.int .i64 x] L (fun v L'=>v=.tuple #[yD (dI ro x).1,.int .i64 (dI ro x).2]∧Dm L L'):=by
 refine Sp.enter (n:=43) Tryz.func305 rfl rfl rfl rfl fun C hX _ aG r=>?_;refine W.dv [15] 99 rfl ?_;refine W.cw 14 (.inr ⟨_,_,_,rfl⟩) rfl rfl ?_;intro q hq _;have e1:Le L (L.put q (.cells #[.int .i64 x] 3)):=Le.put hq _;have k1:=aj L q (.cells #[.int .i64 x] 3)
 change W _ _ _ _ _ _ (L.put q (.cells #[.int .i64 x] 3))
 generalize L.put q (.cells #[.int .i64 x] 3)=L1 at e1 k1 ⊢;have eD:=GC (Post:=Post) (W0:=W0) ro p (some ⟨q,0,none⟩) 1 (some x) none L1 (cA.le e1) (cE (e:=3) aV k1) (fun _ _ h=>by cases h);rw[show Option.map (·.2) (none:Option (Addr×Int))=none from rfl] at eD;rw[←hX] at eD;refine W.go 99 rfl ?_;refine W.aB rfl rfl rfl (Ef.call rfl (eD)) ?_;rintro _ _ _ ⟨_,rfl,rfl,hc⟩;rw[Ma] at r;rcases hc with⟨he,rfl,hl⟩ | ⟨he,ok,aY,bb,mb,ks,rfl,nq,kD⟩
 ·rw[if_pos he] at r;generalize qZ ro (some x) none=e at he r;refine W.go 99 rfl ?_;have h0:(e !=0)=true:=by simpa using he
  rw[h0];refine W.split rfl rfl rfl (fun c=>?_) (fun c=>absurd c (by decide));refine W.go 99 rfl ?_;refine W.ret r rfl rfl ?_;exact⟨rfl,(Dm.of_le e1).trans hl⟩
 ·have mD:=vn (Vn he);rw[if_neg (by simpa using he)] at r;obtain⟨sm,rfl⟩:∃sm:Nat,x=(sm:Int):=⟨x.toNat,by omega⟩;rw[Int.toNat_natCast] at r;rename_i L2;refine W.go 99 rfl ?_;refine W.split rfl rfl rfl (fun c=>absurd c (by decide)) (fun c=>?_);refine W.dv [22] 99 rfl ?_;refine W.cw 8 (.inl ⟨_,rfl⟩) rfl rfl ?_;intro b8 h8 _;have e8:Le L2 (L2.put b8 (.cells (uH []).toArray 447)):=Le.put h8 _;have k8:=aj L2 b8 (.cells (uH []).toArray 447)
  change W _ _ _ _ _ _ (L2.put b8 (.cells (uH []).toArray 447))
  generalize L2.put b8 (.cells (uH []).toArray 447)=L3 at e8 k8 ⊢;refine W.cG (E':=[(1,.v (.int .i64 sm)),(2,.p 0 0),(4,.p 1 0),(6,.v (pt bb)),(8,.v (pt b8))]) (B':=[some ⟨(fT ro p).map .v,48⟩,some ⟨LL.z.cells.toList.map .v,88⟩]) (by exact⟨rfl,rfl,rfl,rfl,rfl,trivial⟩) (by exact⟨rfl,rfl,trivial⟩) ?_ rfl (gX _ _ rfl);refine W.go 99 rfl ?_;refine W.aB rfl rfl rfl (Ef.call rfl (Ih sm L3 (nq.le e8) ok (by omega))) ?_;rintro _ _ _ ⟨v,rfl,rfl,hg⟩;rename_i L4;obtain⟨la,lc,rfl,US⟩:=hg.slice;have Bu:=hg.1 _ _ k8;have sA:aX (L4.cD b8) la 1 cj (oF ro sm ro.aA.length):=(bM.vI hg aV Bu (by decide)).2;have W5:aN (L4.cD b8) p.a2 ro.aA:=nq.at_.h2.le (gE (e8.trans hg.1) h8);have abM:Dm L (L4.cD b8):=((Dm.of_le e1).trans kD).trans (Dm.of_le (gE (e8.trans hg.1) h8));have jR:oF ro sm ro.aA.length=(bS ro sm).map fun(k:Nat)=>(k:Int):=rfl;have hlen:(oF ro sm ro.aA.length).length=(bS ro sm).length:=by rw[jR,List.length_map]
  have tE:=BY ro sm ro.aA.length;have hd4:=ok.d1;have ht3:=ok.t3;rw[hlen] at US tE;refine W.go 99 rfl ?_;refine W.loop (fun m' E B L'=>∃i:Nat,m'=(bS ro sm).length - i∧i≤(bS ro sm).length∧Le (L4.cD b8) L'∧L' b8=some (.cells (uH (((bS ro sm).take i).map fun k=>ro.aA.getD k 0)).toArray 447 (0,0),true)∧
    E=[(2,.p 0 0),(4,.p 1 0),(8,.v (pt b8)),(24,.v (.slice la (bS ro sm).length lc)),(25,.v (.int .i64 (bS ro sm).length)),(26,.v (.int .i64 i))]∧B=[some ⟨(fT ro p).map .v,48⟩,some ⟨LL.z.cells.toList.map .v,88⟩])
   ⟨0,rfl,by omega,jo _ _,Bu,rfl,rfl⟩ (by rw[hlen];exact⟨rfl,rfl,rfl,rfl,rfl,rfl,trivial⟩) (by exact⟨rfl,rfl,trivial⟩) ?_ rfl (gX _ _ rfl)
  rintro _ _ _ L5 ⟨i,rfl,hi,sj,tD,rfl,rfl⟩ again;refine W.go 99 rfl ?_;refine W.split rfl rfl rfl (fun c1=>?_) (fun c1=>?_)
  ·have hi:i<(bS ro sm).length:=by simpa using c1
   have hx:(bS ro sm)[i]?=some (bS ro sm)[i]:=List.getElem?_eq_getElem hi;have aM:(bS ro sm)[i]<ro.aA.length:=by
    have:=List.getElem_mem hi;unfold bS at this;exact List.mem_range.1 (List.mem_filter.1 this).1
   have eI:(bS ro sm).take (i+1)=(bS ro sm).take i++[(bS ro sm)[i]]:=List.take_succ_eq_append_getElem hi;generalize(bS ro sm)[i]=k at hx aM eI;have qx:(oF ro sm ro.aA.length)[i]?=some (k:Int):=by rw[jR,List.getElem?_map,hx];rfl
   have Zf:ro.aA[k]?=some (ro.aA.getD k 0):=by rw[List.getD_eq_getElem?_getD,List.getElem?_eq_getElem aM];rfl
   obtain⟨a,rfl⟩:=sA.addr (show i<(oF ro sm ro.aA.length).length by omega);obtain⟨da,hda⟩:=W5.addr aM;refine W.go 99 rfl ?_;refine W.vf rfl rfl rfl rfl (Vf.aW rfl rfl rfl rfl rfl rfl rfl (hi)) ?_;refine W.go 99 rfl ?_;refine W.vf rfl rfl rfl rfl (Vf.load rfl rfl rfl ((sA.le sj).int qx)) ?_;refine W.go 99 rfl ?_;have W4:=W5;rw[hda] at W4 ⊢;refine W.vf rfl rfl rfl rfl (Vf.aW rfl rfl rfl rfl rfl rfl rfl (aM)) ?_;refine W.go 99 rfl ?_;refine W.vf rfl rfl rfl rfl (Vf.load rfl rfl rfl ((W4.le sj).int Zf)) ?_;refine W.go 99 rfl ?_;refine W.cw 35 (.inr ⟨_,_,_,rfl⟩) rfl rfl ?_;intro u hu _;have hub:u≠b8:=fun e=>by subst e;rw[tD] at hu;cases hu
   have eu:Le L5 (L5.put u (.cells #[.int .i64 (ro.aA.getD k 0)] 3)):=Le.put hu _;have ku:aN ((L5.put u (.cells #[.int .i64 (ro.aA.getD k 0)] 3)).cD b8) (some ⟨u,0,none⟩) [ro.aA.getD k 0]:=cE (e:=3) aV (by rw[dg hub];exact aj _ _ _);have hb6:=eu _ _ tD;have qt:=sj.trans eu
   change W _ _ _ _ _ _ (L5.put u (.cells #[.int .i64 (ro.aA.getD k 0)] 3))
   generalize L5.put u (.cells #[.int .i64 (ro.aA.getD k 0)] 3)=L6 at ku hb6 qt ⊢;refine W.go 99 rfl ?_;refine W.aB rfl rfl rfl (Ef.call rfl (Wb b8 (((bS ro sm).take i).map fun k=>ro.aA.getD k 0) (ro.aA.getD k 0) ⟨u,0,none⟩ 1 L6 hb6 ku)) ?_;rintro _ _ _ ⟨_,rfl,rfl,rfl,rfl⟩;refine W.go 99 rfl ?_;have il:(((bS ro sm).take (i+1)).map fun k=>ro.aA.getD k 0)=(((bS ro sm).take i).map fun k=>ro.aA.getD k 0)++[ro.aA.getD k 0]:=by rw[eI,List.map_append];rfl
   exact W.again (again _ _ _ _ (by omega) ⟨i+1,rfl,hi,aC qt (jF _ _) _,by rw[il];exact aj _ _ _,rfl,rfl⟩) (by exact⟨rfl,rfl,rfl,rfl,rfl,congrArg some (bu (by omega)),trivial⟩) (by exact⟨rfl,rfl,trivial⟩) rfl (gX _ _ rfl)
  ·have iZ:i=(bS ro sm).length:=by simp at c1;omega
   subst iZ;rw[List.take_length] at tD;refine W.go 99 rfl ?_;refine W.vf rfl rfl rfl rfl (Vf.load rfl rfl rfl (ay tD rfl)) ?_;refine W.go 99 rfl ?_;refine W.vf rfl rfl rfl rfl (Vf.load rfl rfl rfl (ay tD rfl)) ?_;refine W.go 99 rfl ?_;refine W.ret r rfl rfl ?_;exact⟨rfl,abM.trans (Dm.of_le sj)⟩
end Go.Mz
set_option maxRecDepth 100000
namespace Go.Mz
open Go.Conc Go.Proofs
variable {X:ax Tryz.prog}
def wP(ro:Ro)(y:Int)(k:Nat):Bool:=decide ((ro.ai.getD k ⟨0,0,⟨0,0⟩⟩).made≤y)
abbrev pM(ro:Ro)(y:Int)(n:Nat):List Int:=((List.range n).filter (wP ro y)).map fun(k:Nat)=>(k:Int)
theorem GP(ro:Ro)(y:Int)(n:Nat):pM ro y (n+1)=if wP ro y n=true then pM ro y n++[(n:Int)] else pM ro y n:=by
 unfold pM;rw[List.range_succ,List.filter_append]
 by_cases h:wP ro y n=true
 ·rw[if_pos h,List.filter_cons_of_pos h];simp
 ·rw[if_neg h,List.filter_cons_of_neg h];simp
theorem Jc(ro:Ro)(y:Int)(n:Nat):(pM ro y n).length≤n:=by
 unfold pM;rw[List.length_map];have:=List.length_filter_le (wP ro y) (List.range n)
 rwa [List.length_range] at this
theorem Vx{bb mb:Nat}{ro:Ro}{p:BP}{ks:List FG}(y:Int)(L:LH)(h:jD L bb mb ro p ks)(ok:gj ro):Sp X 85 [pt bb,.int .i64 y] L (fun v L'=>bM L 1 3 cj L' v (pM ro y ro.ai.length)):=by
 have g4:=ok.g4;have g1:=ok.g1;have h0:=h.D5 0 _ (by decide) rfl;have cA:=h.at_.h0;obtain⟨a0,a1,a2,a3,a4,k0,k1,k2,k3,k4⟩:=p;obtain⟨a,ha⟩:=cA.addr (show 0<ro.ai.length by omega);obtain rfl:a0=some a:=ha;refine Sp.enter (n:=29) Tryz.func85 rfl rfl rfl rfl fun C hX _ aG r=>?_;refine W.go 99 rfl ?_;refine W.vf rfl rfl rfl rfl (Vf.load rfl rfl rfl (h0)) ?_;refine W.go 99 rfl ?_;refine W.loop (fun m' E B L'=>∃(i:Nat) (v:Value),m'=ro.ai.length - i∧i≤ro.ai.length∧bM L 1 3 cj L' v (pM ro y i)∧
   E=[(0,.v (pt bb)),(1,.v (.int .i64 y)),(5,.v v),(12,.v (.slice (some a) ro.ai.length k0)),(13,.v (.int .i64 ro.ai.length)),(14,.v (.int .i64 i))]∧B=[])
  ⟨0,.slice none 0 0,rfl,by omega,bM.nil (Le.refl _),rfl,rfl⟩ (by exact⟨rfl,rfl,rfl,rfl,rfl,rfl,trivial⟩) (by exact trivial) ?_
 rintro _ _ _ L1 ⟨i,v,rfl,hi,hg,rfl,rfl⟩ again;refine W.go 99 rfl ?_;refine W.split rfl rfl rfl (fun e1=>?_) (fun e1=>?_)
 ·have hi:i<ro.ai.length:=by simpa using e1
  have hx:=List.getElem?_eq_getElem hi;have Ep:=GP ro y i;have QR:=Jc ro y i;have QS:wP ro y i=decide (ro.ai[i].made≤y):=by unfold wP;rw[List.getD_eq_getElem?_getD,hx];rfl
  refine W.go 99 rfl ?_;refine W.vf rfl rfl rfl rfl (Vf.idx rfl rfl rfl rfl rfl rfl (hi)) ?_;refine W.go 99 rfl ?_;refine W.vf rfl rfl rfl rfl (Vf.cO rfl rfl rfl ((cA.le hg.1).whole hx rfl)) ?_;refine W.go 99 rfl ?_
  by_cases hc:ro.ai[i].made≤y
  ·rw[QS,decide_eq_true hc,if_pos rfl] at Ep;rw[decide_eq_true hc];refine W.split rfl rfl rfl (fun c=>?_) (fun c=>absurd c (by decide));refine W.go 99 rfl ?_;refine W.aB rfl rfl rfl (Ef.grow rfl rfl rfl rfl rfl rfl rfl rfl rfl aV iF hg (ls:=[(i:Int)]) (.own rfl rfl rfl rfl) ((by rw[List.length_singleton];omega))) ?_;rintro _ _ _ ⟨v1,rfl,rfl,fe,_⟩;refine W.go 99 rfl ?_;exact W.again (again _ _ _ _ (by omega) ⟨i+1,_,rfl,hi,by rw[Ep];exact fe,rfl,rfl⟩) (by exact⟨rfl,rfl,rfl,rfl,rfl,congrArg some (bu (by omega)),trivial⟩) (by exact trivial)
  ·rw[QS,decide_eq_false hc,if_neg (by simp)] at Ep;rw[decide_eq_false hc];refine W.split rfl rfl rfl (fun c=>absurd c (by decide)) (fun c=>?_);refine W.go 99 rfl ?_;exact W.again (again _ _ _ _ (by omega) ⟨i+1,_,rfl,hi,by rw[Ep];exact hg,rfl,rfl⟩) (by exact⟨rfl,rfl,rfl,rfl,rfl,congrArg some (bu (by omega)),trivial⟩) (by exact trivial)
 ·have iZ:i=ro.ai.length:=by simp at e1;omega
  subst iZ;refine W.go 99 rfl ?_;refine W.ret r rfl rfl ?_;exact hg
theorem aax(c g:Int)(L:LH):Sp X 122 [.int .i64 c,.int .i64 g] L (fun v L'=>v=.int .i64 (eJ c g)∧L=L'):=by
 by_cases h1:g<c
 ·have e:eJ c g=0:=by unfold eJ;rw[if_pos h1]
  rw[e];refine Sp.enter (n:=30) Tryz.func122 rfl rfl rfl rfl fun C hX _ aG r=>?_;refine W.go 99 rfl ?_;rw[decide_eq_true h1];refine W.split rfl rfl rfl (fun c=>?_) (fun c=>absurd c (by decide));refine W.go 99 rfl ?_;refine W.split rfl rfl rfl (fun c=>absurd c (by decide)) (fun c=>?_);refine W.go 99 rfl ?_;refine W.split rfl rfl rfl (fun c=>?_) (fun c=>absurd c (by decide));refine W.go 99 rfl ?_;exact W.ret r rfl rfl ⟨rfl,rfl⟩
 ·by_cases h2:c<g
  ·have e:eJ c g=2:=by unfold eJ;rw[if_neg h1,if_pos h2]
   rw[e];refine Sp.enter (n:=30) Tryz.func122 rfl rfl rfl rfl fun C hX _ aG r=>?_;refine W.go 99 rfl ?_;rw[decide_eq_false h1];refine W.split rfl rfl rfl (fun c=>absurd c (by decide)) (fun c=>?_);refine W.go 99 rfl ?_;rw[decide_eq_true h2];refine W.split rfl rfl rfl (fun c=>?_) (fun c=>absurd c (by decide));refine W.go 99 rfl ?_;refine W.split rfl rfl rfl (fun c=>absurd c (by decide)) (fun c=>?_);refine W.go 99 rfl ?_;refine W.split rfl rfl rfl (fun c=>absurd c (by decide)) (fun c=>?_);refine W.go 99 rfl ?_;exact W.ret r rfl rfl ⟨rfl,rfl⟩
  ·have e:eJ c g=1:=by unfold eJ;rw[if_neg h1,if_neg h2]
   rw[e];refine Sp.enter (n:=30) Tryz.func122 rfl rfl rfl rfl fun C hX _ aG r=>?_;refine W.go 99 rfl ?_;rw[decide_eq_false h1];refine W.split rfl rfl rfl (fun c=>absurd c (by decide)) (fun c=>?_);refine W.go 99 rfl ?_;rw[decide_eq_false h2];refine W.split rfl rfl rfl (fun c=>absurd c (by decide)) (fun c=>?_);refine W.go 99 rfl ?_;refine W.split rfl rfl rfl (fun c=>?_) (fun c=>absurd c (by decide));refine W.go 99 rfl ?_;exact W.ret r rfl rfl ⟨rfl,rfl⟩
theorem zn{bb mb:Nat}{ro:Ro}{p:BP}{ks:List FG}(cl:Int)(L:LH)(h:jD L bb mb ro p ks)(ok:gj ro):Sp X 124 [pt bb,.int .i64 cl] L (fun v L'=>v=.int .i64 (bT ro cl)∧L=L'):=by
 have t1:=ok.t1;have t3:=ok.t3;have h1:=h.D5 1 _ (by decide) rfl;have cu:=h.at_.h1;have KO:=ok.OY;obtain⟨a0,a1,a2,a3,a4,k0,k1,k2,k3,k4⟩:=p;obtain⟨a,ha⟩:=cu.addr (show 0<ro.steps.length by omega);obtain rfl:a1=some a:=ha;have tG:bT ro cl=ro.steps.countP fun s=>decide (s≤cl):=rfl;generalize ro.steps=st at t1 t3 h1 cu KO tG
 match st,t1,t3 with
 | [x],_,_=>
  refine Sp.enter (n:=47) Tryz.func124 rfl rfl rfl rfl fun C hX _ aG r=>?_;refine W.go 99 rfl ?_;refine W.drawn (by kernel_rfl) _ (Le.refl _) ?_;refine DD.run' [0,1,2,3,5] rfl ?_;refine DD.vf 4 rfl rfl rfl rfl rfl (Vf.load rfl rfl rfl (h1)) ?_;refine DD.run' [6] rfl ?_;refine .fin rfl ?_;refine W.go 99 rfl ?_;refine W.cY 16 (p:=false) rfl rfl ?_;refine W.go 99 rfl ?_;refine W.cY 27 (p:=false) rfl rfl ?_;refine W.go 99 rfl ?_;refine W.vf rfl rfl rfl rfl (Vf.aW rfl rfl rfl rfl rfl rfl rfl ((show 0<[x].length by simp))) ?_;refine W.go 99 rfl ?_;refine W.vf rfl rfl rfl rfl (Vf.load rfl rfl rfl (cu.int (show[x][0]?=some x from rfl))) ?_;refine W.go 99 rfl ?_
  by_cases hx:x≤cl
  ·rw[decide_eq_true hx];refine W.split rfl rfl rfl (fun c=>?_) (fun c=>absurd c (by decide));refine W.go 99 rfl ?_;refine W.ret r rfl rfl ?_;refine⟨?_,rfl⟩;rw[tG];rw[List.countP_cons_of_pos (by simpa using (show(x≤cl) by omega))]
   rfl
  ·rw[decide_eq_false hx];refine W.split rfl rfl rfl (fun c=>absurd c (by decide)) (fun c=>?_);refine W.go 99 rfl ?_;refine W.ret r rfl rfl ?_;refine⟨?_,rfl⟩;rw[tG];rw[List.countP_cons_of_neg (by simpa using (show¬(x≤cl) by omega))]
   rfl
 | [x,y],_,_=>
  refine Sp.enter (n:=47) Tryz.func124 rfl rfl rfl rfl fun C hX _ aG r=>?_;refine W.go 99 rfl ?_;refine W.drawn (by kernel_rfl) _ (Le.refl _) ?_;refine DD.run' [0,1,2,3,5] rfl ?_;refine DD.vf 4 rfl rfl rfl rfl rfl (Vf.load rfl rfl rfl (h1)) ?_;refine DD.run' [6] rfl ?_;refine .fin rfl ?_;refine W.go 99 rfl ?_;have a1:x<y:=by simp at KO;exact KO
  refine W.cY 16 (p:=false) rfl rfl ?_;refine W.go 99 rfl ?_;refine W.cY 27 (p:=true) rfl rfl ?_;refine W.go 99 rfl ?_;refine W.vf rfl rfl rfl rfl (Vf.aW rfl rfl rfl rfl rfl rfl rfl ((show 1<[x,y].length by simp))) ?_;refine W.go 99 rfl ?_;refine W.vf rfl rfl rfl rfl (Vf.load rfl rfl rfl (cu.int (show[x,y][1]?=some y from rfl))) ?_;refine W.go 99 rfl ?_
  by_cases hy:y≤cl
  ·rw[decide_eq_true hy];refine W.split rfl rfl rfl (fun c=>?_) (fun c=>absurd c (by decide));refine W.go 99 rfl ?_;refine W.ret r rfl rfl ?_;refine⟨?_,rfl⟩;rw[tG];rw[List.countP_cons_of_pos (by simpa using (show(x≤cl) by omega))];rw[List.countP_cons_of_pos (by simpa using (show(y≤cl) by omega))]
   rfl
  ·rw[decide_eq_false hy];refine W.split rfl rfl rfl (fun c=>absurd c (by decide)) (fun c=>?_);refine W.go 99 rfl ?_;refine W.vf rfl rfl rfl rfl (Vf.aW rfl rfl rfl rfl rfl rfl rfl ((show 0<[x,y].length by simp))) ?_;refine W.go 99 rfl ?_;refine W.vf rfl rfl rfl rfl (Vf.load rfl rfl rfl (cu.int (show[x,y][0]?=some x from rfl))) ?_;refine W.go 99 rfl ?_
   by_cases hx:x≤cl
   ·rw[decide_eq_true hx];refine W.split rfl rfl rfl (fun c=>?_) (fun c=>absurd c (by decide));refine W.go 99 rfl ?_;refine W.ret r rfl rfl ?_;refine⟨?_,rfl⟩;rw[tG];rw[List.countP_cons_of_pos (by simpa using (show(x≤cl) by omega))];rw[List.countP_cons_of_neg (by simpa using (show¬(y≤cl) by omega))]
    rfl
   ·rw[decide_eq_false hx];refine W.split rfl rfl rfl (fun c=>absurd c (by decide)) (fun c=>?_);refine W.go 99 rfl ?_;refine W.ret r rfl rfl ?_;refine⟨?_,rfl⟩;rw[tG];rw[List.countP_cons_of_neg (by simpa using (show¬(x≤cl) by omega))];rw[List.countP_cons_of_neg (by simpa using (show¬(y≤cl) by omega))]
    rfl
 | [x,y,z],_,_=>
  refine Sp.enter (n:=47) Tryz.func124 rfl rfl rfl rfl fun C hX _ aG r=>?_;refine W.go 99 rfl ?_;refine W.drawn (by kernel_rfl) _ (Le.refl _) ?_;refine DD.run' [0,1,2,3,5] rfl ?_;refine DD.vf 4 rfl rfl rfl rfl rfl (Vf.load rfl rfl rfl (h1)) ?_;refine DD.run' [6] rfl ?_;refine .fin rfl ?_;refine W.go 99 rfl ?_;have a1:x<y∧x<z∧y<z:=by simp at KO;omega
  refine W.cY 16 (p:=true) rfl rfl ?_;refine W.go 99 rfl ?_;refine W.vf rfl rfl rfl rfl (Vf.aW rfl rfl rfl rfl rfl rfl rfl ((show 2<[x,y,z].length by simp))) ?_;refine W.go 99 rfl ?_;refine W.vf rfl rfl rfl rfl (Vf.load rfl rfl rfl (cu.int (show[x,y,z][2]?=some z from rfl))) ?_;refine W.go 99 rfl ?_
  by_cases hz:z≤cl
  ·rw[decide_eq_true hz];refine W.split rfl rfl rfl (fun c=>?_) (fun c=>absurd c (by decide));refine W.go 99 rfl ?_;refine W.ret r rfl rfl ?_;refine⟨?_,rfl⟩;rw[tG];rw[List.countP_cons_of_pos (by simpa using (show(x≤cl) by omega))];rw[List.countP_cons_of_pos (by simpa using (show(y≤cl) by omega))];rw[List.countP_cons_of_pos (by simpa using (show(z≤cl) by omega))]
   rfl
  ·rw[decide_eq_false hz];refine W.split rfl rfl rfl (fun c=>absurd c (by decide)) (fun c=>?_);refine W.go 99 rfl ?_;refine W.cY 27 (p:=true) rfl rfl ?_;refine W.go 99 rfl ?_;refine W.vf rfl rfl rfl rfl (Vf.aW rfl rfl rfl rfl rfl rfl rfl ((show 1<[x,y,z].length by simp))) ?_;refine W.go 99 rfl ?_;refine W.vf rfl rfl rfl rfl (Vf.load rfl rfl rfl (cu.int (show[x,y,z][1]?=some y from rfl))) ?_;refine W.go 99 rfl ?_
   by_cases hy:y≤cl
   ·rw[decide_eq_true hy];refine W.split rfl rfl rfl (fun c=>?_) (fun c=>absurd c (by decide));refine W.go 99 rfl ?_;refine W.ret r rfl rfl ?_;refine⟨?_,rfl⟩;rw[tG];rw[List.countP_cons_of_pos (by simpa using (show(x≤cl) by omega))];rw[List.countP_cons_of_pos (by simpa using (show(y≤cl) by omega))];rw[List.countP_cons_of_neg (by simpa using (show¬(z≤cl) by omega))]
    rfl
   ·rw[decide_eq_false hy];refine W.split rfl rfl rfl (fun c=>absurd c (by decide)) (fun c=>?_);refine W.go 99 rfl ?_;refine W.vf rfl rfl rfl rfl (Vf.aW rfl rfl rfl rfl rfl rfl rfl ((show 0<[x,y,z].length by simp))) ?_;refine W.go 99 rfl ?_;refine W.vf rfl rfl rfl rfl (Vf.load rfl rfl rfl (cu.int (show[x,y,z][0]?=some x from rfl))) ?_;refine W.go 99 rfl ?_
    by_cases hx:x≤cl
    ·rw[decide_eq_true hx];refine W.split rfl rfl rfl (fun c=>?_) (fun c=>absurd c (by decide));refine W.go 99 rfl ?_;refine W.ret r rfl rfl ?_;refine⟨?_,rfl⟩;rw[tG];rw[List.countP_cons_of_pos (by simpa using (show(x≤cl) by omega))];rw[List.countP_cons_of_neg (by simpa using (show¬(y≤cl) by omega))];rw[List.countP_cons_of_neg (by simpa using (show¬(z≤cl) by omega))]
     rfl
    ·rw[decide_eq_false hx];refine W.split rfl rfl rfl (fun c=>absurd c (by decide)) (fun c=>?_);refine W.go 99 rfl ?_;refine W.ret r rfl rfl ?_;refine⟨?_,rfl⟩;rw[tG];rw[List.countP_cons_of_neg (by simpa using (show¬(x≤cl) by omega))];rw[List.countP_cons_of_neg (by simpa using (show¬(y≤cl) by omega))];rw[List.countP_cons_of_neg (by simpa using (show¬(z≤cl) by omega))]
     rfl
open Extern in
def Pe(args:Array Value):Sem Value:=ReflectliteValue.unpack (args.getD 0 (.tuple #[]))
open Extern in
def WE:Array Value→Sem Value:=ReflectliteValue.methodAny (ReflectliteValue.valueError "reflectlite.Value.Type" 0) fun t _ _ _=>ReflectliteType.toType t
open Extern in
def Pf:Array Value→Sem Value:=ReflectliteValue.method (ReflectliteValue.valueError "reflectlite.Value.IsNil" 0) ReflectliteValue.isNil
open Extern in
def WG:Array Value→Sem Value:=ReflectliteType.typeOf
open Extern in
def Pg:Array Value→Sem Value:=ReflectliteValue.method (ReflectliteValue.valueError "reflectlite.Value.Elem" 0) ReflectliteValue.elem
open Extern in
def Pj:Array Value→Sem Value:=ReflectliteValue.set
open Extern in
def Pm:Array Value→Sem Value:=ReflectliteType.abiMethod fun t=>(fun a:Nat=>Value.int IntKind.u8 (a:Int))<$>Rtype.kind t
open Extern in
def WH:Array Value→Sem Value:=ReflectliteType.relation "AssignableTo" ReflectliteType.assignableTo
open Extern in
def WI:Array Value→Sem Value:=ReflectliteType.method ReflectliteType.elem
open Extern in
def WJ:Array Value→Sem Value:=ReflectliteType.relation "Implements" ReflectliteType.implements_
theorem KH:Ext Tryz.prog 145 Tryz.f145 Pe:=⟨Tryz.func145,by kernel_rfl,rfl,by kernel_rfl,by kernel_rfl⟩
theorem Uj:Ext Tryz.prog 146 Tryz.f146 WE:=⟨Tryz.func146,by kernel_rfl,rfl,by kernel_rfl,by kernel_rfl⟩
theorem Uk:Ext Tryz.prog 147 Tryz.f147 Pf:=⟨Tryz.func147,by kernel_rfl,rfl,by kernel_rfl,by kernel_rfl⟩
theorem Ul:Ext Tryz.prog 184 Tryz.f184 WG:=⟨Tryz.func184,by kernel_rfl,rfl,by kernel_rfl,by kernel_rfl⟩
theorem Um:Ext Tryz.prog 185 Tryz.f185 Pg:=⟨Tryz.func185,by kernel_rfl,rfl,by kernel_rfl,by kernel_rfl⟩
theorem Un:Ext Tryz.prog 186 Tryz.f186 Pj:=⟨Tryz.func186,by kernel_rfl,rfl,by kernel_rfl,by kernel_rfl⟩
theorem KI:Ext Tryz.prog 295 Tryz.f295 Pm:=⟨Tryz.func295,by kernel_rfl,rfl,by kernel_rfl,by kernel_rfl⟩
theorem Uq:Ext Tryz.prog 322 Tryz.f322 WH:=⟨Tryz.func322,by kernel_rfl,rfl,by kernel_rfl,by kernel_rfl⟩
theorem Ur:Ext Tryz.prog 324 Tryz.f324 WI:=⟨Tryz.func324,by kernel_rfl,rfl,by kernel_rfl,by kernel_rfl⟩
theorem Us:Ext Tryz.prog 325 Tryz.f325 WJ:=⟨Tryz.func325,by kernel_rfl,rfl,by kernel_rfl,by kernel_rfl⟩
abbrev kQ(t:Nat):Value:=.pointer (some ⟨7,t,none⟩)
abbrev Ha(t:Nat):Value:=.iface 318 (.agg #[kQ t])
section
variable {R:LH}{Q:Value→LH→Prop}{H:Value→LH→Prop}{QM:FuncId×Value→LH→Prop}
theorem aaI(d:Value):az Tryz.prog Q H (Pe #[.iface 214 (.agg #[d])]) R=∀b,R b=none→Q (.agg #[kQ 214,.pointer (some ⟨b,0,none⟩),.int .u64 153]) (R.put b (.cells #[d] 214)):=by kernel_rfl
theorem aaJ(a:Addr):az Tryz.prog Q H (Pe #[.iface 216 (.pointer (some a))]) R=∀b,R b=none→Q (.agg #[kQ 216,.pointer (some ⟨b,0,none⟩),.int .u64 150]) (R.put b (.cells #[.pointer (some a)] 216)):=by kernel_rfl
theorem ac4(a:Addr):az Tryz.prog Q H (WE #[.agg #[kQ 216,.pointer (some a),.int .u64 150]]) R=Q (Ha 216) R:=by kernel_rfl
theorem RP(h:Value):az Tryz.prog QM H (method (Tryz.prog.types.size+Made.depth) 318 (.agg #[h]) "Kind") R=QM (295,h) R:=by kernel_rfl
theorem aaj(h:Value):az Tryz.prog QM H (method (Tryz.prog.types.size+Made.depth) 318 (.agg #[h]) "Elem") R=QM (324,.agg #[h]) R:=by kernel_rfl
theorem aak(h:Value):az Tryz.prog QM H (method (Tryz.prog.types.size+Made.depth) 318 (.agg #[h]) "Implements") R=QM (325,.agg #[h]) R:=by kernel_rfl
theorem aai(h:Value):az Tryz.prog QM H (method (Tryz.prog.types.size+Made.depth) 318 (.agg #[h]) "AssignableTo") R=QM (322,.agg #[h]) R:=by kernel_rfl
theorem aaL:az Tryz.prog Q H (Pm #[kQ 216]) R=Q (.int .u8 22) R:=by kernel_rfl
theorem aaK:az Tryz.prog Q H (Pm #[kQ 214]) R=Q (.int .u8 25) R:=by kernel_rfl
theorem ada:az Tryz.prog Q H (WI #[.agg #[kQ 216]]) R=Q (Ha 214) R:=by kernel_rfl
theorem adb:az Tryz.prog Q H (WJ #[.agg #[kQ 214],Ha 161]) R=Q (.bool true) R:=by kernel_rfl
theorem ac6(v:Value):az Tryz.prog Q H (WG #[.iface 214 v]) R=Q (Ha 214) R:=by kernel_rfl
theorem ac9:az Tryz.prog Q H (WH #[.agg #[kQ 214],Ha 214]) R=Q (.bool true) R:=by kernel_rfl
end
open Extern
theorem rlm(z:Sem Value)(f:TypeId→Addr→Nat→Nat→Sem Value)(v:Value):
  ReflectliteValue.method z f #[v]=(do match ←ReflectliteValue.parts v with | none=>z | some (t,a,fl)=>f t a fl (fl % 32)):=rfl
theorem rls(v x:Value):ReflectliteValue.set #[v,x]=(do
  let(some (dst,a,fl),some (src,b,_)):=(←ReflectliteValue.parts v,←ReflectliteValue.parts x)
   | unsupported (.noEntry "extern/(internal/reflectlite.Value).Set.zeroValue")
  if fl / ReflectliteValue.flagAddr % 2==0 then unsupported (.noEntry "extern/(internal/reflectlite.Value).Set.unaddressable")
  let val ←loadVar src b
  if ←Rtype.directlyAssignable dst src then storeVar dst a val
  else if ←Rtype.implements dst src then
   if(←Rtype.kind src)==20 then
    match val with
    | .nilIface=>unsupported (.noEntry "extern/reflectlite: a nil value of one interface type handed on as a value of another")
    | _=>storeVar dst a val
   else storeVar dst a (.iface src val)
  else panicString ("reflectlite.Set: value of type "++(←Rtype.spelt src)++ " is not assignable to type "++(←Rtype.spelt dst))
  pure (.tuple #[])):=rfl
section
variable {R:LH}{Q:Value→LH→Prop}{H:Value→LH→Prop}
theorem CS(a:Addr){Q:Option (TypeId×Addr×Nat)→LH→Prop}:az Tryz.prog Q H (ReflectliteValue.parts (.agg #[kQ 216,.pointer (some a),.int .u64 150])) R=Q (some (216,a,150)) R:=by kernel_rfl
theorem Jt(a:Addr){Q:Option (TypeId×Addr×Nat)→LH→Prop}:az Tryz.prog Q H (ReflectliteValue.parts (.agg #[kQ 214,.pointer (some a),.int .u64 409])) R=Q (some (214,a,409)) R:=by kernel_rfl
theorem NP(a:Addr){Q:Option (TypeId×Addr×Nat)→LH→Prop}:az Tryz.prog Q H (ReflectliteValue.parts (.agg #[kQ 214,.pointer (some a),.int .u64 153])) R=Q (some (214,a,153)) R:=by kernel_rfl
theorem Pn{Q:Option TypeId→LH→Prop}:az Tryz.prog Q H (Rtype.elem? 216) R=Q (some 214) R:=by kernel_rfl
theorem aam(p:Addr):az Tryz.prog Q H (ReflectliteValue.mk 214 p ReflectliteValue.flagAddr) R=Q (.agg #[kQ 214,.pointer (some p),.int .u64 409]) R:=by kernel_rfl
theorem Ik{Q:Bool→LH→Prop}:az Tryz.prog Q H (Rtype.directlyAssignable 214 214) R=Q true R:=by kernel_rfl
theorem ac5{b:Nat}{a:Addr}(hb:R.cell? ⟨b,0,none⟩=some (.pointer (some a))):az Tryz.prog Q H (Pf #[.agg #[kQ 216,.pointer (some ⟨b,0,none⟩),.int .u64 150]]) R=Q (.bool false) R:=by
 unfold Pf;rw[rlm,ae,CS];show az Tryz.prog Q H (ReflectliteValue.isNil 216 ⟨b,0,none⟩ 150 22) R=_;have:ReflectliteValue.isNil 216 ⟨b,0,none⟩ 150 22=(do match ←loadVar 216 ⟨b,0,none⟩ with | .chan none | .nilFunc | .nilIface | .map none | .pointer none | .slice none _ _=>pure (.bool true) | _=>pure (.bool false)):=rfl;rw[this,ae,lE Kr hb]
 rfl
theorem ac7{b:Nat}{a:Addr}(hb:R.cell? ⟨b,0,none⟩=some (.pointer (some a))):az Tryz.prog Q H (Pg #[.agg #[kQ 216,.pointer (some ⟨b,0,none⟩),.int .u64 150]]) R=Q (.agg #[kQ 214,.pointer (some a),.int .u64 409]) R:=by
 unfold Pg;rw[rlm,ae,CS];show az Tryz.prog Q H (ReflectliteValue.elem 216 ⟨b,0,none⟩ 150 22) R=_;have:ReflectliteValue.elem 216 ⟨b,0,none⟩ 150 22=(do match 22,←loadVar 216 ⟨b,0,none⟩,←Rtype.elem? 216 with | 20,i,_=>ReflectliteValue.unpack i | 22,.pointer none,_=>pure ReflectliteValue.zeroV | 22,.pointer (some p),some e=>ReflectliteValue.mk e p ReflectliteValue.flagAddr | _,_,_=>ReflectliteValue.valueError "reflectlite.Value.Elem" 22):=rfl;rw[this,ae,lE Kr hb,ae,Pn];exact aam a
theorem ac8{a b:Nat}{x y:Value}{e:TypeId}(hb:R.cell? ⟨b,0,none⟩=some x)(hx:single x=true)(ha:R a=some (.cells #[y] e (0,0),true))(hq:∀R',R' a=some (.cells #[x] e (0,0),true)→(∀b',b'≠a→R' b'=R b')→Q (.tuple #[]) R'):
  az Tryz.prog Q H (Pj #[.agg #[kQ 214,.pointer (some ⟨a,0,none⟩),.int .u64 409],.agg #[kQ 214,.pointer (some ⟨b,0,none⟩),.int .u64 153]]) R:=by
 unfold Pj;rw[rls,ae,Jt,ae,NP];simp only;rw[if_neg (by decide),ae,lF TR Hq (vs:=[x]) ⟨rfl,fun i v hi=>by
  cases i with
  | zero=>simp at hi;subst hi;exact hb
  | succ i=>simp at hi⟩,ae,Ik]
 simp only[if_true];rw[ae];unfold storeVar;rw[ae,bL Hq];refine fL (e:=e) [x] 0 _ R ha (by simp) (fun v hv=>by cases List.mem_singleton.1 hv;exact hx) (fun R' g1 g2=>?_);exact hq R' (by rw[g1];rfl) g2
end
def oA(L:LH):Prop:=L.cell? ⟨0,0,none⟩=some (Ha 161)
theorem oA.le{L L':LH}(h:oA L)(hl:Le L L'):oA L':=hl.cell h
theorem LU(t:Value)(L:LH):Sp X 109 [.nilIface,t] L (fun v L'=>v=.bool false∧L=L'):=by
 refine Sp.enter (n:=42) Tryz.func109 rfl rfl rfl rfl fun C hX _ aG r=>?_;refine W.go 99 rfl ?_;exact W.ret r rfl rfl ⟨rfl,rfl⟩
theorem SA{a b:Nat}{x y:Value}{L:LH}(hx:single x=true)(hb:L.cell? ⟨b,0,none⟩=some x)(ha:L a=some (.cells #[y] 214 (0,0),true)):
  jN Tryz.prog 186 [.agg #[kQ 214,.pointer (some ⟨a,0,none⟩),.int .u64 409],.agg #[kQ 214,.pointer (some ⟨b,0,none⟩),.int .u64 153]] L (fun v L'=>v=.tuple #[]∧L'=L.put a (.cells #[x] 214)):=
 ⟨_,_,Un,fun R hR=>ac8 (hR.cell hb) hx (hR _ _ ha) fun R' h1 h2=>⟨_,⟨rfl,rfl⟩,Post.set hR ha h1 h2⟩⟩
theorem Ya(a b:Nat)(d y:Value)(t:Value)(hd:single d=true)(L:LH)(hb:L.cell? ⟨b,0,none⟩=some (.pointer (some ⟨a,0,none⟩)))(ha:L a=some (.cells #[y] 214 (0,0),true)):
  Sp X 148 [.iface 214 (.agg #[d]),t,.agg #[kQ 216,.pointer (some ⟨b,0,none⟩),.int .u64 150],Ha 214] L (fun v L'=>v=.bool true∧L' a=some (.cells #[d] 214 (0,0),true)∧∀b' x,b'≠a→L b'=some x→L' b'=some x):=by
 refine Sp.enter (n:=62) Tryz.func148 rfl rfl rfl rfl fun C hX _ aG r=>?_;refine W.go 99 rfl ?_;refine W.loop (fun m E B L'=>m=0∧E=[(0,.v (.iface 214 (.agg #[d]))),(3,.v (Ha 214)),(6,.p 0 0)]∧B=[some ⟨eK (.v (.agg #[kQ 216,.pointer (some ⟨b,0,none⟩),.int .u64 150])),269⟩]∧L=L')
  ⟨rfl,rfl,rfl,rfl⟩ ⟨rfl,rfl,rfl,trivial⟩ ⟨rfl,trivial⟩ ?_
 rintro _ _ _ _ ⟨rfl,rfl,rfl,rfl⟩ again;refine W.go 99 rfl ?_;refine W.aB rfl rfl rfl (Ef.ext rfl (jN.pure Ul fun _ _ _=>ac6 _)) ?_;rintro _ _ _ ⟨_,rfl,rfl,rfl,rfl⟩;refine W.go 99 rfl ?_;refine W.aB rfl rfl rfl (Ef.inv rfl rfl rfl (fun _ _ _=>aai _) (.inr (jN.pure Uq fun _ _ _=>ac9))) ?_;rintro _ _ _ ⟨_,rfl,rfl,rfl,rfl⟩;refine W.go 99 rfl ?_;refine W.split rfl rfl rfl (fun c=>?_) (fun c=>absurd c (by decide));refine W.go 99 rfl ?_;refine W.aB rfl rfl rfl (Ef.ext rfl (jN.read Um fun _ _ R hR=>ac7 (hR.cell hb))) ?_;rintro _ _ _ ⟨_,rfl,rfl,rfl,rfl⟩;refine W.go 99 rfl ?_;refine W.aB rfl rfl rfl (Ef.ext rfl (jN.alloc KH fun _ _ _=>aaI _)) ?_;rintro _ _ _ ⟨_,rfl,rfl,b1,dN,rfl,rfl⟩;refine W.go 99 rfl ?_;have aY:a≠b1:=fun e=>by subst e;rw[ha] at dN;cases dN
 refine W.aB rfl rfl rfl (Ef.ext rfl (SA hd (b:=b1) (ay (aj _ _ _) rfl) ((au _ _ aY).trans ha))) ?_;rintro _ _ _ ⟨_,rfl,rfl,rfl,rfl⟩;refine W.go 99 rfl ?_;refine W.ret r rfl rfl ?_;exact⟨rfl,aj _ _ _,fun b' x bG hx=>by rw[au _ _ bG,au _ _ (fun e=>by subst e;rw[dN] at hx;cases hx)];exact hx⟩
theorem XS(a:Nat)(d y:Value)(hd:single d=true)(L:LH)(hg:oA L)(ha:L a=some (.cells #[y] 214 (0,0),true)):
  Sp X 109 [.iface 214 (.agg #[d]),.iface 216 (.pointer (some ⟨a,0,none⟩))] L (fun v L'=>v=.bool true∧L' a=some (.cells #[d] 214 (0,0),true)∧∀b' x,b'≠a→L b'=some x→L' b'=some x):=by
 refine Sp.enter (n:=42) Tryz.func109 rfl rfl rfl rfl fun C hX _ aG r=>?_;refine W.go 99 rfl ?_;refine W.aB rfl rfl rfl (Ef.ext rfl (jN.alloc KH fun _ _ _=>aaJ _)) ?_;rintro _ _ _ ⟨_,rfl,rfl,b1,dN,rfl,rfl⟩;refine W.go 99 rfl ?_;have aY:a≠b1:=fun e=>by subst e;rw[ha] at dN;cases dN
 have hb:=ay (aj L b1 (.cells #[.pointer (some ⟨a,0,none⟩)] 216)) (off:=0) (v:=.pointer (some ⟨a,0,none⟩)) rfl;refine W.aB rfl rfl rfl (Ef.ext rfl (jN.pure Uj fun _ _ _=>ac4 _)) ?_;rintro _ _ _ ⟨_,rfl,rfl,rfl,rfl⟩;refine W.go 99 rfl ?_;refine W.aB rfl rfl rfl (Ef.inv rfl rfl rfl (fun _ _ _=>RP _) (.inr (jN.pure KI fun _ _ _=>aaL))) ?_;rintro _ _ _ ⟨_,rfl,rfl,rfl,rfl⟩;refine W.go 99 rfl ?_;refine W.split rfl rfl rfl (fun c=>absurd c (by decide)) (fun c=>?_);refine W.go 99 rfl ?_;refine W.aB rfl rfl rfl (Ef.ext rfl (jN.read Uk fun _ _ R hR=>ac5 (hR.cell hb))) ?_;rintro _ _ _ ⟨_,rfl,rfl,rfl,rfl⟩;refine W.go 99 rfl ?_;refine W.split rfl rfl rfl (fun c=>absurd c (by decide)) (fun c=>?_);refine W.go 99 rfl ?_;refine W.aB rfl rfl rfl (Ef.inv rfl rfl rfl (fun _ _ _=>aaj _) (.inr (jN.pure Ur fun _ _ _=>ada))) ?_;rintro _ _ _ ⟨_,rfl,rfl,rfl,rfl⟩;refine W.go 99 rfl ?_;refine W.aB rfl rfl rfl (Ef.inv rfl rfl rfl (fun _ _ _=>RP _) (.inr (jN.pure KI fun _ _ _=>aaK))) ?_;rintro _ _ _ ⟨_,rfl,rfl,rfl,rfl⟩;refine W.go 99 rfl ?_;refine W.split rfl rfl rfl (fun c=>?_) (fun c=>absurd c (by decide));refine W.go 99 rfl ?_;refine W.vf rfl rfl rfl rfl (Vf.load rfl rfl rfl (hg.le (Le.put dN _))) ?_;refine W.go 99 rfl ?_;refine W.aB rfl rfl rfl (Ef.inv rfl rfl rfl (fun _ _ _=>aak _) (.inr (jN.pure Us fun _ _ _=>adb))) ?_;rintro _ _ _ ⟨_,rfl,rfl,rfl,rfl⟩;refine W.go 99 rfl ?_;refine W.split rfl rfl rfl (fun c=>absurd c (by decide)) (fun c=>?_);refine W.go 99 rfl ?_;refine W.aB rfl rfl rfl (Ef.call rfl (Ya a b1 d y _ hd _ hb ((au _ _ aY).trans ha))) ?_;rintro _ _ _ ⟨_,rfl,rfl,rfl,h1,h2⟩;refine W.go 99 rfl ?_;refine W.ret r rfl rfl ?_;exact⟨rfl,h1,fun b' x bG hx=>h2 b' x bG (by rw[au _ _ (fun e=>by subst e;rw[dN] at hx;cases hx)];exact hx)⟩
theorem yZ.le{L L':LH}{bc:Nat}{k:kC}{p:Kp}{xs:List (Nat×List Int)}{us:List AP}{ua:Option Addr}{uc:Nat}(h:yZ L bc k p xs us ua uc)(hl:Le L L'):yZ L' bc k p xs us ua uc:=⟨hl _ _ h.o,h.k.le hl,h.s.le hl,h.a.le hl,h.x,h.c⟩
def mi(e:Int):Value:=if e=0 then .nilIface else .iface 214 (.agg #[.int .i64 e])
theorem rY(e:Int)(L:LH):Sp X 302 [.int .i64 e] L (fun v L'=>v=mi e∧L=L'):=by
 refine Sp.enter (n:=8) Tryz.func302 rfl rfl rfl rfl fun C hX _ aG r=>?_;refine W.go 99 rfl ?_
 by_cases aY:e=0
 ·subst aY;refine W.split rfl rfl rfl (fun c=>?_) (fun c=>absurd c (by decide));refine W.go 99 rfl ?_;exact W.ret r rfl rfl ⟨rfl,rfl⟩
 ·refine W.split rfl rfl rfl (fun h=>absurd h (by simpa using aY)) (fun _=>?_);refine W.go 99 rfl ?_;exact W.ret r rfl rfl ⟨by unfold mi;rw[if_neg aY];rfl,rfl⟩
theorem rU(n:Nat):gD (n:Int)=bH n:=by
 unfold gD;rw[if_neg (by omega),Int.toNat_natCast]
theorem FT(n:Nat):rP (n:Int)=WL++32::bH n:=by
 unfold rP;rw[rU]
theorem Oz(n:Nat)(L:LH)(hn:n<100):Sp X 110 [.agg #[.int .i64 n]] L (fun v L'=>v=str (rP n)∧L=L'):=by
 have hl:=ij ⟨n,hn⟩;simp only at hl;refine Sp.enter (n:=7) Tryz.func110 rfl rfl rfl rfl fun C hX _ aG r=>?_;refine W.go 99 rfl ?_;refine W.aB rfl rfl rfl (Ef.call rfl (uy n _ hn)) ?_;rintro _ _ _ ⟨_,rfl,rfl,rfl,rfl⟩;refine W.vf rfl rfl rfl rfl (Vf.cat (l:=[101,114,114,111,114,32]) rfl rfl (by show 6+(bH n).length≤_;omega)) ?_;refine W.go 99 rfl ?_;exact W.ret r rfl rfl ⟨by rw[FT];rfl,rfl⟩
theorem BN(b:Bl)(gV:Int):(gz b gV).1.length≤6∧∀n∈(gz b gV).1,n≤5:=by
 unfold gz
 by_cases h:fX b≠0
 ·rw[if_pos h];exact⟨Nat.zero_le _,fun n hn=>by simp at hn⟩
 ·rw[if_neg h];have ok:=Yc (b:=b) (by simpa using h);have h5:=ok.h5;have hl:(rC b gV.toNat).length≤6:=by
   unfold rC;refine Nat.le_trans (List.length_filter_le ..) ?_;rw[List.length_range];omega
  have hm:∀n∈rC b gV.toNat,n≤5:=fun n hn=>by
   have:=List.mem_range.1 (List.mem_filter.1 hn).1;omega
  split
  ·exact⟨Nat.zero_le _,fun n hn=>by simp at hn⟩
  ·split
   ·exact⟨Nat.zero_le _,fun n hn=>by simp at hn⟩
   ·split
    ·exact⟨Nat.zero_le _,fun n hn=>by simp at hn⟩
    ·exact⟨hl,hm⟩
theorem vK(l:List Nat):lQ (bK l)=kg (l.map bH):=by
 unfold lQ bK;rw[List.map_map];exact congrArg kg (List.map_congr_left fun n _=>rU n)
theorem Wn(hT:H0 X)(I L:LH)(bf:Nat)(f:Fi)(p:Fp)(gV:Int)(h:iE I L bf f p):Sp X 300 [.agg #[.int .i64 gV],mS bf] L (yX I L bf f (lQ (bK (gz f.b gV).1)) (mi (gz f.b gV).2)):=by
 have hS:=(hT.V9 f.b p.b gV I h.b).frame h.le;refine Sp.enter (n:=23) Tryz.func300 rfl rfl rfl rfl fun C hX _ aG r=>?_;refine W.go 99 rfl ?_;refine W.drawn (by kernel_rfl) _ (Le.refl _) ?_;refine DD.run' [0,1,2,3,5,6] rfl ?_;refine DD.vf 4 rfl rfl rfl rfl rfl (Vf.cO rfl rfl rfl (fM (vs:=Fz f.b p.b) h.o rfl rfl)) ?_;rw[←hX] at hS;refine DD.act 7 rfl rfl rfl rfl rfl (Ef.call rfl (hS)) ((by rintro _ _ _ ⟨_,rfl,rfl,J,⟨_,_,_,fw,_⟩,hP⟩;exact⟨hP.all h.le fw,rfl,.inl rfl⟩)) ?_;rintro _ _ _ ⟨_,rfl,rfl,J,⟨ad,cap,rfl,fw,cA,qg⟩,hP⟩;refine DD.run' [8,9,10,11,12] rfl ?_;refine .fin rfl ?_;refine W.go 99 rfl ?_;obtain⟨h6,hm5⟩:=BN f.b gV;rw[vK] at r;generalize(gz f.b gV).1=l at cA qg h6 hm5 r ⊢;have nm:(bK l).length=l.length:=List.length_map ..;rw[nm];refine W.aB rfl rfl rfl (Ef.call rfl (Dd ad cap l _ (cA.le hP.le) (by omega) (fun n hn=>by have:=hm5 n hn;omega))) ?_;rintro _ _ _ ⟨_,rfl,rfl,rfl,hle⟩;refine W.go 99 rfl ?_;refine W.aB rfl rfl rfl (Ef.call rfl (rY _ _)) ?_;rintro _ _ _ ⟨_,rfl,rfl,rfl,rfl⟩;refine W.go 99 rfl ?_;refine W.ret r rfl rfl ?_;exact⟨rfl,J,p,.of_le fw,(h.step fw hP).up hle,(eU.ko bf hP).up hle⟩
structure za(X:ax Tryz.prog):Prop where
 add:∀(ro:Ro) (p:BP) (s:Sg) (L:LH),fD L ro p→Sp X 224 [qy ro p,.agg (fE s).toArray] L (RoQ (iD ro s).1 (iD ro s).2 L)
 abk:∀(ro:Ro) (p:BP) (x:Int) (L:LH),fD L ro p→Sp X 305 [qy ro p,.int .i64 x] L (fun v L'=>v=.tuple #[yD (dI ro x).1,.int .i64 (dI ro x).2]∧Dm L L')
structure OH(X:ax Tryz.prog):Prop where
 abb:∀(s:Sw) (p:Wp) (L:LH),mP L s p→Sm s→Sp X 31 [A1 s p] L (fun v L'=>∃ad cap,v=.tuple #[.slice ad (eT s).1.length cap,.int .i64 (eT s).2.1,.int .i64 (eT s).2.2]∧aN L' ad (bK (eT s).1)∧Dm L L')
theorem Ud(hR:za X)(I L:LH)(bf:Nat)(f:Fi)(p:Fp)(x:Int)(h:iE I L bf f p)(hb:∀n:Int,n=(dI f.ro x).1.lo∨n=(dI f.ro x).1.hi→0≤n∧n<100):Sp X 304 [.agg #[.int .i64 x],mS bf] L (yX I L bf f (bH (dI f.ro x).1.lo.toNat++45::bH (dI f.ro x).1.hi.toNat) (mi (dI f.ro x).2)):=by
 have hS:=(hR.abk f.ro p.r x I h.r).frame h.le;generalize dI f.ro x=D at hb hS ⊢;obtain⟨⟨lo,hi⟩,e⟩:=D;obtain⟨IQ,ec⟩:=hb lo (.inl rfl);obtain⟨hh0,fA⟩:=hb hi (.inr rfl);obtain⟨ln,rfl⟩:∃n:Nat,lo=(n:Int):=⟨lo.toNat,by omega⟩;obtain⟨hn,rfl⟩:∃n:Nat,hi=(n:Int):=⟨hi.toNat,by omega⟩;have q1:=ij ⟨ln,by omega⟩;have q2:=ij ⟨hn,by omega⟩;simp only at q1 q2;refine Sp.enter (n:=29) Tryz.func304 rfl rfl rfl rfl fun C hX _ aG r=>?_;refine W.go 99 rfl ?_;refine W.drawn (by kernel_rfl) oY (aE _) ?_;refine DD.run' [0,1,2,3,5,6,11] rfl ?_;refine DD.act 4 rfl rfl rfl rfl rfl (Ef.val rfl (Vf.cO rfl rfl rfl (fM (vs:=fT f.ro p.r) h.o rfl rfl))) (by rintro _ _ _ ⟨rfl,rfl,rfl⟩;exact⟨aE _,rfl,.inl rfl⟩) ?_;rintro _ _ _ ⟨rfl,rfl,rfl⟩;rw[←hX] at hS;refine DD.act 7 rfl rfl rfl rfl rfl (Ef.call rfl (hS)) (by rintro _ _ _ ⟨_,rfl,rfl,_⟩;exact⟨aE _,rfl,.inl rfl⟩) ?_;rintro _ _ _ ⟨_,rfl,rfl,J,⟨rfl,hd⟩,hP⟩;refine DD.run' [8,9,10] rfl ?_;refine DD.act 12 rfl rfl rfl rfl rfl (Ef.ui rfl) (by rintro _ _ _ ⟨rfl,rfl,rfl⟩;exact⟨aE _,rfl,.inl rfl⟩) ?_;rintro _ _ _ ⟨rfl,rfl,rfl⟩;refine DD.run' [13] rfl ?_;refine .fin rfl ?_;refine W.go 99 rfl ?_;have hk:=h.dm hd hP;refine W.drawn (by kernel_rfl) _ (Le.refl _) ?_;refine DD.run' [0,1,4,5,8] rfl ?_;refine DD.act 2 rfl rfl rfl rfl rfl (Ef.call rfl (uy ln _ (by omega))) (by rintro _ _ _ ⟨_,rfl,rfl,rfl,rfl⟩;exact⟨Le.refl _,rfl,.inl rfl⟩) ?_;rintro _ _ _ ⟨_,rfl,rfl,rfl,rfl⟩;refine DD.vf 3 rfl rfl rfl rfl rfl (Vf.cat (r:=[45]) rfl rfl (by show(bH ln).length+1≤_;omega)) ?_;refine DD.act 6 rfl rfl rfl rfl rfl (Ef.call rfl (uy hn _ (by omega))) (by rintro _ _ _ ⟨_,rfl,rfl,rfl,rfl⟩;exact⟨Le.refl _,rfl,.inl rfl⟩) ?_;rintro _ _ _ ⟨_,rfl,rfl,rfl,rfl⟩;refine DD.vf 7 rfl rfl rfl rfl rfl (Vf.cat (l:=bH ln++[45]) rfl rfl (by simp only[List.length_append,List.length_cons,List.length_nil];omega)) ?_;refine DD.act 9 rfl rfl rfl rfl rfl (Ef.call rfl (rY _ _)) (by rintro _ _ _ ⟨_,rfl,rfl,rfl,rfl⟩;exact⟨Le.refl _,rfl,.inl rfl⟩) ?_;rintro _ _ _ ⟨_,rfl,rfl,rfl,rfl⟩;refine DD.run' [10,11] rfl ?_;refine .fin rfl ?_;refine W.go 99 rfl ?_;refine W.ret r rfl rfl ?_;refine⟨?_,J,p,hd,hk,.ko bf hP⟩;simp
 rfl
theorem SC(hR:za X)(I L:LH)(bf:Nat)(f:Fi)(p:Fp)(x:Sg)(ad:Option Addr)(cap:Nat)(h:iE I L bf f p)(ha:aN (gF I L) ad [x.aJ,x.cZ,x.year,x.found]):Sp X 176 [pt bf,.slice ad 4 cap] L (Du I L bf (ky f x).1 (ky f x).2):=by
 obtain⟨a,rfl⟩:=ha.addr (i:=0) (by simp);have hA:=(hR.add f.ro p.r x I h.r).frame h.le;have oO:=ha;have ho:gF I L bf=_:=(lN h.n).trans h.o;refine Sp.enter (n:=35) Tryz.func176 rfl rfl rfl rfl fun C hX _ aG r=>?_;refine W.go 99 rfl ?_;refine W.drawn (by kernel_rfl) (gF I L) (oZ I L) ?_;refine DD.run' [0,1,2,4,7,10,13] rfl ?_;refine DD.vf 5 rfl rfl rfl rfl rfl (Vf.aW rfl rfl rfl rfl rfl rfl rfl ((show 0<4 by decide))) ?_;refine DD.vf 8 rfl rfl rfl rfl rfl (Vf.aW rfl rfl rfl rfl rfl rfl rfl ((show 1<4 by decide))) ?_;refine DD.vf 11 rfl rfl rfl rfl rfl (Vf.aW rfl rfl rfl rfl rfl rfl rfl ((show 2<4 by decide))) ?_;refine DD.vf 14 rfl rfl rfl rfl rfl (Vf.aW rfl rfl rfl rfl rfl rfl rfl ((show 3<4 by decide))) ?_;refine DD.vf 3 rfl rfl rfl rfl rfl (Vf.cO rfl rfl rfl (fM (vs:=fT f.ro p.r) ho rfl rfl)) ?_;refine DD.vf 6 rfl rfl rfl rfl rfl (Vf.load rfl rfl rfl (oO.int (i:=0) rfl)) ?_;refine DD.vf 9 rfl rfl rfl rfl rfl (Vf.load rfl rfl rfl (oO.int (i:=1) rfl)) ?_;refine DD.vf 12 rfl rfl rfl rfl rfl (Vf.load rfl rfl rfl (oO.int (i:=2) rfl)) ?_;refine DD.vf 15 rfl rfl rfl rfl rfl (Vf.load rfl rfl rfl (oO.int (i:=3) rfl)) ?_;refine DD.run' [16,21] rfl ?_;rw[←hX] at hA;refine DD.act 17 rfl rfl rfl rfl rfl (Ef.call rfl (hA)) ((by rintro _ _ _ ⟨_,rfl,rfl,J,⟨p',rfl,hd,bG⟩,hP⟩;exact⟨Ai hP,rfl,.inl rfl⟩)) ?_;rintro _ _ _ ⟨_,rfl,rfl,J,⟨p',rfl,hd,bG⟩,hP⟩;refine DD.run' [18,19,20] rfl ?_;have Br:=Ai hP;refine DD.act 22 rfl rfl rfl rfl rfl (Ef.ui rfl) ((by rintro _ _ _ ⟨rfl,rfl,rfl⟩;exact⟨Br,rfl,.inl rfl⟩)) ?_;rintro _ _ _ ⟨rfl,rfl,rfl⟩;refine DD.run' [23] rfl ?_;refine .fin rfl ?_;refine W.go 99 rfl ?_;have h1:=h.dm hd hP
 by_cases c:(iD f.ro x).2=0
 ·have hr:ky f x=({f with ro:=(iD f.ro x).1},0):=if_pos c;rw[hr] at r;rw[c];refine W.split rfl rfl rfl (fun c=>?_) (fun c=>absurd c (by decide));refine W.go 99 rfl ?_;refine W.dY rfl rfl (Ef.vN rfl ⟨_,rfl,rfl⟩ rfl (cK _ _ _) h1.o rfl (show 5+5≤14 by decide) (bY rfl)) ?_;rintro _ _ _ ⟨rfl,rfl,rfl⟩;refine W.go 99 rfl ?_;refine W.ret r rfl rfl ?_;exact⟨rfl,J,{p with r:=p'},hd,⟨aC h1.le h1.n _,h1.n,aj _ _ _,h1.b,bG,h1.s⟩,(eU.ko bf hP).put _⟩
 ·have hr:ky f x=(f,(iD f.ro x).2):=if_neg c;rw[hr] at r;refine W.split rfl rfl rfl (fun h=>absurd h (by simpa using c)) (fun _=>?_);refine W.go 99 rfl ?_;refine W.ret r rfl rfl ?_;exact⟨rfl,J,p,hd,h1,.ko bf hP⟩
theorem Tj(m:Int)(d:Value)(hd:∃c,d=.agg c)(L:LH):Sp X 313 [.agg #[.int .i64 m],d] L (fun v L'=>v=.tuple #[str okB,mi 0]∧L=L'):=by
 obtain⟨c,rfl⟩:=hd;refine Sp.enter (n:=6) Tryz.func313 rfl rfl rfl rfl fun C hX _ aG r=>?_;refine W.go 99 rfl ?_;exact W.ret r rfl rfl ⟨rfl,rfl⟩
theorem HH(bc:Nat)(m n out:Nat)(L:LH)(h:n≤m):Sp X 108 [pt bc,.agg #[.int .i64 m],.int .i64 n,.int .u8 out] L (fun v L'=>v=.tuple #[.int .u8 out,mi 3]∧L=L'):=by
 refine Sp.enter (n:=42) Tryz.func108 rfl rfl rfl rfl fun C hX _ aG r=>?_;refine W.go 99 rfl ?_;have e:decide ((n:Int)≤m)=true:=by simpa using h
 rw[e];refine W.split rfl rfl rfl (fun c=>?_) (fun c=>absurd c (by decide));refine W.go 99 rfl ?_;exact W.ret r rfl rfl ⟨rfl,rfl⟩
theorem Kb(bc:Nat)(k:kC)(p:Kp)(xs:List (Nat×List Int))(us:List AP)(a:Addr)(uc:Nat)(m n out:Nat)(L:LH)(hc:yZ L bc k p xs us (some a) uc)(hm:m<n)(hu:m<us.length)(h8:us.length≤6)(ho:out<256)(hv:us[m].v<3):Sp X 108 [pt bc,.agg #[.int .i64 m],.int .i64 n,.int .u8 out] L (fun v L'=>v=.tuple #[.int .u8 (oy us[m].x m out).1,mi (oy us[m].x m out).2]∧L=L'):=by
 have hx:=List.getElem?_eq_getElem hu;have hs:=hc.s;have hE:oy us[m].x m out=if out.testBit m then(out,4) else(out||| 2 ^ m,0):=by
  unfold oy;rw[if_neg (by show¬3≤us[m].v;omega)]
 generalize us[m]=u at hx hv hE ⊢;obtain⟨v,a',ad,cap⟩:=u;simp only at hv;have bW:L.cell? (a.add m)=some (gJ v ad cap a'):=by
  have:=hs.get hx (j:=0) (v:=gJ v ad cap a') rfl
  simpa using this
 have cQ:gJ v ad cap a'=.iface 252 (.agg #[.int .i64 v,.slice ad a'.length cap]):=by
  unfold gJ;rw[if_neg (by omega),if_neg (by omega),if_neg (by omega),if_neg (by omega)]
 rw[cQ] at bW;refine Sp.enter (n:=42) Tryz.func108 rfl rfl rfl rfl fun C hX _ aG r=>?_;refine W.go 99 rfl ?_;have e:decide ((n:Int)≤m)=false:=by simpa using hm
 rw[e];refine W.split rfl rfl rfl (fun c=>absurd c (by decide)) (fun c=>?_);refine W.go 99 rfl ?_;refine W.drawn (by kernel_rfl) _ (Le.refl _) ?_;refine DD.run' [0,1,2,4,5] rfl ?_;refine DD.vf 3 rfl rfl rfl rfl rfl (Vf.load rfl rfl rfl ((show _=some (Value.slice (some a) us.length uc) from ay hc.o rfl))) ?_;refine DD.vf 6 rfl rfl rfl rfl rfl (Vf.aW rfl rfl rfl rfl rfl rfl rfl (hu)) ?_;refine DD.vf 7 rfl rfl rfl rfl rfl (Vf.load rfl rfl rfl (bW)) ?_;refine .fin rfl ?_;refine W.go 99 rfl ?_;refine W.split rfl rfl rfl (fun c=>?_) (fun c=>absurd c (by decide));refine W.go 99 rfl ?_;refine W.aB rfl rfl rfl (Ef.call rfl (KN out m _ ho (by omega))) ?_;rintro _ _ _ ⟨_,rfl,rfl,rfl,rfl⟩;refine W.go 99 rfl ?_;cases hb:out.testBit m with
 | true=>
  rw[hb,if_pos rfl] at hE;rw[hE] at r;refine W.split rfl rfl rfl (fun c=>?_) (fun c=>absurd c (by decide));refine W.go 99 rfl ?_;exact W.ret r rfl rfl ⟨rfl,rfl⟩
 | false=>
  rw[hb,if_neg Bool.false_ne_true] at hE;rw[hE] at r;refine W.split rfl rfl rfl (fun c=>absurd c (by decide)) (fun c=>?_);refine W.go 99 rfl ?_;refine W.aB rfl rfl rfl (Ef.call rfl (HK out m _ ho (by omega))) ?_;rintro _ _ _ ⟨_,rfl,rfl,rfl,rfl⟩;refine W.go 99 rfl ?_;exact W.ret r rfl rfl ⟨rfl,rfl⟩
theorem HI(bc:Nat)(k:kC)(p:Kp)(xs:List (Nat×List Int))(us:List AP)(a:Addr)(uc:Nat)(m n out:Nat)(L:LH)(hc:yZ L bc k p xs us (some a) uc)(hm:m<n)(hu:m<us.length)(hv:us[m].v=3∨us[m].v=4∨us[m].v=5∨us[m].v=6):Sp X 108 [pt bc,.agg #[.int .i64 m],.int .i64 n,.int .u8 out] L (fun v L'=>v=.tuple #[.int .u8 (oy us[m].x m out).1,mi (oy us[m].x m out).2]∧L=L'):=by
 have hx:=List.getElem?_eq_getElem hu;have hs:=hc.s;have hE:oy us[m].x m out=(out,8):=by
  unfold oy;rw[if_pos (by show 3≤us[m].v;omega)]
 rw[hE];generalize us[m]=u at hx hv;obtain⟨v,a',ad,cap⟩:=u;simp only at hv;have bW:L.cell? (a.add m)=some (gJ v ad cap a'):=by
  have:=hs.get hx (j:=0) (v:=gJ v ad cap a') rfl
  simpa using this
 rcases hv with rfl | rfl | rfl | rfl
 ·have cQ:gJ 3 ad cap a'=.iface 209 (.agg #[.int .i64 (a'.getD 0 0)]):=rfl;rw[cQ] at bW;refine Sp.enter (n:=42) Tryz.func108 rfl rfl rfl rfl fun C hX _ aG r=>?_;refine W.go 99 rfl ?_;have e:decide ((n:Int)≤m)=false:=by simpa using hm
  rw[e];refine W.split rfl rfl rfl (fun c=>absurd c (by decide)) (fun c=>?_);refine W.go 99 rfl ?_;refine W.drawn (by kernel_rfl) _ (Le.refl _) ?_;refine DD.run' [0,1,2,4,5] rfl ?_;refine DD.vf 3 rfl rfl rfl rfl rfl (Vf.load rfl rfl rfl ((show _=some (Value.slice (some a) us.length uc) from ay hc.o rfl))) ?_;refine DD.vf 6 rfl rfl rfl rfl rfl (Vf.aW rfl rfl rfl rfl rfl rfl rfl (hu)) ?_;refine DD.vf 7 rfl rfl rfl rfl rfl (Vf.load rfl rfl rfl (bW)) ?_;refine .fin rfl ?_;refine W.go 99 rfl ?_;refine W.split rfl rfl rfl (fun c=>absurd c (by decide)) (fun c=>?_);refine W.go 99 rfl ?_;exact W.ret r rfl rfl ⟨rfl,rfl⟩
 ·have cQ:gJ 4 ad cap a'=.iface 153 (.agg #[.int .i64 (a'.getD 0 0)]):=rfl;rw[cQ] at bW;refine Sp.enter (n:=42) Tryz.func108 rfl rfl rfl rfl fun C hX _ aG r=>?_;refine W.go 99 rfl ?_;have e:decide ((n:Int)≤m)=false:=by simpa using hm
  rw[e];refine W.split rfl rfl rfl (fun c=>absurd c (by decide)) (fun c=>?_);refine W.go 99 rfl ?_;refine W.drawn (by kernel_rfl) _ (Le.refl _) ?_;refine DD.run' [0,1,2,4,5] rfl ?_;refine DD.vf 3 rfl rfl rfl rfl rfl (Vf.load rfl rfl rfl ((show _=some (Value.slice (some a) us.length uc) from ay hc.o rfl))) ?_;refine DD.vf 6 rfl rfl rfl rfl rfl (Vf.aW rfl rfl rfl rfl rfl rfl rfl (hu)) ?_;refine DD.vf 7 rfl rfl rfl rfl rfl (Vf.load rfl rfl rfl (bW)) ?_;refine .fin rfl ?_;refine W.go 99 rfl ?_;refine W.split rfl rfl rfl (fun c=>absurd c (by decide)) (fun c=>?_);refine W.go 99 rfl ?_;exact W.ret r rfl rfl ⟨rfl,rfl⟩
 ·have cQ:gJ 5 ad cap a'=.iface 155 (.agg #[.int .i64 (a'.getD 0 0)]):=rfl;rw[cQ] at bW;refine Sp.enter (n:=42) Tryz.func108 rfl rfl rfl rfl fun C hX _ aG r=>?_;refine W.go 99 rfl ?_;have e:decide ((n:Int)≤m)=false:=by simpa using hm
  rw[e];refine W.split rfl rfl rfl (fun c=>absurd c (by decide)) (fun c=>?_);refine W.go 99 rfl ?_;refine W.drawn (by kernel_rfl) _ (Le.refl _) ?_;refine DD.run' [0,1,2,4,5] rfl ?_;refine DD.vf 3 rfl rfl rfl rfl rfl (Vf.load rfl rfl rfl ((show _=some (Value.slice (some a) us.length uc) from ay hc.o rfl))) ?_;refine DD.vf 6 rfl rfl rfl rfl rfl (Vf.aW rfl rfl rfl rfl rfl rfl rfl (hu)) ?_;refine DD.vf 7 rfl rfl rfl rfl rfl (Vf.load rfl rfl rfl (bW)) ?_;refine .fin rfl ?_;refine W.go 99 rfl ?_;refine W.split rfl rfl rfl (fun c=>absurd c (by decide)) (fun c=>?_);refine W.go 99 rfl ?_;exact W.ret r rfl rfl ⟨rfl,rfl⟩
 ·have cQ:gJ 6 ad cap a'=.iface 157 (.agg #[]):=rfl;rw[cQ] at bW;refine Sp.enter (n:=42) Tryz.func108 rfl rfl rfl rfl fun C hX _ aG r=>?_;refine W.go 99 rfl ?_;have e:decide ((n:Int)≤m)=false:=by simpa using hm
  rw[e];refine W.split rfl rfl rfl (fun c=>absurd c (by decide)) (fun c=>?_);refine W.go 99 rfl ?_;refine W.drawn (by kernel_rfl) _ (Le.refl _) ?_;refine DD.run' [0,1,2,4,5] rfl ?_;refine DD.vf 3 rfl rfl rfl rfl rfl (Vf.load rfl rfl rfl ((show _=some (Value.slice (some a) us.length uc) from ay hc.o rfl))) ?_;refine DD.vf 6 rfl rfl rfl rfl rfl (Vf.aW rfl rfl rfl rfl rfl rfl rfl (hu)) ?_;refine DD.vf 7 rfl rfl rfl rfl rfl (Vf.load rfl rfl rfl (bW)) ?_;refine .fin rfl ?_;refine W.go 99 rfl ?_;refine W.split rfl rfl rfl (fun c=>absurd c (by decide)) (fun c=>?_);refine W.go 99 rfl ?_;exact W.ret r rfl rfl ⟨rfl,rfl⟩
def SwQ(x:Sw×Int)(L:LH)(v:Value)(L':LH):Prop:=∃p,v=.tuple #[A1 x.1 p,.int .i64 x.2]∧mP L' x.1 p∧Le L L'
structure OI(X:ax Tryz.prog):Prop where
 add:∀(s:Sw) (p:Wp) (x:Want) (L:LH),mP L s p→Sm s→Sp X 225 [A1 s p,.agg (DY x).toArray] L (SwQ (qz s x) L)
theorem Wm(hW:OI X)(I L:LH)(bf:Nat)(f:Fi)(p:Fp)(x:Want)(ad:Option Addr)(cap:Nat)(h:iE I L bf f p)(hn:Sm f.s)(ha:aN L ad [x.sort,x.kind,x.lq,x.pay]):Sp X 177 [pt bf,.slice ad 4 cap] L (Du I L bf (um f x).1 (um f x).2):=by
 obtain⟨a,rfl⟩:=ha.addr (i:=0) (by simp);have hA:=(hW.add f.s p.s x I h.s hn).frame h.le;have oO:=ha;refine Sp.enter (n:=35) Tryz.func177 rfl rfl rfl rfl fun C hX _ aG r=>?_;refine W.go 99 rfl ?_;refine W.drawn (by kernel_rfl) _ (Le.refl _) ?_;refine DD.run' [0,1,2,4,7,10,13] rfl ?_;refine DD.vf 5 rfl rfl rfl rfl rfl (Vf.aW rfl rfl rfl rfl rfl rfl rfl ((show 0<4 by decide))) ?_;refine DD.vf 8 rfl rfl rfl rfl rfl (Vf.aW rfl rfl rfl rfl rfl rfl rfl ((show 1<4 by decide))) ?_;refine DD.vf 11 rfl rfl rfl rfl rfl (Vf.aW rfl rfl rfl rfl rfl rfl rfl ((show 2<4 by decide))) ?_;refine DD.vf 14 rfl rfl rfl rfl rfl (Vf.aW rfl rfl rfl rfl rfl rfl rfl ((show 3<4 by decide))) ?_;refine DD.vf 3 rfl rfl rfl rfl rfl (Vf.cO rfl rfl rfl (fM (vs:=qM f.s p.s) h.o rfl rfl)) ?_;refine DD.vf 6 rfl rfl rfl rfl rfl (Vf.load rfl rfl rfl (oO.int (i:=0) rfl)) ?_;refine DD.vf 9 rfl rfl rfl rfl rfl (Vf.load rfl rfl rfl (oO.int (i:=1) rfl)) ?_;refine DD.vf 12 rfl rfl rfl rfl rfl (Vf.load rfl rfl rfl (oO.int (i:=2) rfl)) ?_;refine DD.vf 15 rfl rfl rfl rfl rfl (Vf.load rfl rfl rfl (oO.int (i:=3) rfl)) ?_;refine DD.run' [16,21] rfl ?_;rw[←hX] at hA;refine DD.act 17 rfl rfl rfl rfl rfl (Ef.call rfl (hA)) ((by rintro _ _ _ ⟨_,rfl,rfl,J,⟨_,_,_,fw⟩,hP⟩;exact⟨hP.all h.le fw,rfl,.inl rfl⟩)) ?_;rintro _ _ _ ⟨_,rfl,rfl,J,⟨p',rfl,bG,fw⟩,hP⟩;refine DD.run' [18,19,20] rfl ?_;have Br:=hP.all h.le fw;refine DD.act 22 rfl rfl rfl rfl rfl (Ef.ui rfl) ((by rintro _ _ _ ⟨rfl,rfl,rfl⟩;exact⟨Br,rfl,.inl rfl⟩)) ?_;rintro _ _ _ ⟨rfl,rfl,rfl⟩;refine DD.run' [23] rfl ?_;refine .fin rfl ?_;refine W.go 99 rfl ?_;have h1:=h.step fw hP
 by_cases c:(qz f.s x).2=0
 ·have hr:um f x=({f with s:=(qz f.s x).1},0):=if_pos c;rw[hr] at r;rw[c];refine W.split rfl rfl rfl (fun c=>?_) (fun c=>absurd c (by decide));refine W.go 99 rfl ?_;refine W.dY rfl rfl (Ef.vN rfl ⟨_,rfl,rfl⟩ rfl (cK _ _ _) h1.o rfl (show 10+4≤14 by decide) (bY rfl)) ?_;rintro _ _ _ ⟨rfl,rfl,rfl⟩;refine W.go 99 rfl ?_;refine W.ret r rfl rfl ?_;exact⟨rfl,J,{p with s:=p'},.of_le fw,⟨aC h1.le h1.n _,h1.n,aj _ _ _,h1.b,h1.r,bG⟩,(eU.ko bf hP).put _⟩
 ·have hr:um f x=(f,(qz f.s x).2):=if_neg c;rw[hr] at r;refine W.split rfl rfl rfl (fun h=>absurd h (by simpa using c)) (fun _=>?_);refine W.go 99 rfl ?_;refine W.ret r rfl rfl ?_;exact⟨rfl,J,p,.of_le fw,h1,.ko bf hP⟩
def sE(X:ax Tryz.prog)(v:Nat):Prop:=v<7∧(v=1∨v=5→za X)∧(v=6→OH X)∧(v=0∨v=4→H0 X)∧(v=2→OI X)
theorem FO(I L:LH)(bf:Nat)(f:Fi)(p:Fp)(v:Nat)(a:List Int)(ad:Option Addr)(cap:Nat)(h:iE I L bf f p)(ha:aN (gF I L) ad a)(hv:v<3)(hn:a.length=iu v)(hk:sE X v)(hs:Sm f.s):Sp X 134 [mS bf,.agg #[.int .i64 v,.slice ad a.length cap]] L (Du I L bf (mh f (v,a)).1 (mh f (v,a)).2):=by
 have oO:=ha.le (oZ I L);rcases(by omega:v=0∨v=1∨v=2) with rfl | rfl | rfl
 ·rw[show mh f (0,a)=pS f (wZ a) from rfl];have hn:a.length=3:=hn;rw[hn];rw[acP hn] at oO;generalize wZ a=x at oO ⊢;have hS:=Sf (X:=X) (hk.2.2.2.1 (.inl rfl)) I L bf f p x ad cap h oO;unfold mS;refine Sp.enter (n:=30) Tryz.func134 rfl rfl rfl rfl fun C hX _ aG r=>?_;rw[←hX] at hS;refine W.go 99 rfl ?_;refine W.split rfl rfl rfl (fun c=>?_) (fun c=>absurd c (by decide));refine W.go 99 rfl ?_;refine W.yH (v1:=[pt bf]) (v2:=[]) rfl rfl rfl rfl rfl rfl hS ?_ (fun _ _ h=>h.elim);rintro _ L' ⟨rfl,hD⟩;refine W.go 99 rfl ?_;refine W.ret r rfl rfl ?_;exact⟨rfl,hD⟩
 ·rw[show mh f (1,a)=ky f (AG a) from rfl];have hn:a.length=4:=hn;rw[hn];rw[sg4 hn] at ha;generalize AG a=x at ha ⊢;have hS:=SC (X:=X) (hk.2.1 (.inl rfl)) I L bf f p x ad cap h ha;unfold mS;refine Sp.enter (n:=30) Tryz.func134 rfl rfl rfl rfl fun C hX _ aG r=>?_;rw[←hX] at hS;refine W.go 99 rfl ?_;refine W.split rfl rfl rfl (fun c=>absurd c (by decide)) (fun c=>?_);refine W.go 99 rfl ?_;refine W.split rfl rfl rfl (fun c=>?_) (fun c=>absurd c (by decide));refine W.go 99 rfl ?_;refine W.yH (v1:=[pt bf]) (v2:=[]) rfl rfl rfl rfl rfl rfl hS ?_ (fun _ _ h=>h.elim);rintro _ L' ⟨rfl,hD⟩;refine W.go 99 rfl ?_;refine W.ret r rfl rfl ?_;exact⟨rfl,hD⟩
 ·rw[show mh f (2,a)=um f (Bb a) from rfl];have hn:a.length=4:=hn;rw[hn];rw[wt4 hn] at oO;generalize Bb a=x at oO ⊢;have hS:=Wm (X:=X) (hk.2.2.2.2 rfl) I L bf f p x ad cap h hs oO;unfold mS;refine Sp.enter (n:=30) Tryz.func134 rfl rfl rfl rfl fun C hX _ aG r=>?_;rw[←hX] at hS;refine W.go 99 rfl ?_;refine W.split rfl rfl rfl (fun c=>absurd c (by decide)) (fun c=>?_);refine W.go 99 rfl ?_;refine W.split rfl rfl rfl (fun c=>absurd c (by decide)) (fun c=>?_);refine W.go 99 rfl ?_;refine W.yH (v1:=[pt bf]) (v2:=[]) rfl rfl rfl rfl rfl rfl hS ?_ (fun _ _ h=>h.elim);rintro _ L' ⟨rfl,hD⟩;refine W.go 99 rfl ?_;refine W.ret r rfl rfl ?_;exact⟨rfl,hD⟩
theorem Pv(I L:LH)(bf:Nat)(f:Fi)(p:Fp)(v:Nat)(a:List Int)(ad:Option Addr)(cap:Nat)(h:iE I L bf f p)(ha:aN (gF I L) ad a)(hv:v<3)(hn:a.length=iu v)(hk:sE X v)(hs:Sm f.s):Sp X 314 [.agg #[.int .i64 v,.slice ad a.length cap],mS bf] L (yX I L bf (mh f (v,a)).1 okB (mi (mh f (v,a)).2)):=by
 have hE:=FO (X:=X) I L bf f p v a ad cap h ha hv hn hk hs;refine Sp.enter (n:=10) Tryz.func314 rfl rfl rfl rfl fun C hX _ aG r=>?_;rw[←hX] at hE;refine W.go 99 rfl ?_;refine W.aB rfl rfl rfl (Ef.call rfl (hE)) ?_;rintro _ _ _ ⟨_,rfl,rfl,rfl,hD⟩;refine W.aB rfl rfl rfl (Ef.call rfl (rY _ _)) ?_;rintro _ _ _ ⟨_,rfl,rfl,rfl,rfl⟩;refine W.go 99 rfl ?_;refine W.ret r rfl rfl ?_;exact⟨rfl,hD⟩
theorem I6{q:List Bs}(h:∀w∈q,w.length≤10):(kg q).length≤11 *q.length+10:=by
 cases q with
 | nil=>exact Nat.zero_le _
 | cons x q=>
  have h1:=nc q fun w hw=>h w (List.mem_cons_of_mem _ hw);have h2:=h x (List.mem_cons_self ..);rw[qY,List.length_append,List.length_cons];omega
theorem TW(hR:OH X)(I L:LH)(bf:Nat)(f:Fi)(p:Fp)(h:iE I L bf f p)(hs:Sm f.s)(hb:∃n:Nat,n<100∧(eT f.s).2.1=n)(hl:(eT f.s).1.length≤100∧∀n∈(eT f.s).1,n<100):Sp X 311 [.agg #[],mS bf] L (yX I L bf f (lQ (bK (eT f.s).1)++[58,32]++gD (eT f.s).2.1) (mi (eT f.s).2.2)):=by
 have hS:=(hR.abb f.s p.s I h.s hs).frame h.le;generalize eT f.s=B at hS hb hl ⊢;obtain⟨l,n',e⟩:=B;obtain⟨n,hn,rfl⟩:=hb;obtain⟨ec,bZ⟩:=hl;dsimp only at hS ec bZ ⊢;have q1:=ij ⟨n,hn⟩;rw[vK,rU];refine Sp.enter (n:=27) Tryz.func311 rfl rfl rfl rfl fun C hX _ aG r=>?_;refine W.go 99 rfl ?_;refine W.vf rfl rfl rfl rfl (Vf.cO rfl rfl rfl (fM (vs:=qM f.s p.s) h.o rfl rfl)) ?_;refine W.go 99 rfl ?_;rw[←hX] at hS;refine W.aB rfl rfl rfl (Ef.call rfl (hS)) ?_;rintro _ _ _ ⟨_,rfl,rfl,J,⟨ad,cap,rfl,cA,hd⟩,hP⟩;rename_i L1;have h1:=h.dm hd hP;have nm:(bK l).length=l.length:=List.length_map ..;refine W.go 99 rfl ?_;refine W.aB rfl rfl rfl (Ef.call rfl (Dd ad cap l _ (cA.le hP.le) ec bZ)) ?_;rintro _ _ _ ⟨_,rfl,rfl,rfl,hle⟩;have q2:(kg (l.map bH)).length≤1110:=by
  refine Nat.le_trans (I6 (q:=l.map bH) fun w hw=>?_) (by rw[List.length_map];omega);obtain⟨m,hm,rfl⟩:=List.mem_map.1 hw;have:=ij ⟨m,bZ m hm⟩;simp only at this;omega
 simp only at q1;refine W.vf rfl rfl rfl rfl (Vf.cat (l:=kg (l.map bH)) (r:=[58,32]) rfl rfl (by show(kg (l.map bH)).length+2≤_;omega)) ?_;refine W.go 99 rfl ?_;refine W.aB rfl rfl rfl (Ef.call rfl (uy n _ hn)) ?_;rintro _ _ _ ⟨_,rfl,rfl,rfl,rfl⟩;refine W.vf rfl rfl rfl rfl (Vf.cat (l:=kg (l.map bH)++[58,32]) rfl rfl (by simp only[List.length_append,List.length_cons,List.length_nil];omega)) ?_;refine W.go 99 rfl ?_;refine W.aB rfl rfl rfl (Ef.call rfl (rY _ _)) ?_;rintro _ _ _ ⟨_,rfl,rfl,rfl,rfl⟩;refine W.go 99 rfl ?_;refine W.ret r rfl rfl ?_;exact⟨rfl,J,p,hd,h1.up hle,(eU.ko bf hP).up hle⟩
theorem Dm.bk{L L':LH}(h:Dm L L'){k:kC}{p:Kp}(hk:nv L k p):nv L' k p:=⟨h.bl hk.b,h.ro hk.r,h.sw hk.s,h.sl hk.l,h.sl hk.a⟩
structure Ck(I L:LH)(bc:Nat)(k:kC)(p:Kp)(xs:List Ln)(us:List AP)(ua:Option Addr)(uc:Nat):Prop where
 le:Le I L
 bk:nv I k p
 o:gF I L bc=some (.cells (Bi k p++[Value.slice ua us.length uc]).toArray 195 (0,0),true)
 s:aX (gF I L) ua 1 FJ us
 a:pw (gF I L) us
 x:us.map AP.x=xs
 c:us.length≤uc
theorem Ck.go{I L J L':LH}{bc bf:Nat}{k:kC}{p:Kp}{xs:List Ln}{us:List AP}{ua:Option Addr}{uc:Nat}(h:Ck I L bc k p xs us ua uc)(hd:Dm I J)(ho:eU I L J L' bf)(hb:L bf=none)(hl:Le J L'):Ck J L' bc k p xs us ua uc:=
 ⟨hl,hd.bk h.bk,ho.out hb _ _ h.o,h.s.le (ho.out hb),h.a.le (ho.out hb),h.x,h.c⟩
theorem Ck.at_{I L:LH}{bc:Nat}{k:kC}{p:Kp}{xs:List Ln}{us:List AP}{ua:Option Addr}{uc:Nat}(h:Ck I L bc k p xs us ua uc):yZ L bc k p xs us ua uc:=
 ⟨oZ I L _ _ h.o,h.bk.le h.le,h.s.le (oZ I L),h.a.le (oZ I L),h.x,h.c⟩
theorem GV(k:kC)(p:Kp)(la:Option Addr)(lc:Nat)(ls:List Bs)(xs:List Ln)(L:LH)(hk:nv L k p)(hl:aX L la 1 cI ls)(h6:ls.length≤6)(hn:∀l∈ls,l.length≤100)(hp:ls.map gW=xs.map some):
  Sp X 94 [Mr k p,.slice la ls.length lc] L (fun v L'=>∃bc us ua uc,v=pt bc∧Ck L L' bc {k with ls:=ls} {p with la:=la,lc:=lc} xs us ua uc):=by
 refine Sp.enter (n:=42) Tryz.func94 rfl rfl rfl rfl fun C hX _ aG r=>?_;refine W.go 99 rfl ?_;have zR:ls.length=xs.length:=by have:=congrArg List.length hp;simpa using this
 refine W.loop (fun m' E B L'=>∃(i:Nat) (us:List AP) (ua:Option Addr) (uc:Nat) (I:LH),m'=ls.length - i∧i≤ls.length∧us.map AP.x=xs.take i∧Le L I∧pw (gF L I) us∧bM I 1 159 FJ L' (.slice ua i uc) us∧
   E=[(5,.p 1 0),(18,.v (.slice la ls.length lc)),(19,.v (.int .i64 ls.length)),(20,.v (.int .i64 i))]∧B=[some ⟨(Bi k p).map .v,56⟩,some ⟨(Bi {k with ls:=ls} {p with la:=la,lc:=lc}++[Value.slice ua i uc]).map .v,195⟩])
  ⟨0,[],none,0,L,rfl,Nat.zero_le _,rfl,Le.refl _,fun u hu=>by simp at hu,bM.nil (Le.refl _),rfl,rfl⟩ (by exact⟨rfl,rfl,rfl,rfl,trivial⟩) (by exact⟨rfl,rfl,trivial⟩) ?_
 rintro _ _ _ L1 ⟨i,us,ua,uc,I,rfl,hi,hx,P5,hus,hg,rfl,rfl⟩ again;have U6:us.length=i:=by
  have:=congrArg List.length hx;rw[List.length_map,List.length_take] at this;omega
 refine W.go 99 rfl ?_;refine W.split rfl rfl rfl (fun c1=>W.go 99 rfl ?_) (fun c1=>W.go 99 rfl ?_)
 ·have hi:i<ls.length:=by simpa using c1
  obtain⟨a,rfl⟩:=hl.addr hi;have Zx:=List.getElem?_eq_getElem hi;have ou:i<xs.length:=by omega
  have Va:=List.getElem?_eq_getElem ou;have wI:gW ls[i]=some xs[i]:=by
   have:=congrArg (fun l=>l[i]?) hp;simp only[List.getElem?_map,Zx,Va,Option.map_some] at this;exact Option.some.inj this
  have QR:=hn _ (List.getElem_mem hi);have eI:xs.take (i+1)=xs.take i++[xs[i]]:=List.take_succ_eq_append_getElem ou;generalize ls[i]=l at Zx wI QR;generalize xs[i]=x at Va wI eI;obtain⟨v,aa⟩:=x;obtain⟨_,_,Nt,ed,hag⟩:=xN wI;have ed:aa.length=iu v:=by rw[s9 hag];exact ed
  refine W.vf rfl rfl rfl rfl (Vf.aW rfl rfl rfl rfl rfl rfl rfl (hi)) ?_;refine W.go 99 rfl ?_;refine W.vf rfl rfl rfl rfl (Vf.load rfl rfl rfl (jq (hl.le (P5.trans hg.1)) Zx)) ?_;refine W.go 99 rfl ?_;refine W.aB rfl rfl rfl (Ef.call rfl (Fo l v aa _ (by omega) wI)) ?_;rintro _ _ _ ⟨_,rfl,rfl,ad,cap,rfl,Nn⟩;rename_i L2;have cA:=(Nn.at aV).2;refine W.go 99 rfl ?_;refine W.drawn (by kernel_rfl) oY (aE _) ?_;refine DD.run' [0,1,2,3,4,5] rfl ?_;refine DD.act 6 rfl rfl rfl rfl rfl (Ef.call rfl (NJ v ad cap aa _ Nt ed cA)) (by rintro _ _ _ ⟨_,rfl,rfl,_⟩;exact⟨aE _,rfl,.inl rfl⟩) ?_;rintro _ _ _ ⟨u,rfl,rfl,hu,rfl⟩;obtain⟨t1,w1,rfl⟩:=OR hu;refine DD.run' [7] rfl ?_;obtain⟨J,fw,_,oS,hJ⟩:=hg.base Nn.1;have acz:pw (gF L J) (us++[(⟨v,aa,ad,cap⟩:AP)]):=fun u hu=>by
   rcases List.mem_append.1 hu with hu | hu
   ·exact(hus u hu).le (ug fw)
   ·rw[List.mem_singleton.1 hu];exact Nn.under aV fun b hb=>(lN (aP (P5.trans hg.1) hb)).trans (hJ b hb)
  refine DD.act 8 rfl rfl rfl rfl rfl (Ef.grow rfl rfl rfl rfl rfl rfl rfl rfl rfl B8 Pp oS (ls:=[(⟨v,aa,ad,cap⟩:AP)]) (.own rfl rfl rfl (congrArg (fun u=>some [u]) hu)) (by rw[List.length_singleton];omega)) ((by rintro _ _ _ ⟨_,rfl,rfl,_,_⟩;exact⟨aE _,rfl,.inl rfl⟩)) ?_;rintro _ _ _ ⟨v1,rfl,rfl,Gb,_⟩;obtain⟨gM,dM,rfl,_⟩:=Gb.slice;rw[show(us++[(⟨v,aa,ad,cap⟩:AP)]).length=i+1 by rw[List.length_append,List.length_singleton,U6]] at Gb ⊢;refine DD.run' [9,10] rfl ?_;refine DD.act 11 rfl rfl rfl rfl rfl (Ef.ui rfl) (by rintro _ _ _ ⟨rfl,rfl,rfl⟩;exact⟨aE _,rfl,.inr rfl⟩) ?_;rintro _ _ _ ⟨rfl,rfl,rfl⟩;refine .fin rfl ?_;refine W.go 99 rfl ?_;exact W.again (again _ _ _ _ (by omega) ⟨i+1,us++[(⟨v,aa,ad,cap⟩:AP)],gM,dM,J,rfl,hi,by rw[List.map_append,hx,eI];rfl,P5.trans fw,acz,Gb,rfl,rfl⟩) (by exact⟨rfl,rfl,rfl,congrArg some (bu (by omega)),trivial⟩) (by exact⟨rfl,rfl,trivial⟩)
 ·have iZ:i=ls.length:=by simp at c1;omega
  refine W.cw 4 (.inl ⟨_,rfl⟩) rfl rfl ?_;intro bc Qf _;refine W.ret r rfl rfl ?_;have hle:=P5.trans hg.1;have qw:=Le.put Qf (.cells (Bi {k with ls:=ls} {p with la:=la,lc:=lc}++[Value.slice ua i uc]).toArray 195);have qg:us.length≤uc:=by
   rw[←U6] at hg;obtain⟨_,_,g1,g2⟩:=hg.slice;cases g1;exact g2
  have UJ:=aP hle Qf;refine⟨bc,us,ua,uc,rfl,hle.trans qw,?_,?_,?_,?_,?_,qg⟩
  ·exact⟨hk.b,hk.r,hk.s,hl,hk.a⟩
  ·rw[U6,lN UJ];exact aj _ _ _
  ·rw[←U6] at hg;exact(hg.under (J:=gF L L1) B8 fun b hb=>lN (aP P5 hb)).le (ug qw)
  ·exact hus.le (ug (hg.1.trans qw))
  ·rw[hx,List.take_of_length_le (by omega)]
theorem LR{s:Sw}{x:Want}(h:uB s)(he:(qz s x).2=0):uB (qz s x).1:=by
 unfold qz at he ⊢
 split at he
 ·rename_i h1;exact absurd he h1
 ·rename_i h1;rw[if_neg h1]
  split at he
  ·cases he
  ·rename_i h2;rw[if_neg h2]
   split at he
   ·rename_i h3;exact absurd he h3
   ·rename_i h3;rw[if_neg h3]
    split at he
    ·cases he
    ·rename_i h4;rw[if_neg h4];have hx:iw s.bj x=0:=by simpa using h3
     exact⟨h.l1,h.l3,h.lf,h.st,h.sr,h.k0,h.k3,(by show(s.dS++[x]).length≤5;have:=h.w5;simp;omega),fun y hy=>by
      rcases List.mem_append.1 hy with hy | hy
      ·exact h.wt y hy
      ·rw[List.mem_singleton.1 hy];exact HJ hx⟩
theorem MP{f:Fi}{x:Ln}(h:uB f.s):uB (mh f x).1.s:=by
 unfold mh
 split
 ·unfold pS;split <;> exact h
 ·split
  ·unfold ky;split <;> exact h
  ·unfold um
   split
   ·rename_i he;exact LR h he
   ·exact h
theorem xA{f0:Fi}{xs:List Ln}{out i:Nat}{x:Ln}(hx:xs[i]?=some x):cy f0 xs out (i+1)=mg out i x (cy f0 xs out i):=by
 obtain⟨hi,rfl⟩:=List.getElem?_eq_some_iff.1 hx;unfold cy;rw[List.take_succ_eq_append_getElem hi,nF,List.length_take,Nat.min_eq_left (by omega),Nat.zero_add]
theorem tq{f0:Fi}{xs:List Ln}{out:Nat}(h:uB f0.s):∀i,uB (cy f0 xs out i).1.s
 | 0=>h
 | i+1=>by
  have ih:=tq (xs:=xs) (out:=out) h i;cases hx:xs[i]? with
  | none=>
   have:cy f0 xs out (i+1)=cy f0 xs out i:=by
    have:=List.getElem?_eq_none_iff.1 hx;unfold cy;rw[List.take_of_length_le (by omega),List.take_of_length_le (by omega)]
   rw[this];exact ih
  | some x=>
   rw[xA hx];unfold mg
   split
   ·exact MP ih
   ·exact ih
theorem SG{α:Type}{L:LH}{ad:Option Addr}{k c m:Nat}{enc:α→List Value}{l:List α}(h:aX L ad k enc l):aX L (if c=0 then ad else Option.map (fun a:Addr=>a.add (0 *m)) ad) k enc l:=by
 split
 ·exact h
 ·intro i x hx;obtain⟨a,rfl,h2⟩:=h i x hx;refine⟨a.add (0 *m),rfl,fun j v hv=>?_⟩;rw[zf,Nat.zero_mul,Nat.zero_add];exact h2 j v hv
theorem Ub(I L:LH)(bc:Nat)(k:kC)(p:Kp)(xs:List Ln)(us:List AP)(ua:Option Addr)(uc n out:Nat)(hc:Ck I L bc k p xs us ua uc)(hl:us.length≤6)(hn:n≤us.length)(ho:out<256)(hv:∀u∈us,sE X u.v∧u.a.length=iu u.v)(hs:uB k.s):
  Sp X 95 [pt bc,.int .i64 n,.int .u8 out] L (fun v L'=>∃bf J fp,v=.tuple #[mS bf,.int .u8 (cy ⟨k.b,k.ro,k.s⟩ xs out n).2]∧L bf=none∧Dm I J∧iE J L' bf (cy ⟨k.b,k.ro,k.s⟩ xs out n).1 fp∧eU I L J L' bf):=by
 have hN:=(Jk (X:=X) k p I hc.bk).frame hc.le;have hL:=hc.at_;refine Sp.enter (n:=55) Tryz.func95 rfl rfl rfl rfl fun C hX _ aG r=>?_;refine W.go 99 rfl ?_;refine W.vf rfl rfl rfl rfl (Vf.cO rfl rfl rfl (fM (vs:=Bi k p) hL.o rfl rfl)) ?_;refine W.go 99 rfl ?_;rw[←hX] at hN;refine W.aB rfl rfl rfl (Ef.call rfl (hN)) ?_;rintro _ _ _ ⟨_,rfl,rfl,_,⟨bf,rfl,YG⟩,hP⟩;rename_i L1 I1;have jv:L bf=none:=by
  rcases hP.fresh bf (by rw[YG.o];simp) with h | h
  ·exact absurd YG.n h
  ·exact h
 have hD:iE I L1 bf ⟨k.b,k.ro,k.s⟩ ⟨p.b,p.r,p.s⟩:=YG.up hP.le;have hO:eU I L I L1 bf:=⟨fun b x h1 _ h3=>hP.keep b x h1 h3,fun b h=>.inl h⟩;have iL:=(hc.go (Dm.of_le (Le.refl _)) hO jv hD.le).at_;refine W.go 99 rfl ?_;refine W.vf rfl rfl rfl rfl (Vf.load rfl rfl rfl (ay iL.o rfl)) ?_;refine W.go 99 rfl ?_;refine W.vf rfl rfl rfl rfl (Vf.vJ (i:=0) (j:=n) rfl Tryz.underlying151 SE rfl rfl rfl rfl (Nat.zero_le _) (by have:=hc.c;omega)) ?_;have Nq:=SG (c:=uc) (m:=1) hc.s;rw[Nat.sub_zero,Nat.sub_zero];generalize(if uc=0 then ua else Option.map (fun a:Addr=>a.add (0 * 1)) ua)=ta at Nq ⊢;refine W.go 99 rfl ?_;have zR:us.length=xs.length:=by rw[←hc.x,List.length_map]
 refine W.loop (fun m' E B L'=>∃(i:Nat) (J:LH) (fp:Fp),m'=n - i∧i≤n∧Dm I J∧iE J L' bf (cy ⟨k.b,k.ro,k.s⟩ xs out i).1 fp∧eU I L J L' bf∧
   E=[(2,.v (.int .u8 out)),(6,.p 0 0),(8,.p 1 0),(9,.v (.int .u8 (cy ⟨k.b,k.ro,k.s⟩ xs out i).2)),(24,.v (.slice ta n uc)),(25,.v (.int .i64 n)),(26,.v (.int .i64 i))]∧
   B=[some ⟨S7.z.cells.toList.map .v,118⟩,some ⟨(mS bf).cells.toList.map .v,118⟩])
  ⟨0,I,⟨p.b,p.r,p.s⟩,rfl,Nat.zero_le _,Dm.of_le (Le.refl _),hD,hO,rfl,rfl⟩ (by exact⟨rfl,rfl,rfl,rfl,rfl,rfl,rfl,trivial⟩) (by exact⟨rfl,rfl,trivial⟩) ?_
 rintro _ _ _ L2 ⟨i,J,fp,rfl,hi,fw,hD,hO,rfl,rfl⟩ again;have mD:(cy ⟨k.b,k.ro,k.s⟩ xs out i).2<256:=B4 (by omega);have Nr:uB (cy ⟨k.b,k.ro,k.s⟩ xs out i).1.s:=tq hs i;refine W.go 99 rfl ?_;refine W.split rfl rfl rfl (fun c1=>W.go 99 rfl ?_) (fun c1=>W.go 99 rfl ?_)
 ·have hi:i<n:=by simpa using c1
  have UQ:i<us.length:=by omega
  have hix:i<xs.length:=by omega
  obtain⟨a,rfl⟩:=Nq.addr UQ;have hu:=List.getElem?_eq_getElem UQ;have IZ:=hv _ (List.getElem_mem UQ);have ia:=hO.out jv;have IF:=(hc.a _ (List.getElem_mem UQ)).le ia;have qV:xs[i]?=some us[i].x:=by
   rw[←hc.x,List.getElem?_map,hu];rfl
  have jg:=xA (f0:=⟨k.b,k.ro,k.s⟩) (out:=out) qV;generalize us[i]=u at hu IZ IF jg;obtain⟨v,a',ad,cap⟩:=u;obtain⟨yB,U7⟩:=IZ;have bW:L2.cell? (a.add i)=some (gJ v ad cap a'):=by
   have:=((Nq.le ia).le (oZ _ _)).get hu (j:=0) (v:=gJ v ad cap a') rfl
   simpa using this
  have YJ:=hD.le;refine W.vf rfl rfl rfl rfl (Vf.aW rfl rfl rfl rfl rfl rfl rfl (hi)) ?_;refine W.go 99 rfl ?_;simp only at U7 yB;have acA:=yB.1;rw[←hX] at yB;have jg:cy ⟨k.b,k.ro,k.s⟩ xs out (i+1)=mg out i (v,a') (cy ⟨k.b,k.ro,k.s⟩ xs out i):=jg;have Nt:v<3∨v=3∨v=4∨v=5∨v=6:=by have:=yB.1;omega
  rcases Nt with h0 | rfl | rfl | rfl | rfl
  ·have cQ:gJ v ad cap a'=.iface 252 (.agg #[.int .i64 v,.slice ad a'.length cap]):=by
    unfold gJ;rw[if_neg (by omega),if_neg (by omega),if_neg (by omega),if_neg (by omega)]
   rw[cQ] at bW;refine W.vf rfl rfl rfl rfl (Vf.load rfl rfl rfl (bW)) ?_;refine W.go 99 rfl ?_;refine W.split rfl rfl rfl (fun c=>?_) (fun c=>absurd c (by decide));refine W.go 99 rfl ?_;refine W.aB rfl rfl rfl (Ef.call rfl (KN out i _ ho (by omega))) ?_;rintro _ _ _ ⟨_,rfl,rfl,rfl,rfl⟩;refine W.go 99 rfl ?_;refine W.split rfl rfl rfl (fun c2=>?_) (fun c2=>?_)
   ·have T2:out.testBit i=false:=by simpa using c2
    rw[show mg out i (v,a') (cy ⟨k.b,k.ro,k.s⟩ xs out i)=((mh (cy ⟨k.b,k.ro,k.s⟩ xs out i).1 (v,a')).1,if(mh (cy ⟨k.b,k.ro,k.s⟩ xs out i).1 (v,a')).2=0 then(cy ⟨k.b,k.ro,k.s⟩ xs out i).2||| 2 ^ i else(cy ⟨k.b,k.ro,k.s⟩ xs out i).2) from if_pos ⟨h0,T2⟩] at jg;refine W.go 99 rfl ?_;refine W.aB rfl rfl rfl (Ef.call rfl (FO J L2 bf _ fp v a' ad cap hD IF h0 U7 yB Nr.sm)) ?_;rintro _ _ _ ⟨_,rfl,rfl,rfl,J',p',hJJ,hD',hO'⟩;rename_i L3;have ag:=again _ _ _ L3 (by omega) ⟨i+1,J',p',rfl,hi,fw.trans hJJ,by rw[jg];exact hD',hO.trans hO' (by rw[hD.o];simp),rfl,rfl⟩;rw[jg] at ag;simp only at ag;refine W.go 99 rfl ?_;refine W.split rfl rfl rfl (fun c3=>?_) (fun c3=>?_)
    ·rw[if_pos (by simpa using c3)] at ag;refine W.go 99 rfl ?_;refine W.aB rfl rfl rfl (Ef.call rfl (HK _ i _ mD (by omega))) ?_;rintro _ _ _ ⟨_,rfl,rfl,rfl,rfl⟩;refine W.go 99 rfl ?_;exact W.again ag (by exact⟨rfl,rfl,rfl,rfl,rfl,rfl,congrArg some (bu (by omega)),trivial⟩) (by exact⟨rfl,rfl,trivial⟩)
    ·rw[if_neg (by simpa using c3)] at ag;refine W.go 99 rfl ?_;exact W.again ag (by exact⟨rfl,rfl,rfl,rfl,rfl,rfl,congrArg some (bu (by omega)),trivial⟩) (by exact⟨rfl,rfl,trivial⟩)
   ·have T2:¬out.testBit i=false:=by simpa using c2
    rw[show mg out i (v,a') (cy ⟨k.b,k.ro,k.s⟩ xs out i)=cy ⟨k.b,k.ro,k.s⟩ xs out i from if_neg (fun h=>T2 h.2)] at jg;have ag:=again _ _ _ L2 (by omega) ⟨i+1,J,fp,rfl,hi,fw,by rw[jg];exact hD,hO,rfl,rfl⟩;rw[jg] at ag;refine W.go 99 rfl ?_;exact W.again ag (by exact⟨rfl,rfl,rfl,rfl,rfl,rfl,congrArg some (bu (by omega)),trivial⟩) (by exact⟨rfl,rfl,trivial⟩)
  ·refine W.vf rfl rfl rfl rfl (Vf.load rfl rfl rfl ((show _=some (Value.iface 209 (.agg #[.int .i64 (a'.getD 0 0)])) from bW))) ?_;refine W.go 99 rfl ?_;rw[show mg out i (3,a') (cy ⟨k.b,k.ro,k.s⟩ xs out i)=cy ⟨k.b,k.ro,k.s⟩ xs out i from rfl] at jg;have ag:=again _ _ _ L2 (by omega) ⟨i+1,J,fp,rfl,hi,fw,by rw[jg];exact hD,hO,rfl,rfl⟩;rw[jg] at ag;refine W.split rfl rfl rfl (fun c=>absurd c (by decide)) (fun c=>?_);refine W.go 99 rfl ?_;exact W.again ag (by exact⟨rfl,rfl,rfl,rfl,rfl,rfl,congrArg some (bu (by omega)),trivial⟩) (by exact⟨rfl,rfl,trivial⟩)
  ·refine W.vf rfl rfl rfl rfl (Vf.load rfl rfl rfl ((show _=some (Value.iface 153 (.agg #[.int .i64 (a'.getD 0 0)])) from bW))) ?_;refine W.go 99 rfl ?_;rw[show mg out i (4,a') (cy ⟨k.b,k.ro,k.s⟩ xs out i)=cy ⟨k.b,k.ro,k.s⟩ xs out i from rfl] at jg;have ag:=again _ _ _ L2 (by omega) ⟨i+1,J,fp,rfl,hi,fw,by rw[jg];exact hD,hO,rfl,rfl⟩;rw[jg] at ag;refine W.split rfl rfl rfl (fun c=>absurd c (by decide)) (fun c=>?_);refine W.go 99 rfl ?_;exact W.again ag (by exact⟨rfl,rfl,rfl,rfl,rfl,rfl,congrArg some (bu (by omega)),trivial⟩) (by exact⟨rfl,rfl,trivial⟩)
  ·refine W.vf rfl rfl rfl rfl (Vf.load rfl rfl rfl ((show _=some (Value.iface 155 (.agg #[.int .i64 (a'.getD 0 0)])) from bW))) ?_;refine W.go 99 rfl ?_;rw[show mg out i (5,a') (cy ⟨k.b,k.ro,k.s⟩ xs out i)=cy ⟨k.b,k.ro,k.s⟩ xs out i from rfl] at jg;have ag:=again _ _ _ L2 (by omega) ⟨i+1,J,fp,rfl,hi,fw,by rw[jg];exact hD,hO,rfl,rfl⟩;rw[jg] at ag;refine W.split rfl rfl rfl (fun c=>absurd c (by decide)) (fun c=>?_);refine W.go 99 rfl ?_;exact W.again ag (by exact⟨rfl,rfl,rfl,rfl,rfl,rfl,congrArg some (bu (by omega)),trivial⟩) (by exact⟨rfl,rfl,trivial⟩)
  ·refine W.vf rfl rfl rfl rfl (Vf.load rfl rfl rfl ((show _=some (Value.iface 157 (.agg #[])) from bW))) ?_;refine W.go 99 rfl ?_;rw[show mg out i (6,a') (cy ⟨k.b,k.ro,k.s⟩ xs out i)=cy ⟨k.b,k.ro,k.s⟩ xs out i from rfl] at jg;have ag:=again _ _ _ L2 (by omega) ⟨i+1,J,fp,rfl,hi,fw,by rw[jg];exact hD,hO,rfl,rfl⟩;rw[jg] at ag;refine W.split rfl rfl rfl (fun c=>absurd c (by decide)) (fun c=>?_);refine W.go 99 rfl ?_;exact W.again ag (by exact⟨rfl,rfl,rfl,rfl,rfl,rfl,congrArg some (bu (by omega)),trivial⟩) (by exact⟨rfl,rfl,trivial⟩)
 ·have iZ:i=n:=by simp at c1;omega
  subst iZ;refine W.ret r rfl rfl ?_;exact⟨bf,J,fp,rfl,jv,fw,hD,hO⟩
end Go.Mz
set_option maxRecDepth 100000
namespace Go.Mz
open Go.Conc
def pT:Nat→Nat→List Item→List Item
 | 0,_,k=>k
 | f+1,m,.code (.seq a b)::k=>pT f m (.code a::.code b::k)
 | f+1,m,.code (.block l c)::k=>pT f m (.code c::.inBlock l::k)
 | _+1,0,.code (.region _ ops false)::k=>.inRegion ops (List.range ops.size)::k
 | f+1,m+1,.code (.region _ _ _)::k=>pT f m k
 | f+1,m+1,.code (.cond _ _ _)::k=>pT f m k
 | f+1,m+1,.inRegion _ _::k=>pT f m k
 | f+1,m,.code .skip::k=>pT f m k
 | f+1,m,.inBlock _::k=>pT f m k
 | _+1,_,k=>k
theorem W.abg{P:Program}{C:Cx P}{n:Nat}{ds:List Deferred}{k:List Item}{E:Env}{B:List (Option Bx)}{L:LH}(m:Nat)(J:Env→List (Option Bx)→LH→Prop)(hJ:∀E B L,J E B L→W C n ds (pT 99 m k) E B L)
  (h:(∀E' B' L',J E' B' L'→W C n ds (pT 99 m k) E' B' L')→W C n ds k E B L):W C n ds k E B L:=h hJ
end Go.Mz
namespace Go.Mz
open Go
def Er(e:Int):Prop:=∃n:Nat,n<100∧e=n
theorem Er.lit(n:Nat)(h:n<100):Er (n:Int):=⟨n,h,rfl⟩
theorem Er.ite{c:Prop}[Decidable c]{a b:Int}(h1:Er a)(h2:Er b):Er (if c then a else b):=by split <;> assumption
theorem Er.jy{α:Type}{c:Prop}[Decidable c]{a b:α×Int}(h1:Er a.2)(h2:Er b.2):Er (if c then a else b).2:=by split <;> assumption
theorem lW:Er 0:=.lit 0 (by decide)
theorem zv:Er 1:=.lit 1 (by decide)
theorem MR:Er 3:=.lit 3 (by decide)
theorem Ug:Er 5:=.lit 5 (by decide)
theorem Ir:Er 6:=.lit 6 (by decide)
theorem er7:Er 7:=.lit 7 (by decide)
theorem Uh:Er 8:=.lit 8 (by decide)
theorem D1:Er 9:=.lit 9 (by decide)
theorem oM(n lo hi:Int):Er (bA n lo hi):=.ite er7 (.ite Ir lW)
theorem FQ(s:bV)(m:Int):Er (eE s m):=.ite zv (.ite Ug lW)
theorem Ce(m:Int):∀l,Er (fq m l)
 | []=>lW
 | s::l=>.ite (FQ s m) (Ce m l)
theorem wA(l:List bV)(a b:Int):Er (dq l a b):=.ite (oM ..) (Ce ..)
theorem Cb(b:Bl)(p:nX):Er (iR b p):=.ite MR (.ite Uh lW)
theorem zx(b:Bl):∀l,Er (jj b l)
 | []=>lW
 | p::l=>.ite (Cb b p) (zx b l)
theorem FP(b:Bl):Er (fX b):=.ite (wA ..) (.ite D1 (.ite zv (.ite (.ite D1 (.ite zv (.ite Ug lW))) (.ite (wA ..) (.ite Ir (zx ..))))))
theorem PD(b:Bl)(p:nX):Er (px b p).2:=.jy (FP b) (.jy Ir (.jy (Cb b p) (.jy D1 lW)))
theorem Is(b:Bl)(gV:Int):Er (gz b gV).2:=.jy (FP b) (.jy MR (.jy D1 (.jy (.lit 11 (by decide)) lW)))
theorem MS(g:Gl):Er (ix g):=.ite zv (FQ ..)
theorem xC:∀l,Er (c8 l)
 | []=>lW
 | g::l=>.ite (MS g) (xC l)
theorem Cf:∀p l,Er (df p l)
 | _,[]=>lW
 | p,n::l=>.ite zv (.ite Ug (Cf _ l))
theorem Cd(r:Ro)(s:Sg):Er (de r s):=.ite MR (.ite zv (.ite (.lit 12 (by decide)) (.ite Uh lW)))
theorem zy(r:Ro):∀l,Er (ib r l)
 | []=>lW
 | s::l=>.ite (Cd r s) (zy r l)
theorem KF(r:Ro):Er (dK r):=.ite (oM ..) (.ite (xC _) (.ite (oM ..) (.ite (Cf ..) (.ite D1 (.ite zv (.ite (wA ..) (.ite Ir (zy ..))))))))
theorem PE(r:Ro)(s:Sg):Er (iD r s).2:=.jy (KF r) (.jy Ir (.jy (Cd r s) (.jy D1 lW)))
theorem PH(r:Ro)(x:Int):Er (dI r x).2:=.jy (KF r) (.jy MR (.jy D1 lW))
theorem PI(l:List Int):Er (kh l):=.ite (oM ..) (by
 generalize(none:Option Int)=p
 induction l generalizing p with
 | nil=>exact lW
 | cons n t ih=>exact .ite zv (.ite Ug (ih _)))
theorem zw:∀l,Er (iH l)
 | []=>lW
 | x::l=>.ite (PI x) (zw l)
theorem FR(ls:List (List Int))(x:Want):Er (iw ls x):=.ite Uh (.ite MR (.ite lW zv))
theorem Cg(ls:List (List Int)):∀l,Er (kB ls l)
 | []=>lW
 | x::l=>.ite (FR ls x) (Cg ls l)
theorem KG(s:Sw):Er (kK s):=.ite (oM ..) (.ite (zw _) (.ite D1 (.ite zv (.ite zv (.ite Ir (Cg ..))))))
theorem PF(s:Sw)(x:Want):Er (qz s x).2:=.jy (KG s) (.jy Ir (.jy (FR ..) (.jy D1 lW)))
theorem PG(s:Sw):Er (eT s).2.2:=by
 unfold eT
 split
 ·exact KG s
 ·exact lW
theorem MO(f:Fi)(x:Ln):Er (mh f x).2:=.jy (.jy lW (PD ..)) (.jy (.jy lW (PE ..)) (.jy lW (PF ..)))
theorem Mo(f:Fi)(x:Ln):Er (qE f x).2:=.jy (MO f x) (.jy lW (.jy (Is ..) (.jy (PH ..) (PG ..))))
theorem Ka(xs:List Ln)(n out:Nat)(m:Int):Er (pV xs n out m).2:=.jy MR (.jy Uh (.jy (.lit 4 (by decide)) lW))
theorem Cl{P:Int→Prop}:∀{l:List Int} {a:Int},P a→(∀x∈l,P x)→P (l.foldl min a)
 | [],_,h,_=>h
 | x::l,a,h,hl=>Cl (l:=l) (a:=min a x) (by show P (if a≤x then a else x);split;exact h;exact hl x List.mem_cons_self) fun y hy=>hl y (List.mem_cons_of_mem _ hy)
theorem Cj{P:Int→Prop}:∀{l:List Int} {a:Int},P a→(∀x∈l,P x)→P (l.foldl max a)
 | [],_,h,_=>h
 | x::l,a,h,hl=>Cj (l:=l) (a:=max a x) (by show P (if a≤x then x else a);split;exact hl x List.mem_cons_self;exact h) fun y hy=>hl y (List.mem_cons_of_mem _ hy)
theorem vY(ro:Ro)(x:Int):∀n:Int,n=(dI ro x).1.lo∨n=(dI ro x).1.hi→0≤n∧n<100:=by
 have z:∀n:Int,n=0∨n=0→0≤n∧n<100:=fun n h=>by omega
 unfold dI
 split
 ·exact z
 ·rename_i h0
  split
  ·exact z
  ·split
   ·exact z
   ·have hd:∀n∈ro.aA,0≤n∧n<100:=fun n hn=>by
     have h0:dK ro=0:=by simpa using h0
     unfold dK at h0;refine Classical.byContradiction fun hc=>?_;have cz:(ro.aA.all fun n=>bq n 0 99)=false:=by
      cases e:ro.aA.all fun n=>bq n 0 99 with
      | false=>rfl
      | true=>
       have:=List.all_eq_true.1 e n hn;unfold bq at this;simp at this;omega
     rw[cz] at h0
     repeat' split at h0
     all_goals first | omega | contradiction | skip
    have hl:∀y∈(bS ro x.toNat).map fun k=>ro.aA.getD k 0,0≤y∧y<100:=fun y hy=>by
     obtain⟨k,hk,rfl⟩:=List.mem_map.1 hy;have:=List.mem_range.1 (List.mem_filter.1 hk).1;rw[List.getD_eq_getElem?_getD,List.getElem?_eq_getElem this];exact hd _ (List.getElem_mem this)
    dsimp only;generalize(bS ro x.toNat).map (fun k=>ro.aA.getD k 0)=l at hl ⊢;rintro n (rfl | rfl)
    ·cases l with
     | nil=>exact⟨by decide,by decide⟩
     | cons y l=>exact Cl (P:=fun n=>0≤n∧n<100) (hl y List.mem_cons_self) fun w hw=>hl w (List.mem_cons_of_mem _ hw)
    ·cases l with
     | nil=>exact⟨by decide,by decide⟩
     | cons y l=>exact Cj (P:=fun n=>0≤n∧n<100) (hl y List.mem_cons_self) fun w hw=>hl w (List.mem_cons_of_mem _ hw)
theorem sK{α:Type}{lt:α→α→Bool}{l:List α}{c:α}(h:zE lt l=some c):c∈l:=by
 have key:∀(l m:List α) (b:Option α),(∀x,b=some x→x∈m)→∀c,l.foldl (yV lt) b=some c→c∈m++l:=by
  intro l
  induction l with
  | nil=>intro m b hb c hc;rw[List.append_nil];exact hb c hc
  | cons x l ih=>
   intro m b hb c hc;rw[List.foldl_cons] at hc;have:=ih (m++[x]) (yV lt b x) (fun y hy=>by
    unfold yV at hy;cases b with
    | none=>cases hy;exact List.mem_append_right _ List.mem_cons_self
    | some z=>
     dsimp only at hy
     split at hy
     ·cases hy;exact List.mem_append_right _ List.mem_cons_self
     ·cases hy;exact List.mem_append_left _ (hb _ rfl)) c hc
   simpa using this
 simpa using key l [] none (fun x h=>by cases h) c h
theorem Ff(s:Sw):(eT s).1.length≤5∧∀n∈(eT s).1,n<5:=by
 unfold eT
 split
 ·exact⟨Nat.zero_le _,fun n hn=>by cases hn⟩
 ·dsimp only;unfold zp
  split
  ·rename_i c hc;unfold If at hc;have h1:=(List.mem_filter.1 (sK hc)).1;obtain⟨o,ho,h2⟩:=List.mem_filterMap.1 h1;obtain⟨m,_,h3⟩:=List.mem_map.1 ho;have h2:o=some c:=h2;rw[h2] at h3;unfold Kz at h3;obtain⟨l,_,h4⟩:=List.mem_map.1 (sK h3);rw[←h4];show(DI m).length≤5∧∀n∈DI m,n<5;unfold DI;exact⟨Nat.le_trans (List.length_filter_le ..) (by simp),fun n hn=>List.mem_range.1 (List.mem_filter.1 hn).1⟩
  ·exact⟨Nat.zero_le _,fun n hn=>by cases hn⟩
end Go.Mz
