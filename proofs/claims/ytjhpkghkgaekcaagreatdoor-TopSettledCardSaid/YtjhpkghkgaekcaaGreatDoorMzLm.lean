/- Lemmas on which the claim leans. -/
import Derived.Test.YtjhpkghkgaekcaaGreatDoorMzLl
set_option maxRecDepth 100000
namespace Go.Mz
open Go.Conc Go.Proofs
variable {X:ax Tryz.prog}
abbrev SP:=List Int×Nat
def FN(p:SP)(j:Nat):MapEntry:={key:=bX (fb p.1),val:=.int .i64 p.2,born:=j}
def ri(M:List SP):Array MapEntry:=(M.zipIdx.map fun z=>FN z.1 z.2).toArray
theorem NH(M:List SP)(p:SP):ri (M++[p])=(ri M).push (FN p M.length):=by
 unfold ri;rw[List.zipIdx_append,List.map_append];simp
theorem vv(M:List SP)(i:Nat):(ri M).toList[i]?=M[i]?.map fun p=>FN p i:=by
 unfold ri;simp only[List.getElem?_map,List.getElem?_zipIdx,Nat.zero_add];cases M[i]? <;> rfl
structure y7(n:Nat)(P M:List SP):Prop where
 mem:∀p,p∈M↔p∈P
 nd:(M.map (·.1)).Nodup
 ln:∀p∈M,p.1.length=n
theorem y7.same{n:Nat}{P M:List SP}(h:y7 n P M):EK P=true:=pg.2 fun p hp q hq e=>by
 have h1:=(h.mem p).2 hp;have h2:=(h.mem q).2 hq;obtain⟨i,hi⟩:=List.mem_iff_getElem?.1 h1;obtain⟨j,hj⟩:=List.mem_iff_getElem?.1 h2;have lJ:i=j:=by
  have fB:=(List.getElem?_eq_some_iff.1 hi).1;have tJ:(M.map (·.1))[i]?=some p.1:=by rw[List.getElem?_map,hi];rfl
  have dL:(M.map (·.1))[j]?=some p.1:=by rw[List.getElem?_map,hj,e];rfl
  exact(List.getElem?_inj (by simpa using fB) h.nd).1 (tJ.trans dL.symm)
 subst lJ;rw[hi] at hj;cases hj;rfl
theorem y7.push{n:Nat}{P M:List SP}(h:y7 n P M){p:SP}(hp:∀q∈M,q.1≠p.1)(hl:p.1.length=n):y7 n (P++[p]) (M++[p]):=by
 refine⟨fun q=>by simp[h.mem],?_,fun q hq=>?_⟩
 ·rw[List.map_append,List.nodup_append];refine⟨h.nd,by simp,fun a ha b hb e=>?_⟩;obtain⟨q,hq,rfl⟩:=List.mem_map.1 ha;simp at hb;exact hp q hq (e.trans hb)
 ·rcases List.mem_append.1 hq with hq | hq
  ·exact h.ln q hq
  ·rw[List.mem_singleton.1 hq];exact hl
theorem y7.stay{n:Nat}{P M:List SP}(h:y7 n P M){p:SP}(hp:p∈M):y7 n (P++[p]) M:=by
 refine⟨fun q=>?_,h.nd,h.ln⟩;rw[List.mem_append,List.mem_singleton,←h.mem];exact⟨fun h=>.inl h,fun h=>h.elim id fun e=>e▸hp⟩
theorem RS{M:List SP}{n:Nat}{k:List Int}(hM:∀q∈M,q.1.length=n)(hk:k.length=n)(h4:n≤4)(hn:∀q∈M,q.1≠k):∀y∈(ri M).toList,∃ys:List Int,ys.length=4∧y.key=bX ys∧ys≠fb k:=fun y hy=>by
 obtain⟨i,hi⟩:=List.mem_iff_getElem?.1 hy;rw[vv] at hi;obtain⟨q,hq,rfl⟩:=Option.map_eq_some_iff.1 hi;have hm:=List.mem_of_getElem? hq;exact⟨fb q.1,rfl,rfl,fun e=>hn q hm (rR (by rw[hM q hm,hk]) (by rw[hM q hm];exact h4) e)⟩
theorem RU{M:List SP}{n j:Nat}{k:List Int}{c:Nat}(hM:∀q∈M,q.1.length=n)(hk:k.length=n)(h4:n≤4)(fZ:(M.map (·.1)).Nodup)(hj:M[j]?=some (k,c)):∀(j':Nat) (z:MapEntry),j'<j→(ri M).toList[j']?=some z→∃ys:List Int,ys.length=4∧z.key=bX ys∧ys≠fb k:=fun j' z aU hz=>by
 rw[vv] at hz;obtain⟨q,hq,rfl⟩:=Option.map_eq_some_iff.1 hz;have hm:=List.mem_of_getElem? hq;refine⟨fb q.1,rfl,rfl,fun e=>?_⟩;have e2:q.1=k:=rR (by rw[hM q hm,hk]) (by rw[hM q hm];exact h4) e;have h1:(M.map (·.1))[j']?=some k:=by rw[List.getElem?_map,hq];exact congrArg some e2
 have h2:(M.map (·.1))[j]?=some k:=by rw[List.getElem?_map,hj];rfl
 have:=(List.getElem?_inj (by simpa using (List.getElem?_eq_some_iff.1 hq).1) fZ).1 (h1.trans h2.symm);omega
theorem acR{S:List Int}{i:Nat}(hi:i<S.length)(h4:S.length≤4):sQ ((cL (S.take i)).map SV.v) (0+i * 1) [.v (.int .i64 S[i])]=(cL (S.take (i+1))).map SV.v:=by
 rcases S with _ | ⟨a,_ | ⟨b,_ | ⟨c,_ | ⟨d,_ | ⟨e,f⟩⟩⟩⟩⟩ <;> simp only[List.length_cons,List.length_nil] at hi h4 <;> rcases i with _ | _ | _ | _ | i <;> first | rfl | omega
theorem DL(f:List Int)(g:List bV)(n:Int){k:Nat}(hk:k<2):nth ((cF f g n).map SV.v) (0+4+k * 2+0)=some (.v (.int .i64 (g.getD k ⟨0,0⟩).lo))∧nth ((cF f g n).map SV.v) (0+4+k * 2+1)=some (.v (.int .i64 (g.getD k ⟨0,0⟩).hi)):=by
 match k,hk with
 | 0,_=>exact⟨rfl,rfl⟩
 | 1,_=>exact⟨rfl,rfl⟩
def nZ(ro:Ro)(sm:Nat)(y:Int)(gl:List Nat)(ks:List FG)(s:List Nat):List SP:=s.flatMap fun j=>match ks[j]? with
 | some x=>vz ro sm y gl x
 | none=>[]
theorem tt{ro:Ro}{sm:Nat}{y:Int}{gl:List Nat}{ks:List FG}{s:List Nat}(hp:ks.Perm (aT ro ro.ak))(h2:∀j,j<ks.length→j∈s):∀p∈vy ro sm y gl,p∈nZ ro sm y gl ks s:=fun p h=>by
 obtain⟨x,hx,BD⟩:=List.mem_flatMap.1 h;obtain⟨j,hj⟩:=List.mem_iff_getElem?.1 (hp.mem_iff.2 hx);exact List.mem_flatMap.2 ⟨j,h2 j (List.getElem?_eq_some_iff.1 hj).1,by rw[hj];exact BD⟩
theorem MD{ro:Ro}{sm:Nat}{y:Int}{gl:List Nat}{ks:List FG}{s:List Nat}(hp:ks.Perm (aT ro ro.ak)):∀p∈nZ ro sm y gl ks s,p∈vy ro sm y gl:=fun p h=>by
 obtain⟨j,_,BD⟩:=List.mem_flatMap.1 h;cases hj:ks[j]? with
 | none=>rw[hj] at BD;cases BD
 | some x=>rw[hj] at BD;exact List.mem_flatMap.2 ⟨x,hp.mem_iff.1 (List.mem_of_getElem? hj),BD⟩
theorem JM{bb mb:Nat}{ro:Ro}{p:BP}{ks:List FG}(sm:Nat)(y:Int)(gl:List Nat)(ga:Option Addr)(gc:Nat)(L:LH)(h:jD L bb mb ro p ks)(ok:gj ro)(kT:sm<ro.samples.length)(hy:0≤y∧y≤60)(iN:aN L ga (bK gl))(yp:gl.length≤4)(lI:∀n∈gl,n<ro.ai.length)(aY:aT ro ro.ak≠[]):
  Sp X 87 [pt bb,.int .i64 sm,.int .i64 y,.slice ga gl.length gc] L (fun v L'=>v=.bool (eS ro sm y gl)∧Le L L'):=by
 have Gi:∀x∈ks,x∈aT ro ro.ak:=fun x hx=>h.pm.mem_iff.1 hx;have p2:=ok.p2;have oo:(bK gl).length=gl.length:=List.length_map ..;refine Sp.enter (n:=83) Tryz.func87 rfl rfl rfl rfl fun C hX _ aG r=>?_;refine W.dv [9] 99 rfl ?_;refine W.aB rfl rfl rfl (Ef.makeMap) ?_;rintro _ _ _ ⟨mr,rfl,rfl,ZC,rfl⟩;have ec:Le L (L.put mr (.map #[] 0)):=Le.put ZC _;refine W.go 99 rfl ?_;refine W.vf rfl rfl rfl rfl (Vf.load rfl rfl rfl ((h.le ec).m7)) ?_;refine W.go 99 rfl ?_;refine W.aB rfl rfl rfl (Ef.range rfl Tryz.underlying230 (h.le ec).mp) ?_;rintro _ _ _ ⟨q,rfl,rfl,hq,rfl⟩;have QV:mr≠q:=fun e=>by subst e;rw[aj] at hq;cases hq
 have hqL:L q=none:=aP ec hq;have Rh:(fh ks).size=ks.length:=by unfold fh;simp
 refine W.go 99 rfl ?_;refine W.loop (fun m' E B L'=>∃(seen:Array Nat) (M:List SP),m'=ks.length - seen.size∧seen.toList.Nodup∧(∀j∈seen.toList,j<ks.length)∧Le L L'∧L' q=some (.mapIter (some mb) ks.length seen ks.length,true)∧L' mr=some (.map (ri M) M.length,true)∧y7 gl.length (nZ ro sm y gl ks seen.toList) M∧
   E=[(0,.v (pt bb)),(1,.v (.int .i64 sm)),(2,.v (.int .i64 y)),(3,.v (.slice ga gl.length gc)),(9,.v (.map (some mr))),(23,.v (.pointer (some ⟨q,0,none⟩)))]∧B=[])
  ⟨#[],[],rfl,by simp,(fun j hj=>by simp at hj),aC ec hqL _,aj _ _ _,by rw[au _ _ QV];exact aj _ _ _,⟨fun p=>by simp[nZ],by simp,by simp⟩,rfl,rfl⟩ (by exact⟨rfl,rfl,rfl,rfl,rfl,rfl,trivial⟩) (by exact trivial) ?_
 clear ec;rintro _ _ _ L2 ⟨seen,M,rfl,fZ,aU,bZ,Gt,BB,hM,rfl,rfl⟩ again;have IH:∀e∈fh ks,e.born<ks.length∧e.born<ks.length:=fun e he=>by
  obtain⟨x,hx,_⟩:=mI he;have:=(List.getElem?_eq_some_iff.1 hx).1;exact⟨this,this⟩
 have h2:=h.le bZ;refine W.go 99 rfl ?_;refine W.aB rfl rfl rfl (Ef.next rfl Gt h2.mp IH) ?_;rintro _ _ _ ⟨rfl,iG⟩;rcases iG with⟨rfl,cz,rfl⟩ | ⟨e,he,Gn,rfl,rfl⟩
 ·have jw:∀j,j<ks.length→j∈seen.toList:=fun j hj=>by
   have:=cz _ (Array.mem_of_getElem? (wQ (List.getElem?_eq_getElem hj)))
   simpa [zu] using this
  refine W.go 99 rfl ?_;refine W.split rfl rfl rfl (fun c=>absurd c (by decide)) (fun c=>?_);refine W.go 99 rfl ?_;refine W.vf rfl rfl rfl rfl (Vf.yL rfl Tryz.underlying234 BB) ?_;refine W.go 99 rfl ?_;have hMs:(ri M).size=M.length:=by unfold ri;simp
  have sM:eS ro sm y gl=true:=pg.2 fun p hp q hq e=>pg.1 hM.same p (tt h.pm jw p hp) q (tt h.pm jw q hq) e;have hMp:0<M.length:=by
   obtain⟨x,hx⟩:=List.exists_mem_of_ne_nil _ aY;obtain⟨m1,_,_,_,m5,_⟩:=nK ok hx;have hn:=m5 (x.2.getD sm ⟨0,0⟩) (by rw[List.getD_eq_getElem?_getD,List.getElem?_eq_getElem (show sm<x.2.length by omega)];exact List.getElem_mem _);have mD:(jz ro x.1 (x.2.getD sm ⟨0,0⟩).lo y gl,bT ro (x.2.getD sm ⟨0,0⟩).lo)∈M:=by
    refine(hM.mem _).2 (tt h.pm jw _ (List.mem_flatMap.2 ⟨x,hx,List.mem_map.2 ⟨(x.2.getD sm ⟨0,0⟩).lo,?_,rfl⟩⟩));unfold bR at hn;unfold fI;exact List.mem_map.2 ⟨0,List.mem_range.2 (by omega),by simp⟩
   exact List.length_pos_of_mem mD
  refine W.ret r rfl rfl ?_;rw[sM,hMs,decide_eq_true (by omega)];exact⟨rfl,bZ⟩
 ·obtain⟨x,hx,GA⟩:=mI he;have Na:=zX he;obtain⟨ek,ev,eb⟩:=e;obtain⟨rfl,rfl⟩:ek=.agg (cL x.1).toArray∧ev=.agg (cF x.1 x.2 (bz x.2)).toArray:=by cases GA;exact⟨rfl,rfl⟩
  dsimp only at hx Na Gn;have zR:=(List.getElem?_eq_some_iff.1 hx).1;have vm:=List.mem_of_getElem? hx;obtain⟨m1,m2,m3,m4,m5,m6⟩:=nK ok (Gi x vm);have Qw:=It ok m6;have lL:eb∉seen.toList:=fun hm=>by
   have:seen.contains eb=true:=by simpa using hm
   rw[this] at Gn;cases Gn
  have Cv:(seen.push eb).toList.Nodup:=by
   rw[Array.toList_push,List.nodup_append];exact⟨fZ,by simp,fun a ha b hb=>by rw[List.mem_singleton.1 hb];exact fun e=>lL (e▸ha)⟩
  have vi:∀j∈(seen.push eb).toList,j<ks.length:=fun j hj=>by
   rw[Array.toList_push] at hj;rcases List.mem_append.1 hj with h | h
   ·exact aU j h
   ·rw[List.mem_singleton.1 h];exact zR
  have ed:=Hc Cv vi;rw[Array.toList_push,List.length_append,List.length_singleton,Array.length_toList] at ed;have UW:ks.length - (seen.push eb).size<ks.length - seen.size:=by rw[Array.size_push];omega
  have adN:mr≠q:=QV;have dP:Le L (L2.put q (.mapIter (some mb) ks.length (seen.push eb) ks.length)):=aC bZ hqL _;have IW:=aj L2 q (.mapIter (some mb) ks.length (seen.push eb) ks.length);have l5:(L2.put q (.mapIter (some mb) ks.length (seen.push eb) ks.length)) mr=some (.map (ri M) M.length,true):=by rw[au _ _ QV];exact BB
  have mw:nZ ro sm y gl ks (seen.push eb).toList=nZ ro sm y gl ks seen.toList++vz ro sm y gl x:=by
   unfold nZ;rw[Array.toList_push,List.flatMap_append,List.flatMap_singleton,hx]
  have jX:x.2[sm]?=some (x.2.getD sm ⟨0,0⟩):=by rw[List.getD_eq_getElem?_getD,List.getElem?_eq_getElem (show sm<x.2.length by omega)];rfl
  have XG:=m2 _ (List.mem_of_getElem? jX);have XH:=m5 _ (List.mem_of_getElem? jX);refine W.go 99 rfl ?_;refine W.split rfl rfl rfl (fun c=>?_) (fun c=>absurd c (by decide));refine W.go 99 rfl ?_;refine W.vf rfl rfl rfl rfl (Vf.entry (e:=⟨.agg (cL x.1).toArray,.agg (cF x.1 x.2 (bz x.2)).toArray,eb⟩) rfl (aj _ _ _) (dP _ _ h.mp) (by simp) Na) ?_;rw[Kv]
  change W C _ _ _ _ _ (L2.put q (.mapIter (some mb) ks.length (seen.push eb) ks.length))
  generalize L2.put q (.mapIter (some mb) ks.length (seen.push eb) ks.length)=L3 at dP IW l5 ⊢;have hgo:∀(Lx:LH) (Mx:List SP),Le L Lx→Lx q=some (.mapIter (some mb) ks.length (seen.push eb) ks.length,true)→Lx mr=some (.map (ri Mx) Mx.length,true)→y7 gl.length (nZ ro sm y gl ks seen.toList++vz ro sm y gl x) Mx→_:=fun Lx Mx a1 a2 a3 a4=>again _ _ _ Lx UW ⟨seen.push eb,Mx,rfl,Cv,vi,a1,a2,a3,mw▸a4,rfl,rfl⟩;clear again Cv vi mw Na Gn lL UW bZ Gt BB;refine W.dv [29] 99 rfl ?_;refine W.cG (E':=[(0,.v (pt bb)),(1,.v (.int .i64 sm)),(2,.v (.int .i64 y)),(3,.v (.slice ga gl.length gc)),(9,.v (.map (some mr))),(10,.p 0 0),(11,.p 1 0),(23,.v (.pointer (some ⟨q,0,none⟩)))]) (B':=[some ⟨(cL x.1).map .v,236⟩,some ⟨(cF x.1 x.2 (bz x.2)).map .v,239⟩]) (by exact⟨rfl,rfl,rfl,rfl,rfl,rfl,rfl,rfl,trivial⟩) (by exact⟨rfl,rfl,trivial⟩) ?_;refine W.go 99 rfl ?_;refine W.vf rfl rfl rfl rfl (Vf.oX rfl rfl rfl rfl rfl rfl (show sm<2 by omega)) ?_;refine W.dv [33] 99 rfl ?_;refine W.vf rfl rfl rfl rfl (Vf.zW rfl rfl rfl rfl (DL x.1 x.2 (bz x.2) (show sm<2 by omega)).1) ?_;refine W.go 99 rfl ?_;have Q6:vz ro sm y gl x=(fI (x.2.getD sm ⟨0,0⟩)).map fun c=>(jz ro x.1 c y gl,bT ro c):=rfl;have jR:=fun(c:Int) (N:Nat)=>DL x.1 x.2 (bz x.2) (show sm<2 by omega);have Ei:=(DL x.1 x.2 (bz x.2) (show sm<2 by omega)).2;unfold uh at XG;unfold bR at XH;generalize x.2.getD sm ⟨0,0⟩=s at Q6 XG XH Ei ⊢;clear jR;have qT:(vz ro sm y gl x).length=(s.hi - s.lo+1).toNat:=by rw[Q6];unfold fI;simp
  have Nn:∀m,m<(s.hi - s.lo+1).toNat→(vz ro sm y gl x)[m]?=some (jz ro x.1 (s.lo+m) y gl,bT ro (s.lo+m)):=fun m hm=>by
   rw[Q6];unfold fI;rw[List.getElem?_map,List.getElem?_map,List.getElem?_range hm];rfl
  have BD:∀p∈vz ro sm y gl x,p∈vy ro sm y gl:=fun p hp=>List.mem_flatMap.2 ⟨x,Gi x vm,hp⟩;generalize vz ro sm y gl x=PX at qT Nn hgo BD;refine W.loop (fun m' E B L'=>∃(m:Nat) (M:List SP),m'=(s.hi - s.lo+1).toNat - m∧m≤(s.hi - s.lo+1).toNat∧Le L L'∧L' q=some (.mapIter (some mb) ks.length (seen.push eb) ks.length,true)∧L' mr=some (.map (ri M) M.length,true)∧y7 gl.length (nZ ro sm y gl ks seen.toList++PX.take m) M∧
    E=[(0,.v (pt bb)),(1,.v (.int .i64 sm)),(2,.v (.int .i64 y)),(3,.v (.slice ga gl.length gc)),(9,.v (.map (some mr))),(10,.p 0 0),(11,.p 1 0),(12,.v (.int .i64 (s.lo+(m:Int)))),(23,.v (.pointer (some ⟨q,0,none⟩)))]∧B=[some ⟨(cL x.1).map .v,236⟩,some ⟨(cF x.1 x.2 (bz x.2)).map .v,239⟩])
   ⟨0,M,rfl,Nat.zero_le _,dP,IW,l5,by rw[List.take_zero,List.append_nil];exact hM,rfl,rfl⟩ (by exact⟨rfl,rfl,rfl,rfl,rfl,rfl,rfl,congrArg (fun z=>some (SV.v (.int .i64 z))) (show s.lo=s.lo+((0:Nat):Int) by omega),rfl,trivial⟩) (by exact⟨rfl,rfl,trivial⟩) ?_
  clear dP IW l5 hM;rintro _ _ _ L4 ⟨m,M,rfl,hm,dP,IW,l5,hM,rfl,rfl⟩ again;refine W.dv [37] 99 rfl ?_;refine W.vf rfl rfl rfl rfl (Vf.oX rfl rfl rfl rfl rfl rfl (show sm<2 by omega)) ?_;refine W.dv [39] 99 rfl ?_;refine W.vf rfl rfl rfl rfl (Vf.zW rfl rfl rfl rfl Ei) ?_;refine W.go 99 rfl ?_;refine W.split rfl rfl rfl (fun c1=>?_) (fun c1=>?_)
  ·have il:s.lo+(m:Int)≤s.hi:=by simpa using c1
   have hmN:m<(s.hi - s.lo+1).toNat:=by omega
   have UZ:=Nn m hmN;have eI:PX.take (m+1)=PX.take m++[(jz ro x.1 (s.lo+m) y gl,bT ro (s.lo+m))]:=by
    obtain⟨h1,h2⟩:=List.getElem?_eq_some_iff.1 UZ;rw[←h2];exact List.take_succ_eq_append_getElem h1
   have Qo:0≤s.lo+(m:Int)∧s.lo+(m:Int)≤40:=by omega
   have Q4:=BD _ (List.mem_of_getElem? UZ);have Qn:IntKind.i64.wrap (s.lo+(m:Int)+1)=s.lo+((m+1:Nat):Int):=by rw[wrap64_in _ (by omega) (by omega)];omega
   generalize hce:s.lo+(m:Int)=c at il UZ eI Qo Q4 Qn;have UF:(jz ro x.1 c y gl).length=gl.length:=by unfold jz;simp
   have hSg:∀(i:Nat) (hi:i<gl.length),(jz ro x.1 c y gl)[i]?=some (eJ c (bQ ro x.1 gl[i] y)):=fun i hi=>by unfold jz;rw[List.getElem?_map,List.getElem?_eq_getElem hi];rfl
   generalize jz ro x.1 c y gl=S at UZ eI UF hSg Q4;refine W.go 99 rfl ?_;refine W.loop (fun m' E B L'=>∃i:Nat,m'=gl.length - i∧i≤gl.length∧L4=L'∧
     E=[(0,.v (pt bb)),(1,.v (.int .i64 sm)),(2,.v (.int .i64 y)),(3,.v (.slice ga gl.length gc)),(9,.v (.map (some mr))),(10,.p 0 0),(11,.p 1 0),(12,.v (.int .i64 c)),(13,.p 2 0),(23,.v (.pointer (some ⟨q,0,none⟩))),(43,.v (.slice ga gl.length gc)),(44,.v (.int .i64 gl.length)),(45,.v (.int .i64 i))]∧B=[some ⟨(cL x.1).map .v,236⟩,some ⟨(cF x.1 x.2 (bz x.2)).map .v,239⟩,some ⟨(cL (S.take i)).map .v,236⟩])
    ⟨0,rfl,Nat.zero_le _,rfl,rfl,rfl⟩ (by exact⟨rfl,rfl,rfl,rfl,rfl,rfl,rfl,rfl,rfl,rfl,rfl,rfl,rfl,trivial⟩) (by exact⟨rfl,rfl,rfl,trivial⟩) ?_
   rintro _ _ _ _ ⟨i,rfl,hi,rfl,rfl,rfl⟩ Kq;refine W.go 99 rfl ?_;refine W.split rfl rfl rfl (fun c2=>?_) (fun c2=>?_)
   ·have hi:i<gl.length:=by have:=of_decide_eq_true c2;omega
    have yq:=List.getElem?_eq_getElem hi;have Ge:=lI _ (List.getElem_mem hi);obtain⟨adF,hSi⟩:=List.getElem?_eq_some_iff.1 (hSg i hi);obtain⟨g,rfl⟩:=iN.addr (show i<(bK gl).length by omega);have qu:=(iN.le dP).int (i:=i) (x:=(gl[i]:Int)) (by unfold bK;rw[List.getElem?_map,yq];rfl);generalize gl[i]=n at yq Ge hSi qu;have h4:=h.le dP;refine W.go 99 rfl ?_;refine W.vf rfl rfl rfl rfl (Vf.aW rfl rfl rfl rfl rfl rfl rfl (hi)) ?_;refine W.go 99 rfl ?_;refine W.vf rfl rfl rfl rfl (Vf.load rfl rfl rfl (qu)) ?_;refine W.go 99 rfl ?_;refine W.aB rfl rfl rfl (Ef.call rfl (BZ x.1 n y _ ok ⟨.inr (h4.D5 0 _ (by decide) rfl),.inr (h4.D5 3 _ (by decide) rfl)⟩ h4.at_.h0 Qw Ge hy)) ?_;rintro _ _ _ ⟨_,rfl,rfl,rfl,rfl⟩;refine W.aB rfl rfl rfl (Ef.call rfl (aax c (bQ ro x.1 n y) _)) ?_;rintro _ _ _ ⟨_,rfl,rfl,rfl,rfl⟩;refine W.vf rfl rfl rfl rfl (Vf.oX rfl rfl rfl rfl rfl rfl (show i<4 by omega)) ?_;rw[←hSi];refine W.dY rfl rfl (Ef.Hx rfl rfl rfl rfl rfl (by exact rfl) (by exact(show 0+i * 1+1≤4 by omega)) (by exact rfl) (by exact(acR (S:=S) (i:=i) (by omega) (by omega)))) ?_;rintro _ _ _ ⟨rfl,rfl,rfl⟩;refine W.go 99 rfl ?_;exact W.again (Kq _ _ _ _ (by omega) ⟨i+1,rfl,hi,rfl,rfl,rfl⟩) (by exact⟨rfl,rfl,rfl,rfl,rfl,rfl,rfl,rfl,rfl,rfl,rfl,rfl,congrArg some (bu (by omega)),trivial⟩) (by exact⟨rfl,rfl,rfl,trivial⟩)
   have iZ:i=gl.length:=by have:=of_decide_eq_false c2;omega
   subst iZ;clear Kq c2 hi;rw[List.take_of_length_le (by omega)];refine W.go 99 rfl ?_;have h4:=h.le dP;have Zu:∀z∈(ri M).toList,∃ys:List Int,z.key=bX ys:=fun z hz=>by
    obtain⟨i,hi⟩:=List.mem_iff_getElem?.1 hz;rw[vv] at hi;obtain⟨w,_,rfl⟩:=Option.map_eq_some_iff.1 hi;exact⟨_,rfl⟩
   by_cases hk:∃(j c':Nat),M[j]?=some (S,c')
   ·obtain⟨j,c',hj⟩:=hk;have yu:(ri M).toList[j]?=some (FN (S,c') j):=by rw[vv,hj];rfl
    have Ga:∀(Q:Option (Nat×Value)→LH→Prop) (H:Value→LH→Prop) (R:LH),az Tryz.prog Q H (Instr.findKey 236 (bX (fb S)) (ri M).toList) R=Q (some (j,.int .i64 c')) R:=fun Q H R=>FY Tryz.underlying236 Tryz.underlying3 xe BT rfl (y:=FN (S,c') j) rfl yu Zu (RU hM.ln UF yp hM.nd hj) Q;refine W.vf rfl rfl rfl rfl (Vf.lookup (kv:=bX (fb S)) (res:=some (j,.int .i64 c')) rfl rfl rfl Tryz.underlying234 l5 Tu (fun em Q H R=>vq em Q H R) Ga) ?_;refine W.dv [68] 99 rfl ?_;refine W.cY 67 (p:=true) rfl rfl ?_;refine W.go 99 rfl ?_;refine W.aB rfl rfl rfl (Ef.call rfl (zn c _ h4 ok)) ?_;rintro _ _ _ ⟨_,rfl,rfl,rfl,rfl⟩;have mD:(S,c')∈nZ ro sm y gl ks seen.toList++PX.take m:=(hM.mem _).1 (List.mem_of_getElem? hj)
    by_cases Y6:c'=bT ro c
    ·subst Y6;refine W.go 99 rfl ?_;refine W.split rfl rfl rfl (fun h=>absurd h (by simp)) (fun _=>?_);refine W.go 99 rfl ?_;refine W.cG (E':=[(0,.v (pt bb)),(1,.v (.int .i64 sm)),(2,.v (.int .i64 y)),(3,.v (.slice ga gl.length gc)),(9,.v (.map (some mr))),(10,.p 0 0),(11,.p 1 0),(12,.v (.int .i64 c)),(13,.p 2 0),(23,.v (.pointer (some ⟨q,0,none⟩)))]) (B':=[some ⟨(cL x.1).map .v,236⟩,some ⟨(cF x.1 x.2 (bz x.2)).map .v,239⟩,some ⟨(cL S).map .v,236⟩]) (by exact⟨rfl,rfl,rfl,rfl,rfl,rfl,rfl,rfl,rfl,rfl,trivial⟩) (by exact⟨rfl,rfl,rfl,trivial⟩) ?_;refine W.drawn (by kernel_rfl) _ (Le.refl _) ?_;refine DD.run' [0,1,2,3] rfl ?_;refine DD.act 4 rfl rfl rfl rfl rfl (Ef.call rfl (zn c _ h4 ok)) (by rintro _ _ _ ⟨_,rfl,rfl,rfl,rfl⟩;exact⟨Le.refl _,rfl,.inl rfl⟩) ?_;rintro _ _ _ ⟨_,rfl,rfl,rfl,rfl⟩;refine DD.act 5 rfl rfl rfl rfl rfl (Ef.RQ (kv:=bX (fb S)) rfl rfl rfl rfl rfl Tryz.underlying234 l5 (by rw[←Array.getElem?_toList];exact yu) rfl rfl (Jy 9999 _) (fun em Q H R=>vq em Q H R) Ga) ((by rintro _ _ _ ⟨rfl,rfl,rfl⟩;exact⟨Le.refl _,rfl,.inl rfl⟩)) ?_;rintro _ _ _ ⟨rfl,rfl,rfl⟩;refine .fin rfl ?_;refine W.go 99 rfl ?_;exact W.again (again _ _ _ _ (by omega) ⟨m+1,M,rfl,by omega,dP,IW,l5,by rw[eI,←List.append_assoc];exact hM.stay (List.mem_of_getElem? hj),rfl,rfl⟩) (by exact⟨rfl,rfl,rfl,rfl,rfl,rfl,rfl,congrArg (fun z=>some (SV.v (.int .i64 z))) Qn,rfl,trivial⟩) (by exact⟨rfl,rfl,trivial⟩)
    ·refine W.go 99 rfl ?_;refine W.split rfl rfl rfl (fun _=>?_) (fun h=>absurd h (by simpa using (fun e:(c':Int)=(bT ro c:Int)=>Y6 (Int.ofNat.inj e))));refine W.go 99 rfl ?_;refine W.dY rfl rfl (Ef.My rfl Tryz.underlying234 l5) ?_;rintro _ _ _ ⟨rfl,rfl,rfl⟩;refine W.go 99 rfl ?_;refine W.vf rfl rfl rfl rfl (Vf.yL rfl Tryz.underlying234 (aj _ _ _)) ?_;refine W.go 99 rfl ?_;refine W.ret r rfl rfl ?_;have sM:eS ro sm y gl=false:=by
      cases hb:eS ro sm y gl with
      | false=>rfl
      | true=>
       have h5:(S,c')∈vy ro sm y gl:=by
        rcases List.mem_append.1 mD with g | g
        ·exact MD h.pm _ g
        ·exact BD _ (List.mem_of_mem_take g)
       exact absurd (pg.1 hb _ h5 _ Q4 rfl) Y6
     rw[sM];exact⟨rfl,aC dP ZC _⟩
   ·have kF:∀w∈M,w.1≠S:=fun w hw e=>by
     obtain⟨j,hj⟩:=List.mem_iff_getElem?.1 hw;obtain⟨w1,w2⟩:=w;simp only at e;subst e;exact hk ⟨j,w2,hj⟩
    have Ga:∀(Q:Option (Nat×Value)→LH→Prop) (H:Value→LH→Prop) (R:LH),az Tryz.prog Q H (Instr.findKey 236 (bX (fb S)) (ri M).toList) R=Q none R:=fun Q H R=>uT Tryz.underlying236 Tryz.underlying3 xe BT rfl (RS hM.ln UF yp kF) Q;refine W.vf rfl rfl rfl rfl (Vf.lookup (kv:=bX (fb S)) (res:=none) rfl rfl rfl Tryz.underlying234 l5 Tu (fun em Q H R=>vq em Q H R) Ga) ?_;refine W.dv [68] 99 rfl ?_;refine W.cY 67 (p:=false) rfl rfl ?_;refine W.go 99 rfl ?_;refine W.cG (E':=[(0,.v (pt bb)),(1,.v (.int .i64 sm)),(2,.v (.int .i64 y)),(3,.v (.slice ga gl.length gc)),(9,.v (.map (some mr))),(10,.p 0 0),(11,.p 1 0),(12,.v (.int .i64 c)),(13,.p 2 0),(23,.v (.pointer (some ⟨q,0,none⟩)))]) (B':=[some ⟨(cL x.1).map .v,236⟩,some ⟨(cF x.1 x.2 (bz x.2)).map .v,239⟩,some ⟨(cL S).map .v,236⟩]) (by exact⟨rfl,rfl,rfl,rfl,rfl,rfl,rfl,rfl,rfl,rfl,trivial⟩) (by exact⟨rfl,rfl,rfl,trivial⟩) ?_;refine W.drawn (by kernel_rfl) oY (aE _) ?_;refine DD.run' [0,1,2,3] rfl ?_;refine DD.act 4 rfl rfl rfl rfl rfl (Ef.call rfl (zn c _ h4 ok)) (by rintro _ _ _ ⟨_,rfl,rfl,_⟩;exact⟨aE _,rfl,.inl rfl⟩) ?_;rintro _ _ _ ⟨_,rfl,rfl,rfl,rfl⟩;refine DD.act 5 rfl rfl rfl rfl rfl (Ef.Vy (kv:=bX (fb S)) rfl rfl rfl rfl rfl Tryz.underlying234 l5 (fun em Q H R=>vq em Q H R) Ga) ((by rintro _ _ _ ⟨rfl,rfl,rfl⟩;exact⟨aE _,rfl,.inl rfl⟩)) ?_;rintro _ _ _ ⟨rfl,rfl,rfl⟩;refine .fin rfl ?_;refine W.go 99 rfl ?_;exact W.again (again _ _ _ _ (by omega) ⟨m+1,M++[(S,bT ro c)],rfl,by omega,aC dP ZC _,by rw[au _ _ (Ne.symm QV)];exact IW,by rw[aj,NH,List.length_append];rfl,by rw[eI,←List.append_assoc];exact hM.push kF UF,rfl,rfl⟩) (by exact⟨rfl,rfl,rfl,rfl,rfl,rfl,rfl,congrArg (fun z=>some (SV.v (.int .i64 z))) Qn,rfl,trivial⟩) (by exact⟨rfl,rfl,trivial⟩)
  ·have ZB:m=(s.hi - s.lo+1).toNat:=by have:=of_decide_eq_false c1;omega
   subst ZB;rw[List.take_of_length_le (by omega)] at hM;refine W.go 99 rfl ?_;exact W.again (hgo L4 M dP IW l5 hM) (by exact⟨rfl,rfl,rfl,rfl,rfl,rfl,trivial⟩) (by exact trivial)
abbrev wC(bs bf bl bg:Nat):Value:=.func (.func 121) #[] #[pt bs,pt bf,pt bl,pt bg]
structure GrK(F:LH)(bs bf bl bg:Nat)(sv:Value)(la:Option Addr)(lc:Nat)(l:List Nat):Prop where
 cs:F.cell? ⟨bs,0,none⟩=some sv
 cl:F.cell? ⟨bl,0,none⟩=some (.slice la (bK l).length lc)
 cg:F.cell? ⟨bg,0,none⟩=some (wC bs bf bl bg)
 sl:aN F la (bK l)
 nf:F bf=none
def aaT(L:LH)(bf:Nat)(r:List Nat):Prop:=∃fa fc,L bf=some (.cells #[.slice fa (bK r).length fc] 22 (0,0),true)∧aN (L.cD bf) fa (bK r)
def GrQ(o:Option (List Nat))(L:LH)(bf:Nat)(v:Value)(L':LH):Prop:=match o with
 | none=>v=.bool false∧Le L L'
 | some r=>v=.bool true∧Le (L.cD bf) L'∧aaT L' bf r
theorem IA{so:List Nat→Bool}{l:List Nat}{k:Nat}{own:List Nat}{eH m:Nat}(hm:l.length - k - eH≤m)(h:∀j,j<m→fY so l k (own++[l.getD (eH+j) 0]) (eH+j+1)=none):fY so l (k+1) own eH=none:=by
 unfold fY;rw[List.findSome?_eq_none_iff];intro j hj;exact h j (by have:=List.mem_range.1 hj;omega)
theorem IB{so:List Nat→Bool}{l:List Nat}{k:Nat}{own r:List Nat}{eH m:Nat}(hm:m<l.length - k - eH)(h:∀j,j<m→fY so l k (own++[l.getD (eH+j) 0]) (eH+j+1)=none)(hr:fY so l k (own++[l.getD (eH+m) 0]) (eH+m+1)=some r):fY so l (k+1) own eH=some r:=by
 unfold fY;obtain⟨t,ht⟩:∃t,List.range (l.length - k - eH)=List.range m++(m::t):=by
  refine⟨(List.range' (m+1) (l.length - k - eH - m - 1)),?_⟩;rw[List.range_eq_range',List.range_eq_range',←List.range'_succ];have e:=@List.range'_append_1 0 m (l.length - k - eH - m - 1+1);rw[Nat.zero_add] at e;rw[e]
  congr 1
  omega
 rw[ht,List.findSome?_append,List.findSome?_eq_none_iff.2 fun j hj=>h j (List.mem_range.1 hj)];simp only[Option.none_or,List.findSome?_cons,hr]
theorem PS{so:List Nat→Bool}{bs bf bl bg:Nat}{sv:Value}{la:Option Addr}{lc:Nat}{l:List Nat}{F:LH}(h4:l.length≤4)(hF:GrK F bs bf bl bg sv la lc l)
  (BE:∀(own:List Nat) (oa:Option Addr) (oc:Nat) (L:LH),Le F L→aN L oa (bK own)→own.length≤4→(∀n∈own,n∈l)→sX X sv [.slice oa (bK own).length oc] L (fun v L'=>v=.bool (so own)∧Le L L')):
  ∀(k:Nat) (own:List Nat) (eH:Nat) (oa:Option Addr) (oc:Nat) (L:LH) (w:Value),Le F L→aN L oa (bK own)→(bK own).length≤oc→own.length+k≤4→(∀n∈own,n∈l)→eH≤l.length→L bf=some (.cells #[w] 22 (0,0),true)→
   Sp X 121 [.slice oa (bK own).length oc,.int .i64 eH,.int .i64 k,pt bs,pt bf,pt bl,pt bg] L (GrQ (fY so l k own eH) L bf):=by
 intro k
 induction k with
 | zero=>
  intro own eH oa oc L w PW cA IV dF mD hfr jv;have hS:=BE own oa oc L PW cA (by omega) mD;unfold fY;refine Sp.enter (n:=48) Tryz.func121 rfl rfl rfl rfl fun C hX _ aG r=>?_;refine W.go 99 rfl ?_;refine W.split rfl rfl rfl (fun c=>?_) (fun c=>absurd c (by decide));refine W.go 99 rfl ?_;refine W.vf rfl rfl rfl rfl (Vf.load rfl rfl rfl (PW.cell hF.cs)) ?_;refine W.go 99 rfl ?_;rw[←hX] at hS;refine W.aB rfl rfl rfl (Ef.DN rfl rfl rfl hS) ?_;rintro _ _ _ ⟨_,rfl,rfl,rfl,ec⟩;rename_i L1;have WX:=ec _ _ jv;cases XF:so own with
  | false=>
   rw[XF,if_neg (by simp)] at r;refine W.go 99 rfl ?_;refine W.split rfl rfl rfl (fun c=>?_) (fun c=>absurd c (by decide));refine W.go 99 rfl ?_;refine W.ret r rfl rfl ?_;exact⟨rfl,ec⟩
  | true=>
   rw[XF,if_pos rfl] at r;refine W.go 99 rfl ?_;refine W.split rfl rfl rfl (fun c=>absurd c (by decide)) (fun c=>?_);refine W.dv [20] 99 rfl ?_;refine W.cw 18 (.inr ⟨_,_,_,rfl⟩) rfl rfl ?_;intro b1 dN _;have abB:=cA.le ec;have oo:(bK own).length=own.length:=List.length_map ..;have Nk:=Le.put dN (.cells #[] 3);refine W.aB rfl rfl rfl (Ef.grow rfl rfl rfl rfl rfl rfl rfl rfl rfl aV iF (bM.new (Nk) (aj _ _ _) dN) (ls:=bK own) (.sl (abB.le Nk) aV rfl) ((by simp;omega))) ?_;rintro _ _ _ ⟨v1,rfl,rfl,hg,_⟩;rw[List.nil_append] at hg;obtain⟨fa,fc,rfl,_⟩:=hg.slice;rename_i L2 _;have bZ:=hg.1;have Qh:=bZ _ _ WX;have QA:∀b,b=bf→L1 b≠none:=fun b e=>by subst e;rw[WX];simp
   refine W.dY rfl rfl (Ef.gn rfl ⟨_,rfl,rfl⟩ rfl Qh rfl (Nat.le_refl _) (bY rfl)) ?_;rintro _ _ _ ⟨rfl,rfl,rfl⟩;refine W.go 99 rfl ?_;refine W.ret r rfl rfl ?_;refine⟨rfl,fun b x hx=>?_,fa,fc,aj _ _ _,bM.under (k:=1) (e:=3) hg aV fun b hb=>?_⟩
   ·have hb:b≠bf:=fun e=>by subst e;unfold LH.cD at hx;rw[if_pos rfl] at hx;cases hx
    rw[au _ _ hb];rw[dg hb] at hx;exact bZ _ _ (ec _ _ hx)
   ·have hn:b≠bf:=fun e=>QA b e hb;rw[dg hn,au _ _ hn]
 | succ k ih=>
  intro own eH oa oc L w PW cA IV dF mD hfr jv;have oo:(bK l).length=l.length:=List.length_map ..;have kF:(bK own).length=own.length:=List.length_map ..;refine Sp.enter (n:=48) Tryz.func121 rfl rfl rfl rfl fun C hX _ aG r=>?_;refine W.go 99 rfl ?_;refine W.split rfl rfl rfl (fun h=>absurd h (by simp;omega)) (fun _=>?_);refine W.go 99 rfl ?_;refine W.loop (fun m' E B L'=>∃m:Nat,m'=l.length+1 - eH - m∧eH+m≤l.length+1∧(∀j,j<m→eH+j+k<l.length)∧(∀j,j<m→fY so l k (own++[l.getD (eH+j) 0]) (eH+j+1)=none)∧Le L L'∧
    E=[(0,.v (.slice oa (bK own).length oc)),(2,.v (.int .i64 ((k+1:Nat):Int))),(3,.v (pt bs)),(4,.v (pt bf)),(5,.v (pt bl)),(6,.v (pt bg)),(11,.v (.int .i64 ((eH+m:Nat):Int)))]∧B=[])
   ⟨0,rfl,by omega,(fun j hj=>absurd hj (by omega)),(fun j hj=>absurd hj (by omega)),Le.refl _,rfl,rfl⟩ (by exact⟨rfl,rfl,rfl,rfl,rfl,rfl,rfl,trivial⟩) (by exact trivial) ?_
  rintro _ _ _ L2 ⟨m,rfl,hm,yw,hj,bZ,rfl,rfl⟩ again;refine W.go 99 rfl ?_;refine W.vf rfl rfl rfl rfl (Vf.load rfl rfl rfl (bZ.cell (PW.cell hF.cl))) ?_;refine W.go 99 rfl ?_;have gU:IntKind.i64.wrap (((bK l).length:Int) - ((k+1:Nat):Int))=(l.length:Int) - ((k+1:Nat):Int):=by rw[oo];exact wrap64_in _ (by omega) (by omega)
  refine W.split rfl rfl rfl (fun e1=>?_) (fun e1=>?_)
  ·have aU:eH+m+k<l.length:=by have:=of_decide_eq_true e1;rw[gU] at this;omega
   refine W.go 99 rfl ?_;have PY:=PW.trans bZ;have abC:=cA.le bZ;have Qh:=bZ _ _ jv;have hx:(bK l)[eH+m]?=some ((l.getD (eH+m) 0:Nat):Int):=by unfold bK;rw[List.getElem?_map,List.getD_eq_getElem?_getD,List.getElem?_eq_getElem (show eH+m<l.length by omega)];rfl
   have QU:l.getD (eH+m) 0∈l:=by rw[List.getD_eq_getElem?_getD,List.getElem?_eq_getElem (show eH+m<l.length by omega)];exact List.getElem_mem _
   obtain⟨a,rfl⟩:=hF.sl.addr (i:=eH+m) (by omega);have qu:=(hF.sl.le (gE PY hF.nf)).int hx;generalize Ge:l.getD (eH+m) 0=n at hx QU qu;have jY:IntKind.i64.wrap (((eH+m:Nat):Int)+1)=((eH+m+1:Nat):Int):=by rw[wrap64_in _ (by omega) (by omega)];omega
   have I2:IntKind.i64.wrap (((k+1:Nat):Int) - 1)=(k:Int):=by rw[wrap64_in _ (by omega) (by omega)];omega
   have hFB:Le F (L2.cD bf):=gE PY hF.nf;refine W.drawn (by kernel_rfl) (L2.cD bf) (jo _ _) ?_;refine DD.vf 0 rfl rfl rfl rfl rfl (Vf.load rfl rfl rfl (hFB.cell hF.cg)) ?_;refine DD.run' [1,2,3,4,5,8,13,14,15,16] rfl ?_;refine DD.vf 7 rfl rfl rfl rfl rfl (Vf.load rfl rfl rfl (hFB.cell hF.cl)) ?_;rw[jY,I2];refine DD.vf 6 rfl rfl rfl rfl rfl (Vf.slice3 rfl rfl rfl Tryz.underlying22 xe (Nat.le_refl _) IV) ?_;refine DD.vf 9 rfl rfl rfl rfl rfl (Vf.aW rfl rfl rfl rfl rfl rfl rfl ((show eH+m<(bK l).length by omega))) ?_;refine DD.vf 10 rfl rfl rfl rfl rfl (Vf.load rfl rfl rfl (qu)) ?_;refine DD.run' [11] rfl ?_;refine DD.act 12 rfl rfl rfl rfl rfl (Ef.WB (enc:=cj) (l:=bK own) (ls:=[(n:Int)]) rfl rfl rfl rfl rfl rfl rfl rfl rfl aV abC (.own rfl rfl rfl rfl) (by simp) (by simp;omega)) ((by rintro _ _ _ ⟨_,_,_,rfl,rfl,hb,rfl,_⟩;exact⟨(jo _ _).trans (Le.put hb _),rfl,.inl rfl⟩)) ?_;rintro _ _ _ ⟨bn,cn,jH,rfl,rfl,oP,rfl,nI⟩;have jV:=Le.put oP (.cells cn 3);have F4:aN (L2.put bn (.cells cn 3)) (some ⟨bn,0,none⟩) (bK (own++[n])):=by
    have:=dt.at nI aV;unfold bK at this ⊢;rw[List.map_append];exact this
   have qg:(bK (own++[n])).length≤jH:=by
    obtain⟨_,_,g1,g2⟩:=nI.slice;cases g1;unfold bK at g2 ⊢;rw[List.map_append];exact g2
   have hlen:(bK own++[(n:Int)]).length=(bK (own++[n])).length:=by unfold bK;rw[List.map_append];rfl
   rw[hlen];have hI:=ih (own++[n]) (eH+m+1) (some ⟨bn,0,none⟩) jH (L2.put bn (.cells cn 3)) w (PY.trans jV) F4 qg (by rw[List.length_append,List.length_singleton];omega) (fun x hx=>by
    rcases List.mem_append.1 hx with hx | hx
    ·exact mD x hx
    ·rw[List.mem_singleton.1 hx];exact QU) (by omega) (jV _ _ Qh)
   have hV:=Sp.We (args:=[.slice (some ⟨bn,0,none⟩) (bK (own++[n])).length jH,.int .i64 ((eH+m+1:Nat):Int),.int .i64 (k:Int)]) (f1:=[]) (f2:=[pt bs,pt bf,pt bl,pt bg]) hI;rw[←hX] at hV;have wE:Le (L2.cD bf) ((L2.put bn (.cells cn 3)).cD bf):=fun b x hx=>by
    have hb:b≠bf:=fun e=>by subst e;unfold LH.cD at hx;rw[if_pos rfl] at hx;cases hx
    rw[dg hb] at hx ⊢;exact jV _ _ hx
   have abx:∀(o:Option (List Nat)) (v:Value) (L':LH),GrQ o (L2.put bn (.cells cn 3)) bf v L'→Le (L2.cD bf) L':=fun o v L' h=>by
    cases o with
    | none=>exact((jo _ _).trans jV).trans h.2
    | some r=>exact wE.trans h.2.1
   refine DD.act 17 rfl rfl rfl rfl rfl (Ef.DN rfl rfl rfl hV) ((by rintro _ _ _ ⟨_,rfl,rfl,hq⟩;exact⟨abx _ _ _ hq,rfl,.inl rfl⟩)) ?_;rintro _ _ _ ⟨_,rfl,rfl,hq⟩;cases hg:fY so l k (own++[n]) (eH+m+1) with
   | none=>
    rw[hg] at hq;obtain⟨rfl,QO⟩:=hq;refine .fin rfl ?_;refine W.split rfl rfl rfl (fun c=>absurd c (by decide)) (fun c=>?_);refine W.go 99 rfl ?_;exact W.again (again _ _ _ _ (by omega) ⟨m+1,rfl,by omega,fun j dL=>by omega,fun j dL=>by
     by_cases e:j=m
     ·subst e;rw[Ge];exact hg
     ·exact hj j (by omega),(bZ.trans jV).trans QO,rfl,rfl⟩) (by exact⟨rfl,rfl,rfl,rfl,rfl,rfl,congrArg (fun z=>some (SV.v (.int .i64 z))) jY,trivial⟩) (by exact trivial)
   | some r'=>
    rw[hg] at hq;obtain⟨rfl,QO,Zk⟩:=hq;refine .fin rfl ?_;refine W.split rfl rfl rfl (fun c=>?_) (fun c=>absurd c (by decide));refine W.go 99 rfl ?_;refine W.ret r rfl rfl ?_;rw[IB (m:=m) (by omega) hj (by rw[Ge];exact hg)];exact⟨rfl,(fun b x hx=>by
     have hb:b≠bf:=fun e=>by subst e;unfold LH.cD at hx;rw[if_pos rfl] at hx;cases hx
     rw[dg hb] at hx;exact(wE.trans QO) _ _ (by rw[dg hb];exact bZ _ _ hx)),Zk⟩
  ·have Zm:l.length≤eH+m+k:=by have:=of_decide_eq_false e1;rw[gU] at this;omega
   refine W.go 99 rfl ?_;refine W.ret r rfl rfl ?_;rw[IA (m:=m) (by omega) hj];exact⟨rfl,bZ⟩
def aaU(o:Option (List Nat))(L:LH)(v:Value)(L':LH):Prop:=Le L L'∧match o with
 | none=>v=.tuple #[.slice none 0 0,.bool false]
 | some r=>∃fa fc,v=.tuple #[.slice fa (bK r).length fc,.bool true]∧aN L' fa (bK r)
theorem MV{so:List Nat→Bool}{l:List Nat}(h:∀j,j<l.length+1→fY so l j [] 0=none):hZ so l=none:=by
 unfold hZ;rw[List.findSome?_eq_none_iff];exact fun j hj=>h j (List.mem_range.1 hj)
theorem MW{so:List Nat→Bool}{l r:List Nat}{m:Nat}(hm:m<l.length+1)(h:∀j,j<m→fY so l j [] 0=none)(hr:fY so l m [] 0=some r):hZ so l=some r:=by
 unfold hZ;obtain⟨t,ht⟩:∃t,List.range (l.length+1)=List.range m++(m::t):=by
  refine⟨(List.range' (m+1) (l.length+1 - m - 1)),?_⟩;rw[List.range_eq_range',List.range_eq_range',←List.range'_succ];have e:=@List.range'_append_1 0 m (l.length+1 - m - 1+1);rw[Nat.zero_add] at e;rw[e]
  congr 1
  omega
 rw[ht,List.findSome?_append,List.findSome?_eq_none_iff.2 fun j hj=>h j (List.mem_range.1 hj)];simp only[Option.none_or,List.findSome?_cons,hr]
theorem MX{so:List Nat→Bool}(l:List Nat)(la:Option Addr)(lc:Nat)(sf:Value)(L:LH)(ZW:∃yf yt yc,sf=.func yf yt yc)(h4:l.length≤4)(hl:aN L la (bK l))
  (BE:∀(own:List Nat) (oa:Option Addr) (oc:Nat) (L':LH),Le L L'→aN L' oa (bK own)→own.length≤4→(∀n∈own,n∈l)→sX X sf [.slice oa (bK own).length oc] L' (fun v L2=>v=.bool (so own)∧Le L' L2)):
  Sp X 84 [.slice la (bK l).length lc,sf] L (aaU (hZ so l) L):=by
 have oo:(bK l).length=l.length:=List.length_map ..;obtain⟨yf,yt,yc,rfl⟩:=ZW;refine Sp.enter (n:=21) Tryz.func84 rfl rfl rfl rfl fun C hX _ aG r=>?_;refine W.dv [9] 99 rfl ?_;refine W.cw 2 (.inl ⟨_,rfl⟩) rfl rfl ?_;intro bl Bw _;refine W.cw 3 (.inl ⟨_,rfl⟩) rfl rfl ?_;intro bs F6 _;refine W.cw 6 (.inl ⟨_,rfl⟩) rfl rfl ?_;intro bf jv _;refine W.cw 7 (.inl ⟨_,rfl⟩) rfl rfl ?_;intro bg IG _;replace F6:(L.put bl (.cells #[.slice la (bK l).length lc] 22)) bs=none:=F6;replace jv:((L.put bl (.cells #[.slice la (bK l).length lc] 22)).put bs (.cells #[.func yf yt yc] 63)) bf=none:=jv;replace IG:(((L.put bl (.cells #[.slice la (bK l).length lc] 22)).put bs (.cells #[.func yf yt yc] 63)).put bf (.cells #[.slice none 0 0] 22)) bg=none:=IG
 change W C _ _ _ _ _ ((((L.put bl (.cells #[.slice la (bK l).length lc] 22)).put bs (.cells #[.func yf yt yc] 63)).put bf (.cells #[.slice none 0 0] 22)).put bg (.cells #[E3.z] 233))
 have k3:Le L (((L.put bl (.cells #[.slice la (bK l).length lc] 22)).put bs (.cells #[.func yf yt yc] 63)).put bf (.cells #[.slice none 0 0] 22)):=(Le.put Bw _).trans ((Le.put F6 _).trans (Le.put jv _));have c1:(((L.put bl (.cells #[.slice la (bK l).length lc] 22)).put bs (.cells #[.func yf yt yc] 63)).put bf (.cells #[.slice none 0 0] 22)) bl=some (.cells #[.slice la (bK l).length lc] 22 (0,0),true):=(Le.put jv _) _ _ ((Le.put F6 _) _ _ (aj _ _ _));have c2:(((L.put bl (.cells #[.slice la (bK l).length lc] 22)).put bs (.cells #[.func yf yt yc] 63)).put bf (.cells #[.slice none 0 0] 22)) bs=some (.cells #[.func yf yt yc] 63 (0,0),true):=(Le.put jv _) _ _ (aj _ _ _);have c3:(((L.put bl (.cells #[.slice la (bK l).length lc] 22)).put bs (.cells #[.func yf yt yc] 63)).put bf (.cells #[.slice none 0 0] 22)) bf=some (.cells #[.slice none 0 0] 22 (0,0),true):=aj _ _ _;have hlf:bl≠bf:=fun e=>by subst e;rw[(Le.put F6 (.cells #[.func yf yt yc] 63)) _ _ (aj _ _ _)] at jv;cases jv
 have Zj:L bf=none:=aP ((Le.put Bw _).trans (Le.put F6 _)) jv;generalize((L.put bl (.cells #[.slice la (bK l).length lc] 22)).put bs (.cells #[.func yf yt yc] 63)).put bf (.cells #[.slice none 0 0] 22)=L3 at IG k3 c1 c2 c3 ⊢;clear F6 jv Bw;have ZW:bs≠bf:=fun e=>by subst e;rw[c2] at c3;cases c3
 have Nc:bg≠bf:=fun e=>by subst e;rw[c3] at IG;cases IG
 refine W.go 99 rfl ?_;refine W.dY rfl rfl (Ef.gn rfl ⟨_,rfl,rfl⟩ rfl (aj _ _ _) rfl (Nat.le_refl _) (bY rfl)) ?_;rintro _ _ _ ⟨rfl,rfl,rfl⟩;refine W.go 99 rfl ?_;have Qz:∀v,(L3.put bg (.cells #[E3.z] 233)).put bg (.cells #[v] 233)=L3.put bg (.cells #[v] 233):=fun v=>by
  funext b
  by_cases e:b=bg
  ·subst e;rw[aj,aj]
  ·rw[au _ _ e,au _ _ e,au _ _ e]
 change W C _ _ _ _ _ ((L3.put bg (.cells #[E3.z] 233)).put bg (.cells #[wC bs bf bl bg] 233))
 rw[Qz];have k5:=Le.put IG (.cells #[wC bs bf bl bg] 233);have cg:=aj L3 bg (.cells #[wC bs bf bl bg] 233);have k6:Le L (L3.put bg (.cells #[wC bs bf bl bg] 233)):=k3.trans k5;have e1:=k5 _ _ c1;have e2:=k5 _ _ c2;have e3:=k5 _ _ c3;clear Qz c1 c2 c3 k3 IG k5;generalize L3.put bg (.cells #[wC bs bf bl bg] 233)=L4 at cg k6 e1 e2 e3 ⊢;have hK:GrK (L4.cD bf) bs bf bl bg (.func yf yt yc) la lc l:=⟨we (ay e2 rfl) ZW,we (ay e1 rfl) hlf,we (ay cg rfl) Nc,hl.le (gE k6 Zj),jF _ _⟩;have hLF:Le L (L4.cD bf):=gE k6 Zj;refine W.vf rfl rfl rfl rfl (Vf.load rfl rfl rfl (ay e1 rfl)) ?_;refine W.go 99 rfl ?_;rw[oo];refine W.loop (fun m' E B L'=>∃m:Nat,m'=l.length+1 - m∧m≤l.length+1∧(∀j,j<m→fY so l j [] 0=none)∧Le L4 L'∧
   E=[(6,.v (pt bf)),(7,.v (pt bg)),(12,.v (.int .i64 ((l.length+1:Nat):Int))),(13,.v (.int .i64 (m:Int)))]∧B=[])
  ⟨0,rfl,by omega,(fun j hj=>absurd hj (by omega)),Le.refl _,rfl,rfl⟩ (by exact⟨rfl,rfl,congrArg (fun z=>some (SV.v (.int .i64 z))) (show IntKind.i64.wrap ((l.length:Int)+1)=((l.length+1:Nat):Int) by rw[wrap64_in _ (by omega) (by omega)];omega),rfl,trivial⟩) (by exact trivial) ?_
 rintro _ _ _ L5 ⟨m,rfl,hm,hj,sj,rfl,rfl⟩ again;refine W.go 99 rfl ?_;refine W.split rfl rfl rfl (fun c1=>W.go 99 rfl ?_) (fun c1=>W.go 99 rfl ?_)
 ·have hm:m<l.length+1:=by have:=of_decide_eq_true c1;omega
  have hF5:Le (L4.cD bf) L5:=(jo _ _).trans sj;refine W.vf rfl rfl rfl rfl (Vf.load rfl rfl rfl (hF5.cell hK.cg)) ?_;refine W.go 99 rfl ?_;have hI:=PS (X:=X) h4 hK (fun own oa oc L' h1=>BE own oa oc L' (hLF.trans h1)) m [] 0 none 0 L5 _ hF5 (fun i x hx=>by simp[bK] at hx) (Nat.le_refl _) (by simp;omega) (by simp) (Nat.zero_le _) (sj _ _ e3);have hV:=Sp.We (args:=[.slice none 0 0,.int .i64 ((0:Nat):Int),.int .i64 (m:Int)]) (f1:=[]) (f2:=[pt bs,pt bf,pt bl,pt bg]) hI;rw[←hX] at hV;refine W.aB rfl rfl rfl (Ef.DN rfl rfl rfl hV) ?_;rintro _ _ _ ⟨_,rfl,rfl,hq⟩;cases hg:fY so l m [] 0 with
  | none=>
   rw[hg] at hq;obtain⟨rfl,qt⟩:=hq;refine W.go 99 rfl ?_;refine W.split rfl rfl rfl (fun c=>absurd c (by decide)) (fun c=>?_);refine W.go 99 rfl ?_;exact W.again (again _ _ _ _ (by omega) ⟨m+1,rfl,by omega,fun j dL=>by
    by_cases e:j=m
    ·subst e;exact hg
    ·exact hj j (by omega),sj.trans qt,rfl,rfl⟩) (by exact⟨rfl,rfl,rfl,congrArg some (bu (by omega)),trivial⟩) (by exact trivial)
  | some r'=>
   rw[hg] at hq;obtain⟨rfl,qt,fa,fc,Zk,IM⟩:=hq;refine W.go 99 rfl ?_;refine W.split rfl rfl rfl (fun c=>?_) (fun c=>absurd c (by decide));refine W.go 99 rfl ?_;refine W.vf rfl rfl rfl rfl (Vf.load rfl rfl rfl (ay Zk rfl)) ?_;refine W.go 99 rfl ?_;refine W.ret r rfl rfl ?_;rw[MW hm hj hg];exact⟨(gE k6 Zj).trans (fun b x hx=>qt _ _ (by
    have hb:b≠bf:=fun e=>by subst e;rw[jF] at hx;cases hx
    rw[dg hb] at hx ⊢;exact sj _ _ hx)),fa,fc,rfl,IM.le (jo _ _)⟩
 ·have ZB:m=l.length+1:=by have:=of_decide_eq_false c1;omega
  subst ZB;refine W.ret r rfl rfl ?_;rw[MV hj];exact⟨k6.trans sj,rfl⟩
section
variable {X:ax Tryz.prog}
theorem Ry{bb mb:Nat}{ro:Ro}{p:BP}{ks:List FG}(b8 b4 b5 sm:Nat)(y:Int)(gl:List Nat)(ga:Option Addr)(gc:Nat)(L:LH)(h8:L.cell? ⟨b8,0,none⟩=some (pt bb))(h4:L.cell? ⟨b4,0,none⟩=some (.int .i64 sm))(h5:L.cell? ⟨b5,0,none⟩=some (.int .i64 y))(h:jD L bb mb ro p ks)(ok:gj ro)(kT:sm<ro.samples.length)(hy:0≤y∧y≤60)(iN:aN L ga (bK gl))(yp:gl.length≤4)(lI:∀n∈gl,n<ro.ai.length)(aY:aT ro ro.ak≠[]):
  Sp X 86 [.slice ga (bK gl).length gc,pt b8,pt b4,pt b5] L (fun v L'=>v=.bool (eS ro sm y gl)∧Le L L'):=by
 have hS:=JM (X:=X) sm y gl ga gc L h ok kT hy iN yp lI aY;rw[show gl.length=(bK gl).length from(List.length_map ..).symm] at hS;refine Sp.enter (n:=11) Tryz.func86 rfl rfl rfl rfl fun C hX _ aG r=>?_;refine W.go 99 rfl ?_;refine W.vf rfl rfl rfl rfl (Vf.load rfl rfl rfl (h8)) ?_;refine W.go 99 rfl ?_;refine W.vf rfl rfl rfl rfl (Vf.load rfl rfl rfl (h4)) ?_;refine W.go 99 rfl ?_;refine W.vf rfl rfl rfl rfl (Vf.load rfl rfl rfl (h5)) ?_;refine W.go 99 rfl ?_;rw[←hX] at hS;refine W.aB rfl rfl rfl (Ef.call rfl (hS)) ?_;rintro _ _ _ ⟨_,rfl,rfl,rfl,hl⟩;refine W.go 99 rfl ?_;refine W.ret r rfl rfl ?_;exact⟨rfl,hl⟩
end
variable {Post:Value→World→Prop}{W0:World}
theorem Mf(ro:Ro)(x y:Int):qC ro x y=if qZ ro (some x) (some y)≠0 then([],qZ ro (some x) (some y)) else match hZ (eS ro x.toNat y) (mY ro y) with
  | some l=>(l,0)
  | none=>([],11):=by
 unfold qC qZ uf iV xw Fx;dsimp only
 by_cases h1:dK ro≠0
 ·rw[if_pos h1,if_pos h1,if_pos h1,if_pos h1]
 ·rw[if_neg h1,if_neg h1];generalize bq x 0 ((ro.samples.length:Int) - 1)=A;generalize bq y 0 60=B;cases A with
  | false=>rfl
  | true=>
   cases B with
   | false=>rfl
   | true=>
    by_cases h4:aT ro ro.ak=[]
    ·simp[h4]
    ·simp[h4]
     rfl
theorem Vo{ro:Ro}{x y:Int}(h:qZ ro (some x) (some y)=0):bq x 0 ((ro.samples.length:Int) - 1)=true∧bq y 0 60=true:=by
 unfold qZ uf iV xw Fx at h;dsimp only at h
 by_cases h1:dK ro≠0
 ·rw[if_pos h1,if_pos h1] at h;exact absurd h h1
 ·rw[if_neg h1] at h;generalize bq x 0 ((ro.samples.length:Int) - 1)=A at h ⊢;generalize bq y 0 60=B at h ⊢;cases A with
  | false=>exact absurd h (by simp)
  | true=>
   cases B with
   | false=>exact absurd h (by simp)
   | true=>exact⟨rfl,rfl⟩
theorem Kl(ro:Ro)(p:BP)(x y:Int)(L:LH)(cA:fD L ro p):Sp (kG Tryz.prog Post W0) 43 [qy ro p,.int .i64 x,.int .i64 y] L (fun v L'=>∃a c,v=.tuple #[.slice a (bK (qC ro x y).1).length c,.int .i64 (qC ro x y).2]∧aN L' a (bK (qC ro x y).1)∧Dm L L'):=by
 refine Sp.enter (n:=33) Tryz.func43 rfl rfl rfl rfl fun C hX _ aG r=>?_;refine W.dv [14] 99 rfl ?_;refine W.cw 4 (.inl ⟨_,rfl⟩) rfl rfl ?_;intro b4 Bu _;refine W.cw 5 (.inl ⟨_,rfl⟩) rfl rfl ?_;intro b5 tD _;have n54:b5≠b4:=fun e=>by subst e;exact absurd tD (by rw[aj];simp)
 replace tD:(L.put b4 (.cells #[.int .i64 x] 3)) b5=none:=tD
 change W _ _ _ _ _ _ ((L.put b4 (.cells #[.int .i64 x] 3)).put b5 (.cells #[.int .i64 y] 3))
 have k1:Le L ((L.put b4 (.cells #[.int .i64 x] 3)).put b5 (.cells #[.int .i64 y] 3)):=(Le.put Bu _).trans (Le.put tD _);have c4:=(Le.put tD (.cells #[.int .i64 y] 3)) _ _ (aj L b4 (.cells #[.int .i64 x] 3));have c5:=aj (L.put b4 (.cells #[.int .i64 x] 3)) b5 (.cells #[.int .i64 y] 3);generalize(L.put b4 (.cells #[.int .i64 x] 3)).put b5 (.cells #[.int .i64 y] 3)=L1 at k1 c4 c5 ⊢;clear tD Bu;refine W.vf rfl rfl rfl rfl (Vf.load rfl rfl rfl (ay c4 rfl)) ?_;refine W.dv [16] 99 rfl ?_;refine W.cw 15 (.inr ⟨_,_,_,rfl⟩) rfl rfl ?_;intro q hq _;have e1:Le L1 (L1.put q (.cells #[.int .i64 x] 3)):=Le.put hq _;have kq:=aj L1 q (.cells #[.int .i64 x] 3)
 change W _ _ _ _ _ _ (L1.put q (.cells #[.int .i64 x] 3))
 generalize L1.put q (.cells #[.int .i64 x] 3)=L2 at e1 kq ⊢;have eD:=GC (Post:=Post) (W0:=W0) ro p (some ⟨q,0,none⟩) 1 (some x) (some (⟨b5,0,none⟩,y)) L2 (cA.le (k1.trans e1)) (cE (e:=3) aV kq) (fun a n h=>by cases h;exact ay (e1 _ _ c5) rfl);rw[show Option.map (·.2) (some ((⟨b5,0,none⟩:Addr),y))=some y from rfl] at eD;rw[←hX] at eD;refine W.aB rfl rfl rfl (Ef.call rfl (eD)) ?_;rintro _ _ _ ⟨_,rfl,rfl,hc⟩;rw[Mf] at r;have M6:=k1.trans e1;rcases hc with⟨he,rfl,hl⟩ | ⟨he,ok,aY,bb,mb,ks,rfl,nq,kD⟩
 ·rw[if_pos he] at r;generalize qZ ro (some x) (some y)=e at he r;refine W.go 99 rfl ?_;have h0:(e !=0)=true:=by simpa using he
  rw[h0];refine W.split rfl rfl rfl (fun c=>?_) (fun c=>absurd c (by decide));refine W.go 99 rfl ?_;refine W.ret r rfl rfl ?_;exact⟨none,0,rfl,fun i z hz=>by simp[bK] at hz,(Dm.of_le M6).trans hl⟩
 ·rw[if_neg (by simpa using he)] at r;rename_i L3;obtain⟨Gz,hy0⟩:=Vo he;have hx:=vn Gz;have hy:=vn hy0;obtain⟨sm,rfl⟩:∃sm:Nat,x=(sm:Int):=⟨x.toNat,by omega⟩;rw[Int.toNat_natCast] at r;have kT:sm<ro.samples.length:=by omega
  have d5:L3.cell? ⟨b5,0,none⟩=some (.int .i64 y):=kD.cell (ay (e1 _ _ c5) rfl);have d4:L3.cell? ⟨b4,0,none⟩=some (.int .i64 (sm:Int)):=kD.cell (ay (e1 _ _ c4) rfl);refine W.go 99 rfl ?_;refine W.split rfl rfl rfl (fun c=>absurd c (by decide)) (fun c=>?_);refine W.dv [24] 99 rfl ?_;refine W.cw 8 (.inl ⟨_,rfl⟩) rfl rfl ?_;intro b8 hb8 _;have f1:=Le.put hb8 (.cells #[pt bb] 173);have k8:=aj L3 b8 (.cells #[pt bb] 173)
  change W _ _ _ _ _ _ (L3.put b8 (.cells #[pt bb] 173))
  generalize L3.put b8 (.cells #[pt bb] 173)=L4 at f1 k8 ⊢;have d5:=f1.cell d5;refine W.vf rfl rfl rfl rfl (Vf.load rfl rfl rfl (d5)) ?_;refine W.aB rfl rfl rfl (Ef.call rfl (Vx y L4 (nq.le f1) ok)) ?_;rintro _ _ _ ⟨v,rfl,rfl,hg⟩;rename_i L5;have QU:(pM ro y ro.ai.length)=bK (mY ro y):=rfl;have hm4:(mY ro y).length≤4:=by
   have:=List.length_filter_le (fun k=>decide ((ro.ai.getD k ⟨0,0,⟨0,0⟩⟩).made≤y)) (List.range ro.ai.length);rw[List.length_range] at this;have:=ok.g4;unfold mY;omega
  have hmi:∀n∈mY ro y,n<ro.ai.length:=fun n hn=>List.mem_range.1 (List.mem_filter.1 hn).1;rw[QU] at hg;obtain⟨ma,mc,rfl,_⟩:=hg.slice;have sj:=hg.1;refine W.dv [27] 99 rfl ?_;have hF:=MX (X:=kG Tryz.prog Post W0) (so:=eS ro sm y) (mY ro y) ma mc (.func (.func 86) #[] #[pt b8,pt b4,pt b5]) L5 ⟨_,_,_,rfl⟩ hm4 (hg.at aV).2 fun own oa oc L' h1 h2 h3 h4=>by
   have hI:=Ry (X:=kG Tryz.prog Post W0) b8 b4 b5 sm y own oa oc L' (((sj.trans h1).cell (ay k8 rfl))) ((f1.trans (sj.trans h1)).cell d4) ((sj.trans h1).cell d5) (((nq.le f1).le sj).le h1) ok kT hy h2 h3 (fun n hn=>hmi n (h4 n hn)) aY;exact Sp.We (args:=[.slice oa (bK own).length oc]) (f1:=[]) (f2:=[pt b8,pt b4,pt b5]) hI
  rw[←hX] at hF;refine W.aB rfl rfl rfl (Ef.call rfl (hF)) ?_;rintro _ _ _ ⟨_,rfl,rfl,qt,hq⟩;have dh:=((Dm.of_le M6).trans kD).trans (.of_le (f1.trans (sj.trans qt)));cases hf:hZ (eS ro sm y) (mY ro y) with
  | none=>
   rw[hf] at hq r;have hq:=hq;subst hq;refine W.go 99 rfl ?_;refine W.split rfl rfl rfl (fun c=>?_) (fun c=>absurd c (by decide));refine W.go 99 rfl ?_;refine W.ret r rfl rfl ?_;exact⟨none,0,rfl,fun i z hz=>by simp[bK] at hz,dh⟩
  | some l=>
   rw[hf] at hq r;obtain⟨fa,fc,rfl,IM⟩:=hq;refine W.go 99 rfl ?_;refine W.split rfl rfl rfl (fun c=>absurd c (by decide)) (fun c=>?_);refine W.go 99 rfl ?_;refine W.ret r rfl rfl ?_;exact⟨fa,fc,rfl,IM,dh⟩
end Go.Mz
namespace Go.Mz
open Go
theorem GK{l:List Int}(h1:1≤l.length)(h3:l.length≤3):(∃a,l=[a])∨(∃a b,l=[a,b])∨∃a b c,l=[a,b,c]:=by
 match l,h1,h3 with
 | [a],_,_=>exact .inl ⟨a,rfl⟩
 | [a,b],_,_=>exact .inr (.inl ⟨a,b,rfl⟩)
 | [a,b,c],_,_=>exact .inr (.inr ⟨a,b,c,rfl⟩)
theorem Dz{x:Ro}{k:Nat}{c:Int}(h1:1≤x.steps.length)(h3:x.steps.length≤3)(ha:x.steps.Pairwise (·<·))(hk:k≤x.steps.length)(hc:eo c (bh x k)):bT x c=k:=by
 unfold eo bh at hc;unfold bT;dsimp only at hc;rcases GK h1 h3 with⟨a,e⟩ | ⟨a,b,e⟩ | ⟨a,b,d,e⟩ <;> rw[e] at ha hk hc ⊢
 ·match k,hk with
  | 0,_=>simp at hc ⊢;omega
  | 1,_=>simp at hc ⊢;omega
 ·match k,hk with
  | 0,_=>simp at ha hc ⊢;omega
  | 1,_=>simp at ha hc ⊢;rw[List.countP_cons_of_pos (by simpa using hc.1),List.countP_cons_of_neg (by simp;omega)];rfl
  | 2,_=>simp at ha hc ⊢;rw[List.countP_cons_of_pos (by simp;omega),List.countP_cons_of_pos (by simp;omega)];rfl
 ·match k,hk with
  | 0,_=>simp at ha hc ⊢;omega
  | 1,_=>simp at ha hc ⊢;rw[List.countP_cons_of_pos (by simp;omega),List.countP_cons_of_neg (by simp;omega),List.countP_cons_of_neg (by simp;omega)];rfl
  | 2,_=>simp at ha hc ⊢;rw[List.countP_cons_of_pos (by simp;omega),List.countP_cons_of_pos (by simp;omega),List.countP_cons_of_neg (by simp;omega)];rfl
  | 3,_=>simp at ha hc ⊢;rw[List.countP_cons_of_pos (by simp;omega),List.countP_cons_of_pos (by simp;omega),List.countP_cons_of_pos (by simp;omega)];rfl
theorem DV{x:Ro}{c:Int}(h1:1≤x.steps.length)(h3:x.steps.length≤3)(ha:x.steps.Pairwise (·<·))(h0:0≤c∧c≤40):eo c (bh x (bT x c)):=by
 unfold eo bh bT;dsimp only;rcases GK h1 h3 with⟨a,e⟩ | ⟨a,b,e⟩ | ⟨a,b,d,e⟩ <;> rw[e] at ha ⊢
 ·by_cases c1:a≤c
  ·simp[c1];omega
  ·simp[c1];omega
 ·by_cases c1:a≤c <;> by_cases c2:b≤c <;> simp at ha <;> simp[c1,c2] <;> omega
 ·by_cases c1:a≤c <;> by_cases c2:b≤c <;> by_cases c3:d≤c <;> simp at ha <;> simp[c1,c2,c3] <;> omega
theorem BX(x:Ro)(c:Int):bT x c≤x.steps.length:=List.countP_le_length
theorem range_one(p:Nat→Bool){k n:Nat}(hk:k<n)(h:∀j,j<n→(p j=true↔j=k)):(List.range n).filter p=[k]:=by
 induction n with
 | zero=>omega
 | succ n ih=>
  rw[List.range_succ,List.filter_append]
  by_cases e:k=n
  ·subst e;rw[List.filter_cons_of_pos ((h k (by omega)).2 rfl),List.filter_eq_nil_iff.2 fun j hj=>by
    have:=List.mem_range.1 hj;intro hp;have:=(h j (by omega)).1 hp;omega]
   rfl
  ·rw[ih (by omega) fun j hj=>h j (by omega),List.filter_cons_of_neg (fun hp=>e ((h n (by omega)).1 hp).symm)]
   rfl
theorem mM:∀{l:List Int},(∀y∈l,y=0)→gL l=0
 | [],_=>rfl
 | y::l,h=>by
  have:=mM fun z hz=>h z (List.mem_cons_of_mem _ hz);rw[gL,List.foldl_cons,h y List.mem_cons_self];exact this
theorem Cm:∀{l:List Int} {a:Int},(∀y∈l,0≤y)→a≤l.foldl (·+·) a
 | [],_,_=>Int.le_refl _
 | y::l,a,h=>by
  rw[List.foldl_cons];have:=Cm (l:=l) (a:=a+y) fun z hz=>h z (List.mem_cons_of_mem _ hz);have:=h y List.mem_cons_self;omega
theorem A0{l:List Int}(h:∀y∈l,0≤y){z:Int}(hz:z∈l)(hp:0<z):0<gL l:=by
 have key:∀{l:List Int} {a:Int},(∀y∈l,0≤y)→0≤a→z∈l→0<l.foldl (·+·) a:=by
  intro l
  induction l with
  | nil=>intro a _ _ h;cases h
  | cons y l ih=>
   intro a h ha hz;rw[List.foldl_cons];have hy:=h y List.mem_cons_self;rcases List.mem_cons.1 hz with rfl | hz
   ·have:=Cm (l:=l) (a:=a+z) fun w hw=>h w (List.mem_cons_of_mem _ hw);omega
   ·exact ih (fun w hw=>h w (List.mem_cons_of_mem _ hw)) (by omega) hz
 exact key h (Int.le_refl 0) hz
theorem yO(s:bV):0≤bR s:=by unfold bR;omega
theorem SF{l:List bV}(h1:1≤l.length)(h2:l.length≤2)(hp:∀s∈l,0<bR s){k:Nat}(hk:k<l.length):bR (l.getD k ⟨0,0⟩)≤bz l∧0<bz l:=by
 match l,h1,h2 with
 | [a],_,_=>
  have:=hp a List.mem_cons_self;obtain rfl:k=0:=by simp at hk;omega
  unfold bz gG;simp;exact this
 | [a,b],_,_=>
  have ha:=hp a List.mem_cons_self;have hb:=hp b (List.mem_cons_of_mem _ List.mem_cons_self);unfold bz gG;simp;have h3:bR a * 1≤bR a *bR b:=Int.mul_le_mul_of_nonneg_left (by omega) (by omega);have h4:1 *bR b≤bR a *bR b:=Int.mul_le_mul_of_nonneg_right (by omega) (by omega)
  match k,hk with
  | 0,_=>simp;omega
  | 1,_=>simp;omega
theorem N8{g:List bV}{k:Nat}{s:bV}(h:0<bz g):0≤cW g k s:=by
 unfold cW;exact Int.mul_nonneg (Int.tdiv_nonneg (by omega) (yO _)) (yO _)
theorem MF{x:Ro}{f hs:List Int}{gl:Nat}{ss:List Sg}{sm:Nat}{y:Int}{gs:List Nat}(h:sF x f hs gl)(h4:gl≤4)(iO:∀s∈ss,uC x f hs s)(gU:∀s∈gx x f (hs.getD sm 0) sm y gs,uC x f hs s)(h8:(ss++gx x f (hs.getD sm 0) sm y gs).length≤8)
  (kT:sm<x.samples.length)(sM:eS {x with ak:=ss} sm y gs=true):
  dI {x with ak:=ss++gx x f (hs.getD sm 0) sm y gs} sm=(⟨x.aA.getD (bT x (hs.getD sm 0)) 0,x.aA.getD (bT x (hs.getD sm 0)) 0⟩,0):=by
 have t1:=h.t1;have t3:=h.t3;have p1:=h.p1;have p2:=h.p2;have oQ:=h.d1;generalize hW:gx x f (hs.getD sm 0) sm y gs=W at gU h8;have cz:∀s∈ss++W,uC x f hs s:=fun s iA=>(List.mem_append.1 iA).elim (iO s) (gU s);have Ra:=yS h h4 (fun s iA=>(cz s iA).e) h8;have aY:=ra (ss:=ss++W) h fun s iA=>(cz s iA).r;have hT:Dv {x with ak:=ss} f hs:=⟨h.tr.fl,h.tr.fi,h.tr.cl,h.tr.ci⟩;have abJ:∀g∈aT {x with ak:=ss++W} (ss++W),∀c:Int,eo c (g.2.getD sm ⟨0,0⟩)→bT x c=bT x (hs.getD sm 0):=fun g hg c hc=>by
  have oR:g∈aT {x with ak:=ss} (ss++gx {x with ak:=ss} f (hs.getD sm 0) sm y gs):=by rw[show gx {x with ak:=ss} f (hs.getD sm 0) sm y gs=W from hW];exact hg
  exact AF hT (fun s iA=>(iO s iA).r) kT (JL sM) oR hc
 have qo:=pU (r:={x with ak:=ss++W}) (ss:=ss++W) (f:=f) (cs:=hs) ⟨h.tr.fl,h.tr.fi,h.tr.cl,h.tr.ci⟩ fun s iA=>(cz s iA).r;have eD:∀g∈aT {x with ak:=ss++W} (ss++W),g.2.length=x.samples.length∧0<bz g.2∧∀s∈g.2,0<bR s:=fun g hg=>by
  obtain⟨h1,h2⟩:=List.mem_filter.1 hg;obtain⟨f',_,rfl⟩:=List.mem_map.1 h1;have h2:0<bz (aI {x with ak:=ss++W} f' (ss++W)):=of_decide_eq_true h2;exact⟨fR _ _ _,h2,fun s iA=>w6 h2 (fun z hz=>by obtain⟨w,_,rfl⟩:=List.mem_map.1 hz;exact yO w) _ (List.mem_map.2 ⟨s,iA,rfl⟩)⟩
 have il:(hs.getD sm 0)=hs.getD sm 0:=rfl;have jR:sm<hs.length:=by have:=h.tr.cl;omega
 have Qs:=h.tr.ci sm _ _ (by rw[List.getD_eq_getElem?_getD,List.getElem?_eq_getElem jR];rfl:hs[sm]?=some (hs.getD sm 0)) (List.getElem?_eq_getElem kT);have jX:=h.sp _ (List.getElem_mem kT);unfold eo at Qs;have Qo:0≤hs.getD sm 0∧hs.getD sm 0≤40:=by omega
 have adH:=BX x (hs.getD sm 0);have M9:bS {x with ak:=ss++W} sm=[bT x (hs.getD sm 0)]:=by
  unfold bS;refine range_one _ (show bT x (hs.getD sm 0)<x.aA.length by omega) fun k hk=>?_;have hk:k<x.aA.length:=hk;rw[decide_eq_true_iff];unfold iJ;dsimp only
  constructor
  ·intro oV;refine Classical.byContradiction fun QZ=>?_;have hz:gL ((aT {x with ak:=ss++W} (ss++W)).map fun g=>cW g.2 sm (bh {x with ak:=ss++W} k))=0:=mM fun v hv=>by
    obtain⟨g,hg,rfl⟩:=List.mem_map.1 hv;unfold cW;have hm:bR (dj (g.2.getD sm ⟨0,0⟩) (bh {x with ak:=ss++W} k))=0:=by
     refine Classical.byContradiction fun hn=>?_;have kR:=yO (dj (g.2.getD sm ⟨0,0⟩) (bh {x with ak:=ss++W} k));have yx:0<bR (dj (g.2.getD sm ⟨0,0⟩) (bh {x with ak:=ss++W} k)):=by omega
     unfold bR dj at yx;dsimp only at yx;have q1:eo (max (g.2.getD sm ⟨0,0⟩).lo (bh x k).lo) (g.2.getD sm ⟨0,0⟩):=by
      unfold eo;have:(bh {x with ak:=ss++W} k)=bh x k:=rfl;rw[this] at yx;omega
     have q2:eo (max (g.2.getD sm ⟨0,0⟩).lo (bh x k).lo) (bh x k):=by
      unfold eo;have:(bh {x with ak:=ss++W} k)=bh x k:=rfl;rw[this] at yx;omega
     have e1:=abJ g hg _ q1;have e2:=Dz t1 t3 h.OY (by omega) q2;exact QZ (e2.symm.trans e1)
    rw[hm,Int.mul_zero]
   omega
  ·rintro rfl;refine A0 (fun v hv=>?_) (List.mem_map.2 ⟨_,qo,rfl⟩) ?_
   ·obtain⟨g,hg,rfl⟩:=List.mem_map.1 hv;exact N8 (eD g hg).2.1
   ·obtain⟨m1,m2,m3⟩:=eD _ qo;dsimp only at m1 m2 m3 ⊢;have iN:sm<(aI {x with ak:=ss++W} f (ss++W)).length:=by omega
    have mD:=pG (r:={x with ak:=ss++W}) (f:=f) (cs:=hs) (ss++W) x.samples (fun s iA=>(cz s iA).r) h.tr.ci sm _ _ (by rw[List.getD_eq_getElem?_getD,List.getElem?_eq_getElem jR];rfl:hs[sm]?=some (hs.getD sm 0)) (List.getElem?_eq_getElem iN);have Zm:(aI {x with ak:=ss++W} f (ss++W)).getD sm ⟨0,0⟩=(aI {x with ak:=ss++W} f (ss++W))[sm]:=by rw[List.getD_eq_getElem?_getD,List.getElem?_eq_getElem iN];rfl
    have ed:=SF (l:=aI {x with ak:=ss++W} f (ss++W)) (by omega) (by omega) m3 iN;have Em:=m3 _ (List.getElem_mem iN);have ham:=DV t1 t3 h.OY Qo;unfold cW;rw[Zm] at ed ⊢;have mD:eo (hs.getD sm 0) (aI {x with ak:=ss++W} f (ss++W))[sm]:=mD;generalize(aI {x with ak:=ss++W} f (ss++W))[sm]=g at mD ed Em ⊢;have hq:1≤(bz (aI {x with ak:=ss++W} f (ss++W))).tdiv (bR g):=by
     rw[Int.tdiv_eq_ediv_of_nonneg (by omega)];exact(Int.le_ediv_iff_mul_le Em).2 (by omega)
    have hn:1≤bR (dj g (bh {x with ak:=ss++W} (bT x (hs.getD sm 0)))):=by
     have:(bh {x with ak:=ss++W} (bT x (hs.getD sm 0)))=bh x (bT x (hs.getD sm 0)):=rfl;rw[this];unfold eo at mD ham;unfold bR dj;dsimp only;omega
    exact Int.mul_pos (by omega) (by omega)
 unfold dI;rw[Ra,if_neg (by decide)];dsimp only;rw[iP (show 0≤(sm:Int)∧(sm:Int)≤(x.samples.length:Int) - 1 by omega),if_neg (by decide),if_neg aY,Int.toNat_natCast,M9]
 rfl
theorem tl{f0:Fi}{xs:List Ln}(h:∀x∈xs,x.1≠3):∀n,dR f0 xs n=0
 | 0=>rfl
 | n+1=>by
  show(me f0 xs n (dR f0 xs n)).2=0;have ih:=tl (f0:=f0) h n;unfold me;dsimp only;rw[if_neg]
  ·exact ih
  ·rw[List.getD_eq_getElem?_getD];cases e:xs[n]? with
   | none=>decide
   | some x=>exact h x (List.mem_of_getElem? e)
def GM(s:Sg):Ln:=(1,[s.aJ,s.cZ,s.year,s.found])
def iC(W:List Sg)(sm:Nat):List Ln:=W.map GM++[(5,[(sm:Int)])]
section
variable {x:Ro}{f hs:List Int}{gl:Nat}{ss W:List Sg}{sm:Nat}{b:Bl}{s:Sw}
theorem Ij(h:sF x f hs gl)(h4:gl≤4)(iO:∀s∈ss,uC x f hs s)(gU:∀s∈W,uC x f hs s)(h8:(ss++W).length≤8):∀i,i≤W.length→(cy ⟨b,{x with ak:=ss},s⟩ (iC W sm) 0 i).1=⟨b,{x with ak:=ss++W.take i},s⟩
 | 0,_=>by rw[List.take_zero,List.append_nil];rfl
 | i+1,hi=>by
  have ih:=Ij h h4 iO gU h8 i (by omega);have hw:=List.getElem?_eq_getElem (show i<W.length by omega);have hx:(iC W sm)[i]?=some (GM W[i]):=by
   unfold iC;rw[List.getElem?_append_left (by rw[List.length_map];omega),List.getElem?_map,hw];rfl
  rw[FH hx];generalize cy ⟨b,{x with ak:=ss},s⟩ (iC W sm) 0 i=D at ih;obtain⟨fi,bi⟩:=D;simp only at ih;subst ih;have Rm:=gU _ (List.getElem_mem (show i<W.length by omega));rw[List.length_append] at h8;have ha:=Fu (ss:=ss++W.take i) h h4 (fun t ht=>(List.mem_append.1 ht).elim (iO t) fun ht=>gU t (List.mem_of_mem_take ht)) (by rw[List.length_append,List.length_take];omega) Rm;rw[List.append_assoc,←List.take_succ_eq_append_getElem (show i<W.length by omega)] at ha;generalize W[i]=w at ha;unfold mg;rw[if_pos ⟨show 1<3 by decide,Nat.zero_testBit i⟩];show(ky _ w).1=_;unfold ky;dsimp only;rw[ha,if_pos rfl]
theorem LQ:∀z∈iC W sm,z.1≠3:=fun z hz=>by
 rcases List.mem_append.1 hz with hz | hz
 ·obtain⟨_,_,rfl⟩:=List.mem_map.1 hz;exact(by decide:(1:Nat)≠3)
 ·rw[List.mem_singleton.1 hz];exact(by decide:(5:Nat)≠3)
theorem Bc:(iC W sm).length=W.length+1:=by unfold iC;simp
theorem aaN(h:sF x f hs gl)(h4:gl≤4)(iO:∀s∈ss,uC x f hs s)(gU:∀s∈W,uC x f hs s)(h8:(ss++W).length≤8){d:Int}(hd:dI {x with ak:=ss++W} sm=(⟨d,d⟩,0)):
  gZ ⟨b,{x with ak:=ss},s⟩ (iC W sm) (iC W sm).length=List.replicate W.length okB++[gD d++45::gD d]:=by
 have key:∀i,i≤W.length→gZ ⟨b,{x with ak:=ss},s⟩ (iC W sm) i=List.replicate i okB:=fun i=>by
  induction i with
  | zero=>intro _;rfl
  | succ i ih=>
   intro hi;have hw:=List.getElem?_eq_getElem (show i<W.length by omega);have hx:(iC W sm).getD i (6,[])=GM W[i]:=by
    unfold iC;rw[List.getD_eq_getElem?_getD,List.getElem?_append_left (by rw[List.length_map];omega),List.getElem?_map,hw];rfl
   rw[rG,ih (by omega),List.replicate_succ']
   congr 2
   unfold me;dsimp only;rw[hx,tl LQ,Ij h h4 iO gU h8 i (by omega)];have Rm:=gU _ (List.getElem_mem (show i<W.length by omega));rw[List.length_append] at h8;have ha:=Fu (ss:=ss++W.take i) h h4 (fun t ht=>(List.mem_append.1 ht).elim (iO t) fun ht=>gU t (List.mem_of_mem_take ht)) (by rw[List.length_append,List.length_take];omega) Rm;generalize W[i]=w at ha;have Y1:(qE ⟨b,{x with ak:=ss++W.take i},s⟩ (GM w))=(okB,0):=by
    show(okB,(ky _ w).2)=_;unfold ky;dsimp only;rw[ha,if_pos rfl]
   rw[Y1]
   rfl
 rw[Bc,rG,key W.length (Nat.le_refl _)]
 congr 2
 have hx:(iC W sm).getD W.length (6,[])=(5,[(sm:Int)]):=by
  unfold iC;rw[List.getD_eq_getElem?_getD,List.getElem?_append_right (by rw[List.length_map];exact Nat.le_refl _),List.length_map,Nat.sub_self];rfl
 unfold me;dsimp only;rw[hx,tl LQ,Ij h h4 iO gU h8 _ (Nat.le_refl _),List.take_length];have Y1:(qE ⟨b,{x with ak:=ss++W},s⟩ (5,[(sm:Int)]))=(gD d++45::gD d,0):=by
  show(gD (dI {x with ak:=ss++W} sm).1.lo++45::gD (dI {x with ak:=ss++W} sm).1.hi,(dI {x with ak:=ss++W} sm).2)=_;rw[hd]
 rw[Y1]
 rfl
end
theorem Oj{x:Ro}{f hs:List Int}{gl:Nat}{sm y:Nat}{gs:List Nat}(h:sF x f hs gl)(h4:gl≤4)(kT:sm<x.samples.length)(hy:y≤60)(hg:∀n∈gs,n<x.ai.length∧(x.ai.getD n ⟨0,0,⟨0,0⟩⟩).made≤(y:Int)):
  ∀s∈gx x f (hs.getD sm 0) sm y gs,uC x f hs s∧Dl 1 [s.aJ,s.cZ,s.year,s.found]:=fun s iA=>by
 obtain⟨n,hn,rfl⟩:=List.mem_map.1 iA;obtain⟨h1,h2⟩:=hg n hn;have g2:=h.g2;have p2:=h.p2;have jR:sm<hs.length:=by have:=h.tr.cl;omega
 have vd:hs[sm]?=some (hs.getD sm 0):=by rw[List.getD_eq_getElem?_getD,List.getElem?_eq_getElem jR];rfl
 have Qs:=h.tr.ci sm _ _ vd (List.getElem?_eq_getElem kT);have Gu:=h.sp _ (List.getElem_mem kT);have h3:=yT (hs.getD sm 0) (bQ x f n y);unfold eo at Qs;refine⟨⟨?_,?_⟩,by decide,rfl,fun i z hz=>?_⟩
 ·unfold nN;dsimp only;rw[Int.toNat_natCast,Int.toNat_natCast];exact Ly (by omega) (by omega)
 ·unfold de;dsimp only;rw[iP (show 0≤(sm:Int)∧(sm:Int)≤(x.samples.length:Int) - 1 by omega),iP (show 0≤(n:Int)∧(n:Int)≤(x.ai.length:Int) - 1 by omega),iP (show 0≤(y:Int)∧(y:Int)≤60 by omega),iP (show 0≤eJ (hs.getD sm 0) (bQ x f n y)∧eJ (hs.getD sm 0) (bQ x f n y)≤2 by omega),Int.toNat_natCast];rw[if_neg (by decide),if_neg (by decide),if_neg (by omega),if_neg (by decide)]
 ·dsimp only at hz
  match i,hz with
  | 0,hz=>cases hz;exact .inl ⟨by omega,by omega⟩
  | 1,hz=>cases hz;exact .inl ⟨by omega,by omega⟩
  | 2,hz=>cases hz;exact .inl ⟨by omega,by omega⟩
  | 3,hz=>cases hz;exact .inl ⟨by omega,by omega⟩
end Go.Mz
set_option maxRecDepth 100000
namespace Go.Mz
open Go.Conc Go.Proofs
theorem yQ{Post:Value→World→Prop}{W0:World}:za (kG Tryz.prog Post W0):=⟨Tw,TA⟩
variable {Post:Value→World→Prop}{W0:World}
def On:List Ln:=[(1,[0,3,5,2]),(5,[0])]
def wu:List Bs:=[[111,107],[53,45,53]]
def lM:List Bs:=[[115,105,103,104,116,32,48,32,51,32,53,32,50],[100,117,116,121,32,48]]
theorem aaM:gZ fiK On 2=wu:=by decide+kernel
theorem Vs:On.map fG=lM:=by decide+kernel
theorem K5{X:ax Tryz.prog}{v:Nat}(h:v=1∨v=5)(hR:za X):sE X v:=⟨by omega,fun _=>hR,fun h=>absurd h (by omega),fun h=>absurd h (by omega),fun h=>absurd h (by omega)⟩
theorem Wv:∀x∈On,Dl x.1 x.2∧sE (kG Tryz.prog Post W0) x.1:=fun x hx=>by
 rcases List.mem_cons.1 hx with rfl | hx
 ·exact⟨⟨by decide,rfl,fun i n h=>by
   match i,h with
   | 0,h=>cases h;exact .inl (by decide)
   | 1,h=>cases h;exact .inl (by decide)
   | 2,h=>cases h;exact .inl (by decide)
   | 3,h=>cases h;exact .inl (by decide)⟩,K5 (.inl rfl) yQ⟩
 ·rw[List.mem_singleton.1 hx];exact⟨⟨by decide,rfl,fun i n h=>by
   match i,h with
   | 0,h=>cases h;exact .inl (by decide)⟩,K5 (.inr rfl) yQ⟩
theorem AE(L:LH)(iN:oA L):Sp (kG Tryz.prog Post W0) 44 [] L (fun v L'=>v=.bool true∧Dm L L'):=by
 refine Sp.enter (n:=23) Tryz.func44 rfl rfl rfl rfl fun C hX _ aG r=>?_;refine W.go 99 rfl ?_;refine W.aB rfl rfl rfl (Ef.call rfl (zo _)) ?_;rintro _ _ _ ⟨_,rfl,rfl,pr,rfl,ec,hr⟩;have hK:=Kl (Post:=Post) (W0:=W0) xS pr 0 5 _ hr;rw[Z4] at hK;rw[←hX] at hK;refine W.aB rfl rfl rfl (Ef.call rfl (hK)) ?_;rintro _ _ _ ⟨_,rfl,rfl,ka,kc,rfl,Ng,oQ⟩;rename_i L1;have hd:Dm L L1:=(Dm.of_le ec).trans oQ;refine W.dv [11] 99 rfl ?_;refine W.cY 10 (p:=true) rfl rfl ?_;refine W.dv [13] 99 rfl ?_;refine W.cw 12 (.inr ⟨_,_,_,rfl⟩) rfl rfl ?_;intro bk Bv _;have tL:=cE (l:=([3]:List Int)) (e:=3) aV (aj L1 bk (.cells (([3]:List Int).flatMap cj).toArray 3));have UU:=Le.put Bv (.cells (([3]:List Int).flatMap cj).toArray 3);refine W.aB rfl rfl rfl (Ef.call rfl (HS ka (some ⟨bk,0,none⟩) kc 1 [3] [3] _ (Ng.le UU) tL (by decide) (by decide))) ?_;rintro _ _ _ ⟨_,rfl,rfl,rfl,rfl⟩;rw[decide_eq_true rfl];have iM:=hd.trans (.of_le UU);have oS:oA _:=iM.cell iN
 change W _ _ _ _ _ _ (L1.put bk (.cells (([3]:List Int).flatMap cj).toArray 3))
 generalize L1.put bk (.cells (([3]:List Int).flatMap cj).toArray 3)=L2 at iM oS ⊢;refine W.dv [16] 99 rfl ?_;refine W.cY 15 (p:=true) rfl rfl ?_;refine W.aB rfl rfl rfl (Ef.call rfl (zl _)) ?_;rintro _ _ _ ⟨_,rfl,rfl,qb,rfl,vj,Q8,_⟩;refine W.aB rfl rfl rfl (Ef.call rfl (zo _)) ?_;rintro _ _ _ ⟨_,rfl,rfl,qr,rfl,BB,hqr⟩;refine W.aB rfl rfl rfl (Ef.call rfl (CM [] none 0 _ Hr (by decide))) ?_;rintro _ _ _ ⟨_,rfl,rfl,qs,rfl,l5,ZO⟩;rename_i L3;refine W.dv [20] 99 rfl ?_;refine W.cw 19 (.inr ⟨_,_,_,rfl⟩) rfl rfl ?_;intro bl Bw _;have nm:=cE (l:=lM) (e:=9) fJ (aj L3 bl (.cells (lM.flatMap cI).toArray 9));have Ni:=Le.put Bw (.cells (lM.flatMap cI).toArray 9)
 change W _ _ _ _ _ _ (L3.put bl (.cells (lM.flatMap cI).toArray 9))
 generalize L3.put bl (.cells (lM.flatMap cI).toArray 9)=L4 at nm Ni ⊢;refine W.dv [21] 99 rfl ?_;refine W.cw 20 (.inr ⟨_,_,_,rfl⟩) rfl rfl ?_;intro bd yj _;have kQ:=cE (l:=wu) (e:=9) fJ (aj L4 bd (.cells (wu.flatMap cI).toArray 9));have jS:=Le.put yj (.cells (wu.flatMap cI).toArray 9)
 change W _ _ _ _ _ _ (L4.put bd (.cells (wu.flatMap cI).toArray 9))
 generalize L4.put bd (.cells (wu.flatMap cI).toArray 9)=L5 at kQ jS ⊢;have hw:Bh (kG Tryz.prog Post W0) (qH kM xS rq lM) On:=by
  rw[←Vs];exact Dh FB VP Hb (by decide) Wv fun i x hx h6=>by
   match i,hx with
   | 0,hx=>cases hx;cases h6
   | 1,hx=>cases hx;cases h6
 have hS:=Lw kM xS rq lM On qb qr qs (some ⟨bl,0,none⟩) (some ⟨bd,0,none⟩) 2 2 L5 (oS.le (vj.trans (BB.trans (l5.trans (Ni.trans jS))))) (Q8.le (BB.trans (l5.trans (Ni.trans jS)))) (hqr.le (l5.trans (Ni.trans jS))) (ZO.le (Ni.trans jS)) (nm.le jS) hw (show aX L5 (some ⟨bd,0,none⟩) 1 cI (gZ fiK On 2) by rw[aaM];exact kQ);rw[←hX] at hS;refine W.aB rfl rfl rfl (Ef.call rfl (hS)) ?_;rintro _ _ _ ⟨_,rfl,rfl,rfl,Y9⟩;refine W.go 99 rfl ?_;refine W.ret r rfl rfl ?_;exact⟨rfl,(iM.trans (.of_le (vj.trans (BB.trans (l5.trans (Ni.trans jS)))))).trans Y9⟩
theorem Dr{Post:Value→World→Prop}{W0:World}(la:Option Addr)(lc:Nat)(l:List Int)(L:LH)(iN:oA L)(vh:aN L la l)(hl:l.length≤140737488355328)
  (hQ:∀v L' w,(v=.bool true∧Dm L L')→Sub L' w→j5 W0 w→Post v w):
  nV Tryz.prog Post W0 (G (Frame.enter Tryz.prog 6 [.slice la l.length lc].toArray .normal) []) L:=by
 refine G9 (n:=157) (s:=2) Tryz.func6 rfl rfl (by kernel_rfl) rfl rfl hQ fun C hX _ aG r=>?_;refine W.go 99 rfl ?_;refine W.aB rfl rfl rfl (Ef.call rfl (HW la lc l L vh)) ?_;rintro _ _ _ ⟨_,rfl,rfl,b,rfl,oP,Gj,Xu⟩;have hh:gp L _ b la lc l 0:=⟨Gj,oP,Xu.blk,vh⟩;refine W.go 99 rfl ?_;refine W.aB rfl rfl rfl (Ef.call rfl (Mi L _ b la lc l 0 3 hh (by decide) hl (by decide) (by decide))) ?_;rintro _ _ _ ⟨_,rfl,rfl,x0,ss,f,hs,p,J,m,fa,fc,ha,hc,rfl,hM,iO,ZU,hm,hLJ,kE,bE,F9,Gg⟩;have p1:=hM.p1;have p2:=hM.p2;have g1:=hM.g1;have g2:=hM.g2;have yo:=hM.tr.fl;have jR:=hM.tr.cl;obtain⟨p0,EF,NO,p3,p4,c0,c1,c2,c3,c4⟩:=p;refine W.go 99 rfl ?_;have hw:IntKind.i64.wrap ((x0.samples.length:Int) - 1)=((x0.samples.length - 1:Nat):Int):=by
  rw[wrap64_in _ (by omega) (by omega)];omega
 rw[hw];refine W.aB rfl rfl rfl (Ef.call rfl (sG (x0.samples.length - 1) kE (by omega) hl (by omega))) ?_;rintro _ _ _ ⟨_,rfl,rfl,sm,rfl,kT,hq⟩;have mC:=hq.h;clear hq kE;refine W.go 99 rfl ?_;refine W.aB rfl rfl rfl (Ef.call rfl (sG 14 mC (by omega) hl (by omega))) ?_;rintro _ _ _ ⟨_,rfl,rfl,y,rfl,hy,hq⟩;have qp:=hq.h;clear hq mC;have P6:=hLJ.trans qp.le;have XD:=bE.le qp.le;have abQ:=F9.le qp.le;have ab2:=Gg.le qp.le;have abY:=iN.le P6;clear qp bE F9 Gg hh Gj Xu hw;have XE:sm<x0.samples.length:=by omega
 have hK:=Kl (Post:=Post) (W0:=W0) {x0 with ak:=ss} ⟨p0,EF,NO,p3,p4,c0,c1,c2,c3,c4⟩ sm y _ XD;rw[←hX] at hK;have Ra:=yS hM (by decide) (fun s hs=>(iO s hs).e) (by omega);have ab8:=ra (ss:=ss) hM fun s hs=>(iO s hs).r;have UA:qC {x0 with ak:=ss} sm y=match hZ (eS {x0 with ak:=ss} sm y) (mY {x0 with ak:=ss} y) with
   | some l=>(l,0)
   | none=>([],11):=by
  unfold qC;rw[Ra,if_neg (by decide)];dsimp only;rw[iP (show 0≤(sm:Int)∧(sm:Int)≤(x0.samples.length:Int) - 1 by omega),if_neg (by decide),iP (show 0≤(y:Int)∧(y:Int)≤60 by omega),if_neg (by decide),if_neg ab8,Int.toNat_natCast]
  rfl
 refine W.go 99 rfl ?_;refine W.aB rfl rfl rfl (Ef.call rfl (hK)) ?_;rintro _ _ _ ⟨_,rfl,rfl,ka,kc,rfl,Ng,kD⟩;rename_i L4 L5;have Q9:=kD.ro XD;have W6:=kD.sl abQ;have KT:=kD.sl ab2;have Gd:oA L5:=kD.cell abY;cases Qx:hZ (eS {x0 with ak:=ss} sm y) (mY {x0 with ak:=ss} y) with
 | none=>
  rw[Qx] at UA;rw[UA];refine W.go 99 rfl ?_;refine W.split rfl rfl rfl (fun c=>?_) (fun c=>absurd c (by decide));have hA:=AE (Post:=Post) (W0:=W0) L5 Gd;rw[←hX] at hA;refine W.go 99 rfl ?_;refine W.aB rfl rfl rfl (Ef.call rfl (hA)) ?_;rintro _ _ _ ⟨_,rfl,rfl,rfl,Za⟩;refine W.go 99 rfl ?_;exact W.XM r rfl ⟨rfl,((Dm.of_le P6).trans kD).trans Za⟩
 | some gs=>
  rw[Qx] at UA;rw[UA] at Ng ⊢;obtain⟨sM,adL,abX⟩:=FW Qx;have Ge:∀n∈gs,n<x0.ai.length∧(x0.ai.getD n ⟨0,0,⟨0,0⟩⟩).made≤(y:Int):=fun n hn=>by
   obtain⟨h1,h2⟩:=List.mem_filter.1 (abX n hn);exact⟨List.mem_range.1 h1,of_decide_eq_true h2⟩
  have QU:(mY {x0 with ak:=ss} y).length≤x0.ai.length:=by
   have:=List.length_filter_le (fun k=>decide ((x0.ai.getD k ⟨0,0,⟨0,0⟩⟩).made≤(y:Int))) (List.range x0.ai.length)
   rwa [List.length_range] at this
  have oo:(bK gs).length=gs.length:=List.length_map ..;dsimp only at Ng ⊢;rw[oo];refine W.go 99 rfl ?_;refine W.split rfl rfl rfl (fun c=>absurd c (by decide)) (fun c=>?_);refine W.dv [45] 99 rfl ?_;refine W.cY 44 (p:=false) rfl rfl ?_;refine W.go 99 rfl ?_;refine W.split rfl rfl rfl (fun h=>absurd h (by simp;omega)) (fun _=>?_);refine W.go 1 rfl ?_;refine W.cG (E':=[(4,.p 0 0),(5,.v (.slice fa f.length fc)),(6,.v (.slice ha hs.length hc)),(7,.v (.int .i64 sm)),(8,.v (.int .i64 y)),(9,.v (.slice ka gs.length kc))]) (B':=[some ⟨(fT {x0 with ak:=ss} ⟨p0,EF,NO,p3,p4,c0,c1,c2,c3,c4⟩).map .v,48⟩]) (by exact⟨rfl,rfl,rfl,rfl,rfl,rfl,trivial⟩) (by exact⟨rfl,trivial⟩) ?_;refine W.go 99 rfl ?_;have hcx:∃c,c=hs.getD sm 0:=⟨_,rfl⟩;obtain⟨c,zL⟩:=hcx;have hWd:∃Ws,Ws=gx x0 f c sm y gs:=⟨_,rfl⟩;obtain⟨Ws,hW⟩:=hWd;have hWl:Ws.length=gs.length:=by rw[hW];unfold gx;simp
  have hWg:∀i (hi:i<gs.length),Ws[i]?=some ⟨sm,gs[i],y,eJ c (bQ x0 f gs[i] y)⟩:=fun i hi=>by rw[hW];unfold gx;rw[List.getElem?_map,List.getElem?_eq_getElem hi];rfl
  refine W.loop (fun w E B L'=>∃(i:Nat) (a9 OO:Option Addr) (k9 Rx:Nat) (ol od:Option Nat),w=gs.length - i∧i≤gs.length∧Le L5 L'∧dt L' 1 9 (.slice a9 i k9) i (((Ws.take i).map fun s=>fG (GM s)).flatMap cI) ol∧dt L' 1 9 (.slice OO i Rx) i ((List.replicate i okB).flatMap cI) od∧(∀o,ol=some o→od≠some o)∧(∀o,ol=some o→L5 o=none)∧(∀o,od=some o→L5 o=none)∧
    E=[(4,.p 0 0),(5,.v (.slice fa f.length fc)),(6,.v (.slice ha hs.length hc)),(7,.v (.int .i64 sm)),(8,.v (.int .i64 y)),(9,.v (.slice ka gs.length kc)),(11,.v (.slice a9 i k9)),(12,.v (.slice OO i Rx)),(13,.v (.int .i64 i))]∧
    B=[some ⟨(fT {x0 with ak:=ss} ⟨p0,EF,NO,p3,p4,c0,c1,c2,c3,c4⟩).map .v,48⟩])
   ⟨0,none,none,0,0,none,none,rfl,Nat.zero_le _,Le.refl _,dt.nil,dt.nil,by simp,by simp,by simp,rfl,rfl⟩ (by exact⟨rfl,rfl,rfl,rfl,rfl,rfl,rfl,rfl,rfl,trivial⟩) (by exact⟨rfl,trivial⟩) ?_
  rintro _ _ _ L6 ⟨i,a9,OO,k9,Rx,ol,od,rfl,hi,uZ,Q3,ZI,tw,YM,YN,rfl,rfl⟩ again;refine W.go 99 rfl ?_;refine W.split rfl rfl rfl (fun e1=>?_) (fun e1=>?_)
  ·have fB:i<gs.length:=by
    have h:(i:Int)<(gs.length:Int):=of_decide_eq_true e1;omega
   have yq:=List.getElem?_eq_getElem fB;obtain⟨BC,El⟩:=Ge _ (List.getElem_mem fB);have YX:=hWg i fB;obtain⟨kaa,rfl⟩:=Ng.addr (show i<(bK gs).length by omega);have qu:=(Ng.le uZ).int (i:=i) (x:=(gs[i]:Int)) (by unfold bK;rw[List.getElem?_map,yq];rfl);have KY:=Q9.le uZ;have qo:aX L6 p0 4 eY x0.ai:=KY.h0;generalize gs[i]=n at yq BC El YX qu;obtain⟨pa,rfl⟩:=qo.addr BC;have jf:=List.getElem?_eq_getElem BC;have jU:x0.ai.getD n ⟨0,0,⟨0,0⟩⟩=x0.ai[n]:=by rw[List.getD_eq_getElem?_getD,jf];rfl
   have QA:=hM.gb _ (List.getElem_mem BC);have zQ:=qo.whole jf rfl;rw[jU] at El;have Eh:f[n]?=some (f.getD n 0):=by rw[List.getD_eq_getElem?_getD,List.getElem?_eq_getElem (show n<f.length by omega)];rfl
   have vd:hs[sm]?=some c:=by rw[zL,List.getD_eq_getElem?_getD,List.getElem?_eq_getElem (show sm<hs.length by omega)];rfl
   have Qw:0≤f.getD n 0∧f.getD n 0≤3:=by
    have:=hM.tr.fi n _ _ Eh jf;unfold eo at this;omega
   have tG:bQ x0 f n y=max 0 (x0.ai[n].cS - f.getD n 0 * (y - x0.ai[n].made)):=by unfold bQ;rw[jU]
   generalize x0.ai[n]=g at jf QA zQ El tG;obtain⟨Yz,rfl⟩:=W6.addr (List.getElem?_eq_some_iff.1 Eh).1;obtain⟨u7,rfl⟩:=KT.addr (List.getElem?_eq_some_iff.1 vd).1;refine W.go 99 rfl ?_;refine W.drawn (by kernel_rfl) _ (Le.refl _) ?_;refine DD.run' [0,1] rfl ?_;refine DD.vf 2 rfl rfl rfl rfl rfl (Vf.aW rfl rfl rfl rfl rfl rfl rfl (fB)) ?_;refine DD.vf 3 rfl rfl rfl rfl rfl (Vf.load rfl rfl rfl (qu)) ?_;refine DD.run' [4,5] rfl ?_;refine DD.split 63 rfl (fun e=>absurd e (by simp)) (fun _=>?_);refine DD.run' [6,7] rfl ?_;refine DD.vf 8 rfl rfl rfl rfl rfl (Vf.aW rfl rfl rfl rfl rfl rfl rfl (fB)) ?_;refine DD.vf 9 rfl rfl rfl rfl rfl (Vf.load rfl rfl rfl (qu)) ?_;refine DD.run' [10,11,12,13,14,15] rfl ?_;refine DD.split 73 rfl (fun e=>absurd e (by simp;omega)) (fun _=>?_);refine DD.run' [16,17,18,19,25] rfl ?_;refine DD.vf 20 rfl rfl rfl rfl rfl (Vf.aW rfl rfl rfl rfl rfl rfl rfl (fB)) ?_;refine DD.vf 21 rfl rfl rfl rfl rfl (Vf.load rfl rfl rfl (qu)) ?_;refine DD.vf 22 rfl rfl rfl rfl rfl (Vf.idx rfl rfl rfl rfl rfl rfl (BC)) ?_;refine DD.run' [23] rfl ?_;refine DD.vf 24 rfl rfl rfl rfl rfl (Vf.load rfl rfl rfl (zQ.2 0 (.int .i64 g.made) rfl)) ?_;refine DD.run' [26,27] rfl ?_;refine .fin rfl ?_;refine W.split rfl rfl rfl (fun h=>absurd h (by simp;omega)) (fun _=>?_);refine W.go 1 rfl ?_;have QJ:=KT.le uZ;have abR:=W6.le uZ;refine W.cG (E':=[(4,.p 0 0),(5,.v (.slice (some Yz) f.length fc)),(6,.v (.slice (some u7) hs.length hc)),(7,.v (.int .i64 sm)),(8,.v (.int .i64 y)),(9,.v (.slice (some kaa) gs.length kc)),(11,.v (.slice a9 i k9)),(12,.v (.slice OO i Rx)),(13,.v (.int .i64 i))]) (B':=[some ⟨(fT {x0 with ak:=ss} ⟨some pa,EF,NO,p3,p4,c0,c1,c2,c3,c4⟩).map .v,48⟩]) (by exact⟨rfl,rfl,rfl,rfl,rfl,rfl,rfl,rfl,rfl,trivial⟩) (by exact⟨rfl,trivial⟩) ?_;refine W.go 99 rfl ?_;refine W.drawn (by kernel_rfl) _ (Le.refl _) ?_;refine DD.run' [0,1,4,5,6,7,12,13,14,19] rfl ?_;refine DD.vf 2 rfl rfl rfl rfl rfl (Vf.aW rfl rfl rfl rfl rfl rfl rfl ((List.getElem?_eq_some_iff.1 vd).1)) ?_;refine DD.vf 3 rfl rfl rfl rfl rfl (Vf.load rfl rfl rfl (QJ.int vd)) ?_;refine DD.vf 8 rfl rfl rfl rfl rfl (Vf.aW rfl rfl rfl rfl rfl rfl rfl (fB)) ?_;refine DD.vf 9 rfl rfl rfl rfl rfl (Vf.load rfl rfl rfl (qu)) ?_;refine DD.vf 10 rfl rfl rfl rfl rfl (Vf.idx rfl rfl rfl rfl rfl rfl (BC)) ?_;refine DD.vf 11 rfl rfl rfl rfl rfl (Vf.cO rfl rfl rfl (zQ)) ?_;refine DD.vf 15 rfl rfl rfl rfl rfl (Vf.aW rfl rfl rfl rfl rfl rfl rfl (fB)) ?_;refine DD.vf 16 rfl rfl rfl rfl rfl (Vf.load rfl rfl rfl (qu)) ?_;refine DD.vf 17 rfl rfl rfl rfl rfl (Vf.aW rfl rfl rfl rfl rfl rfl rfl ((List.getElem?_eq_some_iff.1 Eh).1)) ?_;refine DD.vf 18 rfl rfl rfl rfl rfl (Vf.load rfl rfl rfl (abR.int Eh)) ?_;refine DD.act 20 rfl rfl rfl rfl rfl (Ef.call rfl (y4 g (f.getD n 0) y _ Qw (by omega) (by omega))) (by rintro _ _ _ ⟨_,rfl,rfl,rfl,rfl⟩;exact⟨Le.refl _,rfl,.inl rfl⟩) ?_;rintro _ _ _ ⟨_,rfl,rfl,rfl,rfl⟩;refine DD.act 21 rfl rfl rfl rfl rfl (Ef.call rfl (y2 c (max 0 (g.cS - f.getD n 0 * (y - g.made))) _)) (by rintro _ _ _ ⟨_,rfl,rfl,rfl,rfl⟩;exact⟨Le.refl _,rfl,.inl rfl⟩) ?_;rintro _ _ _ ⟨_,rfl,rfl,rfl,rfl⟩;refine DD.run' [22] rfl ?_;refine .fin rfl ?_;rw[←tG];refine W.go 99 rfl ?_;refine W.vf rfl rfl rfl rfl (Vf.aW rfl rfl rfl rfl rfl rfl rfl (fB)) ?_;refine W.go 99 rfl ?_;refine W.vf rfl rfl rfl rfl (Vf.load rfl rfl rfl (qu)) ?_;refine W.go 99 rfl ?_;have ZT:=yT c (bQ x0 f n y);have eI:Ws.take (i+1)=Ws.take i++[⟨sm,n,y,eJ c (bQ x0 f n y)⟩]:=by
    obtain⟨h1,h2⟩:=List.getElem?_eq_some_iff.1 YX;rw[←h2];exact List.take_succ_eq_append_getElem h1
   generalize eJ c (bQ x0 f n y)=fo at ZT eI YX ⊢;refine W.dv [117] 99 rfl ?_;refine W.cw 116 (.inr ⟨_,_,_,rfl⟩) rfl rfl ?_;intro b9 tE _;have dP:=Le.put tE (.cells ([(sm:Int),(n:Int),(y:Int),fo].flatMap cj).toArray 3);have hq9:=cE (l:=[(sm:Int),(n:Int),(y:Int),fo]) (e:=3) aV (aj L6 b9 (.cells ([(sm:Int),(n:Int),(y:Int),fo].flatMap cj).toArray 3));have ZN:∀z∈[(sm:Int),(n:Int),(y:Int),fo],z<100:=fun z hz=>by
    simp only[List.mem_cons,List.not_mem_nil,or_false] at hz;rcases hz with rfl | rfl | rfl | rfl <;> omega
   have XB:=Q3.le dP;have acj:=ZI.le dP;have hL7:=uZ.trans dP;refine W.go 99 rfl ?_;refine W.aB rfl rfl rfl (Ef.call rfl (Mg 1 [(sm:Int),(n:Int),(y:Int),fo] (some ⟨b9,0,none⟩) 4 _ (by decide) hq9 (by simp) ZN)) ?_;rintro _ _ _ ⟨_,rfl,rfl,rfl,rfl⟩;refine W.go 99 rfl ?_;refine W.aB rfl rfl rfl (Ef.lX (len:=i) (m:=1) (vs:=[str (mj 1 [(sm:Int),(n:Int),(y:Int),fo])]) rfl rfl rfl rfl rfl rfl rfl rfl rfl (je _) XB (.own rfl rfl rfl rfl) (by omega)) ?_;rintro _ _ _ ⟨v1,ol',rfl,rfl,qv,iL⟩;refine W.go 99 rfl ?_;obtain⟨Cy,KL,P2,UB⟩:=Ks XB acj tw YM hL7 qv iL;refine W.aB rfl rfl rfl (Ef.lX (len:=i) (m:=1) (vs:=[str okB]) rfl rfl rfl rfl rfl rfl rfl rfl rfl (je _) Cy (.own rfl rfl rfl rfl) (by omega)) ?_;rintro _ _ _ ⟨v2,od',rfl,rfl,oU,nk⟩;refine W.go 99 rfl ?_;obtain⟨Cz,Qa,P3,P4⟩:=Ks Cy qv (fun o h1 h2=>KL o h2 h1) YN UB oU nk;obtain⟨H9,Ny,rfl,_⟩:=Cz.slice;obtain⟨zd,CH,rfl,_⟩:=oU.slice;have qn:((Ws.take (i+1)).map fun s=>fG (GM s)).flatMap cI=((Ws.take i).map fun s=>fG (GM s)).flatMap cI++[str (mj 1 [(sm:Int),(n:Int),(y:Int),fo])]:=by rw[eI,List.map_append,List.flatMap_append];rfl
   have jT:(List.replicate (i+1) okB).flatMap cI=(List.replicate i okB).flatMap cI++[str okB]:=by rw[List.replicate_succ'];simp
   exact W.again (again _ _ _ _ (by omega) ⟨i+1,H9,zd,Ny,CH,ol',od',rfl,fB,P4,by rw[qn];exact Cz,by rw[jT];exact oU,fun o h1 h2=>Qa o h2 h1,P2,P3,rfl,rfl⟩) (by exact⟨rfl,rfl,rfl,rfl,rfl,rfl,rfl,rfl,congrArg some (bu (by omega)),trivial⟩) (by exact⟨rfl,trivial⟩)
  ·have fB:i=gs.length:=by
    have h:¬(i:Int)<(gs.length:Int):=of_decide_eq_false e1;omega
   subst fB;clear again e1;rw[List.take_of_length_le (by omega)] at Q3;have KY:=Q9.le uZ;have QJ:=KT.le uZ;have adK:=Gd.le uZ;have cu:=KY.h2;obtain⟨du,IL⟩:∃d,d=x0.aA.getD (bT x0 c) 0:=⟨_,rfl⟩;have kQ:=hM.d1;have adG:=BX x0 c;have hdx:x0.aA[bT x0 c]?=some du:=by rw[IL,List.getD_eq_getElem?_getD,List.getElem?_eq_getElem (show bT x0 c<x0.aA.length by omega)];rfl
   have IK:=hM.du du (List.mem_of_getElem? hdx);have vd:hs[sm]?=some c:=by rw[zL,List.getD_eq_getElem?_getD,List.getElem?_eq_getElem (show sm<hs.length by omega)];rfl
   obtain⟨u7,rfl⟩:=KT.addr (List.getElem?_eq_some_iff.1 vd).1;obtain⟨VK,rfl⟩:∃a,NO=some a:=cu.addr (show bT x0 c<x0.aA.length by omega);refine W.go 99 rfl ?_;refine W.drawn (by kernel_rfl) _ (Le.refl _) ?_;refine DD.run' [0,1,2,3,4] rfl ?_;refine DD.vf 5 rfl rfl rfl rfl rfl (Vf.aW rfl rfl rfl rfl rfl rfl rfl ((List.getElem?_eq_some_iff.1 vd).1)) ?_;refine DD.vf 6 rfl rfl rfl rfl rfl (Vf.load rfl rfl rfl (QJ.int vd)) ?_;refine DD.act 7 rfl rfl rfl rfl rfl (Ef.call rfl (HR {x0 with ak:=ss} ⟨p0,EF,some VK,p3,p4,c0,c1,c2,c3,c4⟩ c _ KY.h1 (by have:=hM.t3;show x0.steps.length≤1000;omega))) (by rintro _ _ _ ⟨_,rfl,rfl,rfl,rfl⟩;exact⟨Le.refl _,rfl,.inl rfl⟩) ?_;rintro _ _ _ ⟨_,rfl,rfl,rfl,rfl⟩;rw[show bT {x0 with ak:=ss} c=bT x0 c from rfl];refine DD.vf 8 rfl rfl rfl rfl rfl (Vf.aW rfl rfl rfl rfl rfl rfl rfl ((show bT x0 c<x0.aA.length by omega))) ?_;refine DD.vf 9 rfl rfl rfl rfl rfl (Vf.load rfl rfl rfl (cu.int hdx)) ?_;obtain⟨dn,rfl⟩:∃dn:Nat,du=(dn:Int):=⟨du.toNat,by omega⟩;refine DD.act 10 rfl rfl rfl rfl rfl (Ef.call rfl (qB dn _ (by omega))) (by rintro _ _ _ ⟨_,rfl,rfl,rfl,rfl⟩;exact⟨Le.refl _,rfl,.inl rfl⟩) ?_;rintro _ _ _ ⟨_,rfl,rfl,rfl,rfl⟩;refine DD.run' [11] rfl ?_;refine .fin rfl ?_;have YY:∀s∈Ws,uC x0 f hs s∧Dl 1 [s.aJ,s.cZ,s.year,s.found]:=by
    rw[hW,zL];exact Oj hM (by decide) XE (by omega) Ge
   have h8:(ss++Ws).length≤8:=by rw[List.length_append];omega
   have Zh:dI {x0 with ak:=ss++Ws} sm=(⟨(dn:Int),(dn:Int)⟩,0):=by
    have:=MF (gs:=gs) (y:=y) hM (by decide) iO (fun s iA=>(YY s (by rw[hW,zL];exact iA)).1) (by rw[←zL,←hW];exact h8) XE sM;rw[←zL,←hW,←IL] at this;exact this
   have Rp:=aaN (b:=kM) (s:=rq) hM (by decide) iO (fun s iA=>(YY s iA).1) h8 Zh;have ZR:=yS hM (by decide) (fun s hs=>(iO s hs).e) (by omega);have Gy:Bh (kG Tryz.prog Post W0) (qH kM {x0 with ak:=ss} rq ((iC Ws sm).map fG)) (iC Ws sm):=Dh FB ZR Hb (by rw[Bc];omega) (fun z hz=>by
    rcases List.mem_append.1 hz with hz | hz
    ·obtain⟨s,iA,rfl⟩:=List.mem_map.1 hz;exact⟨(YY s iA).2,K5 (.inl rfl) yQ⟩
    ·rw[List.mem_singleton.1 hz];exact⟨⟨(by decide:5<7),rfl,fun i n h=>by
      match i,h with
      | 0,h=>cases h;exact .inl ⟨by omega,by omega⟩⟩,K5 (.inr rfl) yQ⟩) fun i z hz h6=>by
    rcases List.mem_append.1 (List.mem_of_getElem? hz) with hz | hz
    ·obtain⟨s,iA,rfl⟩:=List.mem_map.1 hz;cases h6
    ·rw[List.mem_singleton.1 hz] at h6;cases h6
   have hi1:=ij ⟨dn,by omega⟩;have tK:=ij ⟨sm,by omega⟩;simp only at hi1 tK;refine W.cG (E':=[(4,.p 0 0),(7,.v (.int .i64 sm)),(11,.v (.slice a9 gs.length k9)),(12,.v (.slice OO gs.length Rx)),(15,.v (str (bH dn)))]) (B':=[some ⟨(fT {x0 with ak:=ss} ⟨p0,EF,some VK,p3,p4,c0,c1,c2,c3,c4⟩).map .v,48⟩]) (by exact⟨rfl,rfl,rfl,rfl,rfl,trivial⟩) (by exact⟨rfl,trivial⟩) ?_;refine W.go 99 rfl ?_;refine W.aB rfl rfl rfl (Ef.call rfl (qB sm _ (by omega))) ?_;rintro _ _ _ ⟨_,rfl,rfl,rfl,rfl⟩;refine W.vf rfl rfl rfl rfl (Vf.cat (l:=[100,117,116,121,32]) (r:=bH sm) rfl rfl (by show 5+_≤_;omega)) ?_;have ab7:[100,117,116,121,32]++bH sm=fG (5,[(sm:Int)]):=by
    show _=mj 5 [(sm:Int)];unfold mj jc zi;simp only[List.map_cons,List.map_nil,List.flatMap_cons,List.flatMap_nil];rw[if_neg (by omega),Int.toNat_natCast];simp[gh,vT]
   rw[ab7];refine W.go 99 rfl ?_;refine W.aB rfl rfl rfl (Ef.lX (len:=gs.length) (m:=1) (vs:=[str (fG (5,[(sm:Int)]))]) rfl rfl rfl rfl rfl rfl rfl rfl rfl (je _) Q3 (.own rfl rfl rfl rfl) (by omega)) ?_;rintro _ _ _ ⟨v1,ol',rfl,rfl,qv,iL⟩;refine W.go 99 rfl ?_;obtain⟨Cy,KL,P2,UB⟩:=Ks Q3 ZI tw YM uZ qv iL;refine W.vf rfl rfl rfl rfl (Vf.cat (l:=bH dn) (r:=[45]) rfl rfl (by show _+1≤_;omega)) ?_;refine W.go 99 rfl ?_;refine W.vf rfl rfl rfl rfl (Vf.cat (l:=bH dn++[45]) (r:=bH dn) rfl rfl (by simp only[List.length_append,List.length_cons,List.length_nil];omega)) ?_;have abN:bH dn++[45]++bH dn=gD dn++45::gD dn:=by rw[rU];simp
   rw[abN];refine W.go 99 rfl ?_;refine W.aB rfl rfl rfl (Ef.lX (len:=gs.length) (m:=1) (vs:=[str (gD dn++45::gD dn)]) rfl rfl rfl rfl rfl rfl rfl rfl rfl (je _) Cy (.own rfl rfl rfl rfl) (by omega)) ?_;rintro _ _ _ ⟨v2,od',rfl,rfl,oU,nk⟩;refine W.go 99 rfl ?_;obtain⟨Cz,Qa,P3,P4⟩:=Ks Cy qv (fun o h1 h2=>KL o h2 h1) YN UB oU nk;obtain⟨H9,Ny,rfl,_⟩:=Cz.slice;obtain⟨zd,CH,rfl,_⟩:=oU.slice;rename_i L9 _ _;have zR:(iC Ws sm).length=gs.length+1:=by rw[Bc,hWl]
   have nm:((iC Ws sm).map fG).length=gs.length+1:=by rw[List.length_map,zR]
   have UT:aX L9 H9 1 cI ((iC Ws sm).map fG):=(show dt L9 1 9 (.slice H9 ((iC Ws sm).map fG).length Ny) ((iC Ws sm).map fG).length (((iC Ws sm).map fG).flatMap cI) ol' by
    rw[nm];have e:((iC Ws sm).map fG).flatMap cI=(Ws.map fun s=>fG (GM s)).flatMap cI++[str (fG (5,[(sm:Int)]))]:=by
     unfold iC;rw[List.map_append,List.map_map,List.flatMap_append];rfl
    rw[e];exact Cz).at fJ
   rw[hWl] at Rp;have Zg:aX L9 zd 1 cI (gZ ⟨kM,{x0 with ak:=ss},rq⟩ (iC Ws sm) (iC Ws sm).length):=(show dt L9 1 9 (.slice zd (gZ ⟨kM,{x0 with ak:=ss},rq⟩ (iC Ws sm) (iC Ws sm).length).length CH) (gZ ⟨kM,{x0 with ak:=ss},rq⟩ (iC Ws sm) (iC Ws sm).length).length ((gZ ⟨kM,{x0 with ak:=ss},rq⟩ (iC Ws sm) (iC Ws sm).length).flatMap cI) od' by
    rw[ni,Rp,zR];have e:(List.replicate gs.length okB++[gD (dn:Int)++45::gD (dn:Int)]).flatMap cI=(List.replicate gs.length okB).flatMap cI++[str (gD (dn:Int)++45::gD (dn:Int))]:=by simp
    rw[e];exact oU).at fJ
   have acp:=Q9.le P4;have Xp:=Gd.le P4;refine W.cG (E':=[(4,.p 0 0),(11,.v (.slice H9 ((iC Ws sm).map fG).length Ny)),(12,.v (.slice zd (iC Ws sm).length CH))]) (B':=[some ⟨(fT {x0 with ak:=ss} ⟨p0,EF,some VK,p3,p4,c0,c1,c2,c3,c4⟩).map .v,48⟩]) (by exact⟨rfl,congrArg (fun n=>some (SV.v (.slice H9 n Ny))) nm.symm,congrArg (fun n=>some (SV.v (.slice zd n CH))) zR.symm,trivial⟩) (by exact⟨rfl,trivial⟩) ?_;clear Cz oU iL nk qv Cy Q3 ZI UB tw KL Qa YM P2 YN P3;refine W.drawn (by kernel_rfl) oY (aE _) ?_;refine DD.run' [1,3,4] rfl ?_;refine DD.act 0 rfl rfl rfl rfl rfl (Ef.call rfl (zl _)) (by rintro _ _ _ ⟨_,rfl,rfl,_⟩;exact⟨aE _,rfl,.inl rfl⟩) ?_;rintro _ _ _ ⟨_,rfl,rfl,qb,rfl,vj,Q8,_⟩;refine DD.act 2 rfl rfl rfl rfl rfl (Ef.call rfl (CM [] none 0 _ Hr (by decide))) (by rintro _ _ _ ⟨_,rfl,rfl,_⟩;exact⟨aE _,rfl,.inl rfl⟩) ?_;rintro _ _ _ ⟨_,rfl,rfl,qs,rfl,l5,ZO⟩;rename_i LA LB;have hS:=Lw (X:=kG Tryz.prog Post W0) kM {x0 with ak:=ss} rq ((iC Ws sm).map fG) (iC Ws sm) qb ⟨p0,EF,some VK,p3,p4,c0,c1,c2,c3,c4⟩ qs H9 zd Ny CH _ (Xp.le (vj.trans l5)) (Q8.le l5) (acp.le (vj.trans l5)) ZO (UT.le (vj.trans l5)) Gy (Zg.le (vj.trans l5));rw[←hX] at hS;refine DD.act 5 rfl rfl rfl rfl rfl (Ef.call rfl (hS)) (by rintro _ _ _ ⟨_,rfl,rfl,_⟩;exact⟨aE _,rfl,.inl rfl⟩) ?_;rintro _ _ _ ⟨_,rfl,rfl,rfl,hd7⟩;refine DD.run' [6] rfl ?_;refine DD.split 154 rfl (fun _=>?_) (fun e=>absurd e (by decide));have hgA:=hd7.cell (Xp.le (vj.trans l5));have hA:=AE (Post:=Post) (W0:=W0) _ hgA;rw[←hX] at hA;refine DD.act 7 rfl rfl rfl rfl rfl (Ef.call rfl (hA)) (by rintro _ _ _ ⟨_,rfl,rfl,_⟩;exact⟨aE _,rfl,.inl rfl⟩) ?_;rintro _ _ _ ⟨_,rfl,rfl,rfl,Za⟩;refine DD.run' [8,9] rfl ?_;refine .fin rfl ?_;exact W.XM r rfl ⟨rfl,(((((Dm.of_le P6).trans kD).trans (.of_le (P4.trans (vj.trans l5)))).trans hd7).trans Za)⟩
end Go.Mz
