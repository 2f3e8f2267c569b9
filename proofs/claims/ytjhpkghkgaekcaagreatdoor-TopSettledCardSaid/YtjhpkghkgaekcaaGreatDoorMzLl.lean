/- Lemmas on which the claim leans. -/
import Derived.Test.YtjhpkghkgaekcaaGreatDoorMzLk
set_option maxRecDepth 100000
namespace Go.Mz
open Go.Conc Go.Proofs
variable {X:ax Tryz.prog}
def Dp(s:Sw):Prop:=∃n:Nat,n<100∧(eT s).2.1=n
section
variable {QM:FuncId×Value→LH→Prop}{H:Value→LH→Prop}{R:LH}
theorem aad(v:Value):az Tryz.prog QM H (method (Tryz.prog.types.size+Made.depth) 252 v "muscovado/clerk.answer") R=QM (314,v) R:=by kernel_rfl
theorem aae(v:Value):az Tryz.prog QM H (method (Tryz.prog.types.size+Made.depth) 209 v "muscovado/clerk.answer") R=QM (313,v) R:=by kernel_rfl
theorem aaf(v:Value):az Tryz.prog QM H (method (Tryz.prog.types.size+Made.depth) 153 v "muscovado/clerk.answer") R=QM (300,v) R:=by kernel_rfl
theorem aag(v:Value):az Tryz.prog QM H (method (Tryz.prog.types.size+Made.depth) 155 v "muscovado/clerk.answer") R=QM (304,v) R:=by kernel_rfl
theorem aah(v:Value):az Tryz.prog QM H (method (Tryz.prog.types.size+Made.depth) 157 v "muscovado/clerk.answer") R=QM (311,v) R:=by kernel_rfl
end
theorem eU.post{I L J L':LH}{bf:Nat}(h:eU I L J L' bf)(hb:L bf=none)(hd:Dm I J)(hl:Le J L'):Go.Mz.Post I L J L':=by
 refine⟨hl,fun b x h1 h2=>h.keep b x h1 (fun e=>by subst e;rw[hb] at h2;cases h2) h2,h.fresh,fun b h=>?_⟩;cases e:I b with
 | none=>exact absurd e h
 | some y=>
  obtain⟨o,wr⟩:=y;obtain⟨ep,h'⟩:=hd b o wr e;rw[h'];simp
theorem yX.post{I L J L' L2:LH}{bf:Nat}{f:Fi}{a:Bs}{w v:Value}(hO:eU I L J L' bf)(hb:L bf=none)(hD:L' bf≠none)(hd:Dm I J)(h:yX J L' bf f a w v L2):v=.tuple #[str a,w]∧∃J2,Dm I J2∧Go.Mz.Post I L J2 L2:=by
 obtain⟨rfl,J2,p,iM,hk,ho⟩:=h;exact⟨rfl,J2,hd.trans iM,(hO.trans ho hD).post hb (hd.trans iM) hk.le⟩
theorem Ck.post{I L J L':LH}{bc:Nat}{k:kC}{p:Kp}{xs:List Ln}{us:List AP}{ua:Option Addr}{uc:Nat}(h:Ck I L bc k p xs us ua uc)(hd:Dm I J)(hp:Go.Mz.Post I L J L'):Ck J L' bc k p xs us ua uc:=by
 have ho:Le (gF I L) (gF J L'):=fun b x hx=>by
  obtain⟨h1,h2⟩:=kX hx;have hJ:J b=none:=Classical.byContradiction fun e=>(hp.fresh b e).elim (fun g=>g h1) fun g=>by rw[h2] at g;cases g
  rw[lN hJ];exact hp.keep b x h1 h2
 exact⟨hp.le,hd.bk h.bk,ho _ _ h.o,h.s.le ho,h.a.le ho,h.x,h.c⟩
theorem Post.trans{I L J L' J2 L2:LH}(h:Go.Mz.Post I L J L')(h2:Go.Mz.Post J L' J2 L2):Go.Mz.Post I L J2 L2:=by
 have hj:∀b x,I b=none→L b=some x→J b=none:=fun b x h1 h3=>Classical.byContradiction fun e=>(h.fresh b e).elim (fun g=>g h1) fun g=>by rw[h3] at g;cases g
 refine⟨h2.le,fun b x h1 h3=>h2.keep b x (hj b x h1 h3) (h.keep b x h1 h3),fun b eR=>?_,fun b hb=>h2.gP b (h.gP b hb)⟩;rcases h2.fresh b eR with g | g
 ·exact h.fresh b g
 ·by_cases e:I b=none
  ·refine .inr ?_;cases hL:L b with
   | none=>rfl
   | some x=>rw[h.keep b x e hL] at g;cases g
  ·exact .inl e
theorem K3{n:Int}(h:0≤n):gD n=bH n.toNat:=by
 unfold gD;rw[if_neg (by omega)]
theorem Od(bc:Nat)(k:kC)(p:Kp)(xs:List Ln)(us:List AP)(a:Addr)(uc:Nat)(m n out:Nat)(L:LH)(hc:yZ L bc k p xs us (some a) uc)(hn:n≤us.length)(h8:us.length≤6)(ho:out<256)(hv:∀u∈us,u.v<7):Sp X 108 [pt bc,.agg #[.int .i64 m],.int .i64 n,.int .u8 out] L (fun v L'=>v=.tuple #[.int .u8 (pV xs n out m).1,mi (pV xs n out m).2]∧L=L'):=by
 unfold pV
 by_cases hm:n≤m
 ·rw[if_pos (by omega)];exact HH bc m n out L hm
 ·have hu:m<us.length:=by omega
  rw[if_neg (by omega),Int.toNat_natCast];have hx:xs.getD m (6,[])=us[m].x:=by
   rw[←hc.x,List.getD_eq_getElem?_getD,List.getElem?_map,List.getElem?_eq_getElem hu];rfl
  rw[hx];have h7:=hv _ (List.getElem_mem hu)
  by_cases h3:us[m].v<3
  ·exact Kb bc k p xs us a uc m n out L hc (by omega) hu h8 ho h3
  ·exact HI bc k p xs us a uc m n out L hc (by omega) hu (by omega)
def Km(X:ax Tryz.prog)(x:Ln):Prop:=sE X x.1∧x.2.length=iu x.1∧(x.1=3→0≤x.2.getD 0 0)
theorem Wq(I L:LH)(bc:Nat)(k:kC)(p:Kp)(xs:List Ln)(us:List AP)(ua:Option Addr)(uc:Nat)(iN:oA I)(hc:Ck I L bc k p xs us ua uc)(hl:us.length≤6)(hv:∀u∈us,Km X u.x)(hs:uB k.s)
  (acn:∀i x,xs[i]?=some x→x.1=6→Dp (cy ⟨k.b,k.ro,k.s⟩ xs (dR ⟨k.b,k.ro,k.s⟩ xs i) i).1.s):
  Sp X 70 [pt bc] L (fun v L'=>∃aa ac J K,v=.tuple #[.slice aa xs.length ac,.int .u8 (dR ⟨k.b,k.ro,k.s⟩ xs xs.length)]∧Dm I J∧Go.Mz.Post I L J K∧Ck J K bc k p xs us ua uc∧bM K 1 9 cI L' (.slice aa xs.length ac) (gZ ⟨k.b,k.ro,k.s⟩ xs xs.length)):=by
 have zR:us.length=xs.length:=by rw[←hc.x,List.length_map]
 have tV:∀u∈us,sE X u.v∧u.a.length=iu u.v:=fun u hu=>⟨(hv u hu).1,(hv u hu).2.1⟩;have jR:=hc.at_;refine Sp.enter (n:=64) Tryz.func70 rfl rfl rfl rfl fun C hX _ aG r=>?_;refine W.go 99 rfl ?_;refine W.vf rfl rfl rfl rfl (Vf.load rfl rfl rfl ((show _=some (Value.slice ua us.length uc) from ay jR.o rfl))) ?_;refine W.go 99 rfl ?_;generalize hf0:(⟨k.b,k.ro,k.s⟩:Fi)=f0 at *;refine W.loop (fun m' E B L'=>∃(i:Nat) (aa:Option Addr) (ac:Nat) (J K:LH),m'=us.length - i∧i≤us.length∧Dm I J∧Go.Mz.Post I L J K∧Ck J K bc k p xs us ua uc∧bM K 1 9 cI L' (.slice aa i ac) (gZ f0 xs i)∧
   E=[(0,.v (pt bc)),(4,.v (.slice aa i ac)),(5,.v (.int .u8 (dR f0 xs i))),(18,.v (.slice ua us.length uc)),(19,.v (.int .i64 us.length)),(20,.v (.int .i64 i))]∧B=[])
  ⟨0,none,0,I,L,rfl,Nat.zero_le _,Dm.of_le (Le.refl _),Post.refl hc.le,hc,bM.nil (Le.refl _),rfl,rfl⟩ (by exact⟨rfl,rfl,rfl,rfl,rfl,rfl,trivial⟩) (by exact trivial) ?_
 rintro _ _ _ L2 ⟨i,aa,ac,J,K,rfl,hi,fw,mW,wF,hg,rfl,rfl⟩ again;refine W.go 99 rfl ?_;refine W.split rfl rfl rfl (fun c1=>?_) (fun c1=>?_)
 ·have hi:i<us.length:=by have:=of_decide_eq_true c1;omega
  have hix:i<xs.length:=by omega
  have hL2:=hg.1;have W1:=wF.at_;obtain⟨a,rfl⟩:=W1.s.addr hi;have hu:=List.getElem?_eq_getElem hi;have IZ:=hv _ (List.getElem_mem hi);have IF:=wF.a _ (List.getElem_mem hi);have ou:xs[i]?=some us[i].x:=by rw[←hc.x,List.getElem?_map,hu];rfl
  have qV:xs.getD i (6,[])=us[i].x:=by rw[List.getD_eq_getElem?_getD,ou];rfl
  have I5:=rG f0 xs i;have I4:=ni f0 xs i;have ia:dR f0 xs i<256:=B2 (by omega);have mw:dR f0 xs (i+1)=(me f0 xs i (dR f0 xs i)).2:=rfl;have yy:=acn i _ ou;have Qc:=Mo (cy f0 xs (dR f0 xs i) i).1 us[i].x;generalize hA:qE (cy f0 xs (dR f0 xs i) i).1 us[i].x=A at Qc;obtain⟨V,hV⟩:∃V,V=if us[i].x.1=3 then pV xs i (dR f0 xs i) (us[i].x.2.getD 0 0) else(dR f0 xs i,A.2):=⟨_,rfl⟩;have cu:me f0 xs i (dR f0 xs i)=(E7 A.1 V.2,V.1):=by
   unfold me;dsimp only;rw[qV,hA,hV]
  have mw:dR f0 xs (i+1)=V.1:=congrArg Prod.snd cu;rw[cu] at I5;dsimp only at I5;refine W.abg 7 (fun E B L'=>∃J2 K2,Dm I J2∧Go.Mz.Post I L J2 K2∧Ck J2 K2 bc k p xs us (some a) uc∧bM K2 1 9 cI L' (.slice aa i ac) (gZ f0 xs i)∧gk E [(0,.v (pt bc)),(4,.v (.slice aa i ac)),(5,.v (.int .u8 V.1)),(10,.v (str A.1)),(11,.v (mi V.2)),(18,.v (.slice (some a) us.length uc)),(19,.v (.int .i64 us.length)),(20,.v (.int .i64 i))]∧oD B []) ?_ ?_
  ·rintro E B L4 ⟨J2,K2,fw,mW,wF,hg,hE,hB⟩;refine W.cG (B':=[]) hE hB ?_;have hVe:Er V.2:=by
    rw[hV]
    split
    ·exact Ka ..
    ·exact Qc
   clear Qc hV cu;obtain⟨w,wo⟩:=A;obtain⟨vo,ve⟩:=V;obtain⟨n,hn,rfl⟩:=hVe;dsimp only at I5 mw ⊢;refine W.dv [53] 99 rfl ?_;refine W.cw 14 (.inl ⟨_,rfl⟩) rfl rfl ?_;intro O0 WR _;refine W.cG (E':=[(0,.v (pt bc)),(4,.v (.slice aa i ac)),(5,.v (.int .u8 vo)),(10,.v (str w)),(11,.v (mi (n:Int))),(14,.v (pt O0)),(18,.v (.slice (some a) us.length uc)),(19,.v (.int .i64 us.length)),(20,.v (.int .i64 i)),(52,.v (mi (n:Int)))]) (B':=[]) (by exact⟨rfl,rfl,rfl,rfl,rfl,rfl,rfl,rfl,rfl,rfl,trivial⟩) trivial ?_;have dP:=Le.put WR (.cells #[.int .i64 0] 214);have pK:=aj L4 O0 (.cells #[.int .i64 0] 214)
   change W C _ _ _ _ _ (L4.put O0 (.cells #[.int .i64 0] 214))
   generalize L4.put O0 (.cells #[.int .i64 0] 214)=L5 at dP pK ⊢;have Qz:=hg.le dP;have Gd:oA L5:=(mW.le.trans Qz.1).cell (fw.cell iN);rcases Nat.eq_zero_or_pos n with kR | kR
   ·subst kR;rw[show mi ((0:Nat):Int)=.nilIface from rfl];rw[show E7 w ((0:Nat):Int)=w from rfl] at I5;refine W.go 99 rfl ?_;refine W.aB rfl rfl rfl (Ef.call rfl (LU _ _)) ?_;rintro _ _ _ ⟨_,rfl,rfl,rfl,rfl⟩;refine W.go 99 rfl ?_;refine W.split rfl rfl rfl (fun c=>absurd c (by decide)) (fun c=>?_);refine W.go 99 rfl ?_;refine W.aB rfl rfl rfl (Ef.grow rfl rfl rfl rfl rfl rfl rfl rfl rfl fJ je Qz (ls:=[w]) (.own rfl rfl rfl rfl) ((by rw[I4,List.length_singleton];omega))) ?_;rintro _ _ _ ⟨v1,rfl,rfl,fe,_⟩;rw[←I5] at fe;obtain⟨gM,dM,rfl,_⟩:=fe.slice;rw[ni] at fe ⊢;refine W.go 99 rfl ?_;exact W.again (again _ _ _ _ (by omega) ⟨i+1,gM,dM,J2,K2,rfl,hi,fw,mW,wF,fe,rfl,rfl⟩) (by exact⟨rfl,rfl,congrArg (fun z:Nat=>some (SV.v (.int .u8 (z:Int)))) mw.symm,rfl,rfl,congrArg some (bu (by omega)),trivial⟩) trivial
   ·have aY:(n:Int)≠0:=by omega
    rw[show mi (n:Int)=.iface 214 (.agg #[.int .i64 n]) from if_neg aY];rw[show E7 w (n:Int)=rP n from if_neg aY] at I5;refine W.go 99 rfl ?_;refine W.aB rfl rfl rfl (Ef.call rfl (XS O0 (.int .i64 n) _ rfl _ Gd pK)) ?_;rintro _ _ _ ⟨_,rfl,rfl,rfl,acs,ja⟩;refine W.go 99 rfl ?_;refine W.split rfl rfl rfl (fun c=>?_) (fun c=>absurd c (by decide));refine W.go 99 rfl ?_;refine W.vf rfl rfl rfl rfl (Vf.cO rfl rfl rfl (fM (c:=[.int .i64 n]) (vs:=[.int .i64 n]) acs rfl rfl)) ?_;refine W.go 99 rfl ?_;refine W.aB rfl rfl rfl (Ef.call rfl (Oz n _ hn)) ?_;rintro _ _ _ ⟨_,rfl,rfl,rfl,rfl⟩;refine W.go 99 rfl ?_;rename_i L6;have hg6:=hg.off WR fun b' x h1 h2=>ja b' x h1 (dP _ _ h2);refine W.aB rfl rfl rfl (Ef.grow rfl rfl rfl rfl rfl rfl rfl rfl rfl fJ je hg6 (ls:=[rP n]) (.own rfl rfl rfl rfl) ((by rw[I4,List.length_singleton];omega))) ?_;rintro _ _ _ ⟨v1,rfl,rfl,fe,_⟩;rw[←I5] at fe;obtain⟨gM,dM,rfl,_⟩:=fe.slice;rw[ni] at fe ⊢;refine W.go 99 rfl ?_;exact W.again (again _ _ _ _ (by omega) ⟨i+1,gM,dM,J2,K2,rfl,hi,fw,mW,wF,fe,rfl,rfl⟩) (by exact⟨rfl,rfl,congrArg (fun z:Nat=>some (SV.v (.int .u8 (z:Int)))) mw.symm,rfl,rfl,congrArg some (bu (by omega)),trivial⟩) trivial
  intro cut;have qQ:=(Ub (X:=X) J K bc k p xs us (some a) uc i (dR f0 xs i) wF hl (by omega) ia tV hs).frame hL2;rw[hf0,←hX] at qQ;have Nr:uB (cy f0 xs (dR f0 xs i) i).1.s:=tq (by rw[←hf0];exact hs) i;generalize cy f0 xs (dR f0 xs i) i=D at qQ hA yy Nr;obtain⟨f,din⟩:=D;dsimp only at qQ hA yy Nr;have bW:L2.cell? (a.add i)=some us[i].u:=by
   have:=(W1.s.le hL2).get hu (j:=0) (v:=us[i].u) rfl
   simpa using this
  generalize us[i]=u at hu IZ IF ou bW hV hA yy;obtain⟨v,a',ad,cap⟩:=u;have yB:sE X v:=IZ.1;have U7:a'.length=iu v:=IZ.2.1;have hv3:v=3→0≤a'.getD 0 0:=IZ.2.2;have bW:L2.cell? (a.add i)=some (gJ v ad cap a'):=bW;replace hA:qE f (v,a')=A:=hA;replace hV:V=if v=3 then pV xs i (dR f0 xs i) (a'.getD 0 0) else(dR f0 xs i,A.2):=hV;have yy:v=6→Dp f.s:=yy;have IF:aN (gF J K) ad a':=IF;have acA:=yB.1;rw[←hX] at yB;refine W.go 99 rfl ?_;refine W.vf rfl rfl rfl rfl (Vf.aW rfl rfl rfl rfl rfl rfl rfl (hi)) ?_;refine W.go 99 rfl ?_;rcases(by omega:v<3∨v=3∨v=4∨v=5∨v=6) with h0 | rfl | rfl | rfl | rfl
  ·have cQ:gJ v ad cap a'=.iface 252 (.agg #[.int .i64 v,.slice ad a'.length cap]):=by
    unfold gJ;rw[if_neg (by omega),if_neg (by omega),if_neg (by omega),if_neg (by omega)]
   rw[cQ] at bW;rw[if_neg (by omega)] at hV;rw[show qE f (v,a')=(okB,(mh f (v,a')).2) from if_pos h0] at hA;subst hA hV;refine W.vf rfl rfl rfl rfl (Vf.load rfl rfl rfl (bW)) ?_;refine W.go 99 rfl ?_;refine W.aB rfl rfl rfl (Ef.call rfl (qQ)) ?_;rintro _ _ _ ⟨_,rfl,rfl,K1,⟨bf,J1,fp,rfl,jv,oQ,uY,Bt⟩,u5⟩;rename_i L3;refine W.go 99 rfl ?_;refine W.aB rfl rfl rfl (Ef.inv rfl rfl rfl (fun _ _ _=>aad _) (.inl ((Pv J1 K1 bf _ fp v a' ad cap uY (IF.le (Bt.out jv)) h0 U7 yB Nr.sm).frame u5.le))) ?_;rintro _ _ _ ⟨_,rfl,rfl,K2,hQ,IE⟩;obtain⟨rfl,J2,iM,qw⟩:=hQ.post Bt jv (by rw[uY.o];simp) oQ;refine W.go 99 rfl ?_;refine W.split rfl rfl rfl (fun c=>absurd c (by decide)) (fun c=>?_);refine W.dv [14] 99 rfl ?_;exact cut _ _ _ ⟨J2,K2,fw.trans iM,Post.trans mW qw,wF.post iM qw,(hg.post u5).post IE,by exact⟨rfl,rfl,rfl,rfl,rfl,rfl,rfl,rfl,trivial⟩,trivial⟩
  ·have Zy:=hv3 rfl;obtain⟨mn,Nj⟩:∃n:Nat,a'.getD 0 0=(n:Int):=⟨(a'.getD 0 0).toNat,by omega⟩;rw[show gJ 3 ad cap a'=.iface 209 (.agg #[.int .i64 (a'.getD 0 0)]) from rfl,Nj] at bW;rw[if_pos rfl,Nj] at hV;rw[show qE f (3,a')=(okB,0) from rfl] at hA;subst hA hV;refine W.vf rfl rfl rfl rfl (Vf.load rfl rfl rfl (bW)) ?_;refine W.go 99 rfl ?_;refine W.aB rfl rfl rfl (Ef.call rfl (qQ)) ?_;rintro _ _ _ ⟨_,rfl,rfl,K1,⟨bf,J1,fp,rfl,jv,oQ,uY,Bt⟩,u5⟩;rename_i L3;obtain⟨_,J2,iM,qw⟩:=yX.post Bt jv (by rw[uY.o];simp) oQ (f:=f) (a:=[]) (w:=.nilIface) (v:=.tuple #[str [],.nilIface]) (L2:=K1) ⟨rfl,J1,fp,Dm.of_le (Le.refl _),uY,eU.refl bf⟩;have W2:=wF.post iM qw;refine W.go 99 rfl ?_;refine W.aB rfl rfl rfl (Ef.inv rfl rfl rfl (fun _ _ _=>aae _) (.inl (Tj mn _ ⟨_,rfl⟩ _))) ?_;rintro _ _ _ ⟨_,rfl,rfl,rfl,rfl⟩;refine W.go 99 rfl ?_;refine W.split rfl rfl rfl (fun c=>?_) (fun c=>absurd c (by decide));refine W.go 99 rfl ?_;refine W.aB rfl rfl rfl (Ef.call rfl (Od bc k p xs us a uc mn i (dR f0 xs i) _ (W2.at_.le u5.le) (by omega) hl ia (fun u hu=>(hv u hu).1.1))) ?_;rintro _ _ _ ⟨_,rfl,rfl,rfl,rfl⟩;refine W.dv [14] 99 rfl ?_;exact cut _ _ _ ⟨J2,K1,fw.trans iM,Post.trans mW qw,W2,hg.post u5,by exact⟨rfl,rfl,rfl,rfl,rfl,rfl,rfl,rfl,trivial⟩,trivial⟩
  ·rw[show gJ 4 ad cap a'=.iface 153 (.agg #[.int .i64 (a'.getD 0 0)]) from rfl] at bW;rw[if_neg (by decide)] at hV;rw[show qE f (4,a')=(lQ (bK (gz f.b (a'.getD 0 0)).1),(gz f.b (a'.getD 0 0)).2) from rfl] at hA;subst hA hV;refine W.vf rfl rfl rfl rfl (Vf.load rfl rfl rfl (bW)) ?_;refine W.go 99 rfl ?_;refine W.aB rfl rfl rfl (Ef.call rfl (qQ)) ?_;rintro _ _ _ ⟨_,rfl,rfl,K1,⟨bf,J1,fp,rfl,jv,oQ,uY,Bt⟩,u5⟩;rename_i L3;refine W.go 99 rfl ?_;refine W.aB rfl rfl rfl (Ef.inv rfl rfl rfl (fun _ _ _=>aaf _) (.inl ((Wn (yB.2.2.2.1 (.inr rfl)) J1 K1 bf f fp (a'.getD 0 0) uY).frame u5.le))) ?_;rintro _ _ _ ⟨_,rfl,rfl,K2,hQ,IE⟩;obtain⟨rfl,J2,iM,qw⟩:=hQ.post Bt jv (by rw[uY.o];simp) oQ;refine W.go 99 rfl ?_;refine W.split rfl rfl rfl (fun c=>absurd c (by decide)) (fun c=>?_);refine W.dv [14] 99 rfl ?_;exact cut _ _ _ ⟨J2,K2,fw.trans iM,Post.trans mW qw,wF.post iM qw,(hg.post u5).post IE,by exact⟨rfl,rfl,rfl,rfl,rfl,rfl,rfl,rfl,trivial⟩,trivial⟩
  ·rw[show gJ 5 ad cap a'=.iface 155 (.agg #[.int .i64 (a'.getD 0 0)]) from rfl] at bW;rw[if_neg (by decide)] at hV;rw[show qE f (5,a')=(gD (dI f.ro (a'.getD 0 0)).1.lo++45::gD (dI f.ro (a'.getD 0 0)).1.hi,(dI f.ro (a'.getD 0 0)).2) from rfl] at hA;rw[K3 (vY _ _ _ (.inl rfl)).1,K3 (vY _ _ _ (.inr rfl)).1] at hA;subst hA hV;refine W.vf rfl rfl rfl rfl (Vf.load rfl rfl rfl (bW)) ?_;refine W.go 99 rfl ?_;refine W.aB rfl rfl rfl (Ef.call rfl (qQ)) ?_;rintro _ _ _ ⟨_,rfl,rfl,K1,⟨bf,J1,fp,rfl,jv,oQ,uY,Bt⟩,u5⟩;rename_i L3;refine W.go 99 rfl ?_;refine W.aB rfl rfl rfl (Ef.inv rfl rfl rfl (fun _ _ _=>aag _) (.inl ((Ud (yB.2.1 (.inr rfl)) J1 K1 bf f fp (a'.getD 0 0) uY (vY _ _)).frame u5.le))) ?_;rintro _ _ _ ⟨_,rfl,rfl,K2,hQ,IE⟩;obtain⟨rfl,J2,iM,qw⟩:=hQ.post Bt jv (by rw[uY.o];simp) oQ;refine W.go 99 rfl ?_;refine W.split rfl rfl rfl (fun c=>absurd c (by decide)) (fun c=>?_);refine W.dv [14] 99 rfl ?_;exact cut _ _ _ ⟨J2,K2,fw.trans iM,Post.trans mW qw,wF.post iM qw,(hg.post u5).post IE,by exact⟨rfl,rfl,rfl,rfl,rfl,rfl,rfl,rfl,trivial⟩,trivial⟩
  ·rw[show gJ 6 ad cap a'=.iface 157 (.agg #[]) from rfl] at bW;rw[if_neg (by decide)] at hV;rw[show qE f (6,a')=(lQ (bK (eT f.s).1)++[58,32]++gD (eT f.s).2.1,(eT f.s).2.2) from rfl] at hA;subst hA hV;refine W.vf rfl rfl rfl rfl (Vf.load rfl rfl rfl (bW)) ?_;refine W.go 99 rfl ?_;refine W.aB rfl rfl rfl (Ef.call rfl (qQ)) ?_;rintro _ _ _ ⟨_,rfl,rfl,K1,⟨bf,J1,fp,rfl,jv,oQ,uY,Bt⟩,u5⟩;rename_i L3;refine W.go 99 rfl ?_;refine W.aB rfl rfl rfl (Ef.inv rfl rfl rfl (fun _ _ _=>aah _) (.inl ((TW (yB.2.2.1 rfl) J1 K1 bf f fp uY Nr.sm (yy rfl) ⟨by have:=(Ff f.s).1;omega,fun n hn=>by have:=(Ff f.s).2 n hn;omega⟩).frame u5.le))) ?_;rintro _ _ _ ⟨_,rfl,rfl,K2,hQ,IE⟩;obtain⟨rfl,J2,iM,qw⟩:=hQ.post Bt jv (by rw[uY.o];simp) oQ;refine W.go 99 rfl ?_;refine W.split rfl rfl rfl (fun c=>absurd c (by decide)) (fun c=>?_);refine W.dv [14] 99 rfl ?_;exact cut _ _ _ ⟨J2,K2,fw.trans iM,Post.trans mW qw,wF.post iM qw,(hg.post u5).post IE,by exact⟨rfl,rfl,rfl,rfl,rfl,rfl,rfl,rfl,trivial⟩,trivial⟩
 ·have iZ:i=us.length:=by have:=of_decide_eq_false c1;omega
  subst iZ;rw[zR] at hg ⊢;refine W.go 99 rfl ?_;refine W.ret r rfl rfl ?_;exact⟨aa,ac,J,K,rfl,fw,mW,wF,hg⟩
theorem Ck.sub{I I' L:LH}{bc:Nat}{k:kC}{p:Kp}{xs:List Ln}{us:List AP}{ua:Option Addr}{uc:Nat}(h:Ck I L bc k p xs us ua uc)(hl:Le I' I)(hk:nv I' k p):Ck I' L bc k p xs us ua uc:=by
 have ho:Le (gF I L) (gF I' L):=fun b x hx=>by
  obtain⟨h1,h2⟩:=kX hx;rw[lN (aP hl h1)];exact h2
 exact⟨hl.trans h.le,hk,ho _ _ h.o,h.s.le ho,h.a.le ho,h.x,h.c⟩
theorem VJ(k:kC)(p:Kp)(xs:List Ln)(L:LH)(hk:nv L k p)(ok:Kk k)(hp:k.ls.map gW=xs.map some):Sp X 58 [Mr k p,.slice none 0 0] L (fun v L'=>∃bc us ua uc,v=.tuple #[pt bc,.int .i64 0]∧Ck L L' bc k p xs us ua uc):=by
 have qt:=ok.l6;refine Sp.enter (n:=38) Tryz.func58 rfl rfl rfl rfl fun C hX _ aG r=>?_;refine W.go 99 rfl ?_;refine W.aB rfl rfl rfl (Ef.call rfl (HQ k p _ hk ok)) ?_;rintro _ _ _ ⟨_,rfl,rfl,rfl,hle⟩;rename_i L1;have lK:=hk.le hle;refine W.go 99 rfl ?_;refine W.split rfl rfl rfl (fun c=>absurd c (by decide)) (fun c=>?_);refine W.go 99 rfl ?_;refine W.loop (fun m' E B L'=>m'=0∧L1=L'∧E=[(2,.p 0 0),(15,.v (.int .i64 0)),(16,.v (.int .i64 0))]∧B=[some ⟨(Bi k p).map .v,56⟩])
  ⟨rfl,rfl,rfl,rfl⟩ (by exact⟨rfl,rfl,rfl,trivial⟩) (by exact⟨rfl,trivial⟩) ?_
 rintro _ _ _ _ ⟨rfl,rfl,rfl,rfl⟩ again;clear again;refine W.go 99 rfl ?_;refine W.split rfl rfl rfl (fun c=>absurd c (by decide)) (fun c=>?_);refine W.go 99 rfl ?_;refine W.aB rfl rfl rfl (Ef.call rfl (LM p.la p.lc k.ls _ lK.l (by omega) (fun x hx=>(ok.ln x hx).2.1))) ?_;rintro _ _ _ ⟨_,rfl,rfl,rfl,rfl⟩;refine W.go 99 rfl ?_;refine W.split rfl rfl rfl (fun c=>absurd c (by decide)) (fun c=>?_);refine W.go 99 rfl ?_;refine W.aB rfl rfl rfl (Ef.call rfl (GV k p p.la p.lc k.ls xs _ lK lK.l qt (fun l hl=>(ok.ln l hl).1) hp)) ?_;rintro _ _ _ ⟨_,rfl,rfl,bc,us,ua,uc,rfl,hc⟩;refine W.go 99 rfl ?_;refine W.ret r rfl rfl ?_;exact⟨bc,us,ua,uc,rfl,hc.sub hle hk⟩
structure Bh(X:ax Tryz.prog)(k:kC)(xs:List Ln):Prop where
 ok:Kk k
 p:k.ls.map gW=xs.map some
 v:∀x∈xs,Km X x
 pay:∀i x,xs[i]?=some x→x.1=6→Dp (cy ⟨k.b,k.ro,k.s⟩ xs (dR ⟨k.b,k.ro,k.s⟩ xs i) i).1.s
theorem Bh.l6{k:kC}{xs:List Ln}(h:Bh X k xs):xs.length≤6:=by
 have:=congrArg List.length h.p;rw[List.length_map,List.length_map] at this;have:=h.ok.l6;omega
theorem Bh.sok{k:kC}{xs:List Ln}(h:Bh X k xs):uB k.s:=Lv h.ok.s
theorem Ck.us{I L:LH}{bc:Nat}{k:kC}{p:Kp}{xs:List Ln}{us:List AP}{ua:Option Addr}{uc:Nat}(h:Ck I L bc k p xs us ua uc)(w:Bh X k xs):us.length≤6∧us.length=xs.length∧∀u∈us,Km X u.x:=by
 have hl:us.length=xs.length:=by rw[←h.x,List.length_map]
 refine⟨by have:=w.l6;omega,hl,fun u hu=>?_⟩;exact w.v u.x (by rw[←h.x];exact List.mem_map_of_mem hu)
theorem TO(k:kC)(p:Kp)(xs:List Ln)(L:LH)(iN:oA L)(hk:nv L k p)(w:Bh X k xs):Sp X 29 [Mr k p] L (fun v L'=>∃aa ac J,v=.tuple #[.slice aa xs.length ac,.int .i64 0]∧Dm L J∧bM J 1 9 cI L' (.slice aa xs.length ac) (gZ ⟨k.b,k.ro,k.s⟩ xs xs.length)):=by
 refine Sp.enter (n:=22) Tryz.func29 rfl rfl rfl rfl fun C hX _ aG r=>?_;refine W.go 99 rfl ?_;refine W.aB rfl rfl rfl (Ef.call rfl (VJ k p xs _ hk w.ok w.p)) ?_;rintro _ _ _ ⟨_,rfl,rfl,bc,us,ua,uc,rfl,hc⟩;obtain⟨u6,hul,huv⟩:=hc.us w;refine W.go 99 rfl ?_;refine W.split rfl rfl rfl (fun c=>absurd c (by decide)) (fun c=>?_);have hW:=Wq (X:=X) L _ bc k p xs us ua uc iN hc u6 huv w.sok w.pay;rw[←hX] at hW;refine W.go 99 rfl ?_;refine W.aB rfl rfl rfl (Ef.call rfl (hW)) ?_;rintro _ _ _ ⟨_,rfl,rfl,aa,ac,J,K,rfl,hd,hP,wF,hg⟩;refine W.go 99 rfl ?_;refine W.ret r rfl rfl ?_;exact⟨aa,ac,J,rfl,hd,hg.less hP.le⟩
theorem zl(L:LH):Sp X 30 [] L (fun v L'=>∃p,v=Bj kM p∧Le L L'∧ny L' kM p∧p.c4=1):=by
 refine Sp.enter (n:=13) Tryz.func30 rfl rfl rfl rfl fun C hX _ aG r=>?_;refine W.dv [12] 99 rfl ?_;refine W.cw 3 (.inr ⟨_,_,_,rfl⟩) rfl rfl ?_;intro b0 h0 _;refine W.cw 4 (.inr ⟨_,_,_,rfl⟩) rfl rfl ?_;intro b1 h1 _;refine W.cw 5 (.inr ⟨_,_,_,rfl⟩) rfl rfl ?_;intro b2 h2 _;refine W.cw 9 (.inr ⟨_,_,_,rfl⟩) rfl rfl ?_;intro b3 h3 _;refine W.cw 11 (.inr ⟨_,_,_,rfl⟩) rfl rfl ?_;intro b4 h4 _;have s0:aX _ (some ⟨b0,0,none⟩) 2 di [⟨4,6⟩,⟨8,8⟩]:=cE (L:=L.put b0 (.cells ([⟨4,6⟩,⟨8,8⟩].flatMap di).toArray 88)) gQ (aj _ _ _);have s1:=cE (l:=([1,2]:List Int)) (e:=3) aV (aj (L.put b0 (.cells ([⟨4,6⟩,⟨8,8⟩].flatMap di).toArray 88)) b1 (.cells (([1,2]:List Int).flatMap cj).toArray 3));have s2:=cE (l:=([8,12,16]:List Int)) (e:=3) aV (aj ((L.put b0 (.cells ([⟨4,6⟩,⟨8,8⟩].flatMap di).toArray 88)).put b1 (.cells (([1,2]:List Int).flatMap cj).toArray 3)) b2 (.cells (([8,12,16]:List Int).flatMap cj).toArray 3));have s3:=cE (l:=([⟨1,2⟩,⟨2,2⟩,⟨1,3⟩]:List bV)) (e:=88) gQ (aj (((L.put b0 (.cells ([⟨4,6⟩,⟨8,8⟩].flatMap di).toArray 88)).put b1 (.cells (([1,2]:List Int).flatMap cj).toArray 3)).put b2 (.cells (([8,12,16]:List Int).flatMap cj).toArray 3)) b3 (.cells (([⟨1,2⟩,⟨2,2⟩,⟨1,3⟩]:List bV).flatMap di).toArray 88));have s4:=cE (l:=([⟨0,2,1⟩]:List nX)) (e:=35) Io (aj ((((L.put b0 (.cells ([⟨4,6⟩,⟨8,8⟩].flatMap di).toArray 88)).put b1 (.cells (([1,2]:List Int).flatMap cj).toArray 3)).put b2 (.cells (([8,12,16]:List Int).flatMap cj).toArray 3)).put b3 (.cells (([⟨1,2⟩,⟨2,2⟩,⟨1,3⟩]:List bV).flatMap di).toArray 88)) b4 (.cells (([⟨0,2,1⟩]:List nX).flatMap wz).toArray 35));have l0:=Le.put h0 (.cells ([⟨4,6⟩,⟨8,8⟩].flatMap di).toArray 88);have l1:=Le.put h1 (.cells (([1,2]:List Int).flatMap cj).toArray 3);have l2:=Le.put h2 (.cells (([8,12,16]:List Int).flatMap cj).toArray 3);have l3:=Le.put h3 (.cells (([⟨1,2⟩,⟨2,2⟩,⟨1,3⟩]:List bV).flatMap di).toArray 88);have l4:=Le.put h4 (.cells (([⟨0,2,1⟩]:List nX).flatMap wz).toArray 35);refine W.go 99 rfl ?_;refine W.ret r rfl rfl ?_;exact⟨⟨some ⟨b0,0,none⟩,some ⟨b1,0,none⟩,some ⟨b2,0,none⟩,some ⟨b3,0,none⟩,some ⟨b4,0,none⟩,2,2,3,3,1⟩,rfl,l0.trans (l1.trans (l2.trans (l3.trans l4))),⟨s0.le (l1.trans (l2.trans (l3.trans l4))),s1.le (l2.trans (l3.trans l4)),s2.le (l3.trans l4),s3.le l4,s4,by decide,by decide,by decide,by decide,by decide,Nat.le_refl _⟩,rfl⟩
theorem zo(L:LH):Sp X 18 [] L (fun v L'=>∃p,v=qy xS p∧Le L L'∧fD L' xS p):=by
 refine Sp.enter (n:=19) Tryz.func18 rfl rfl rfl rfl fun C hX _ aG r=>?_;refine W.dv [1] 99 rfl ?_;refine W.cw 8 (.inr ⟨_,_,_,rfl⟩) rfl rfl ?_;intro b0 h0 _;refine W.dv [18] 99 rfl ?_;refine W.cw 10 (.inr ⟨_,_,_,rfl⟩) rfl rfl ?_;intro b1 h1 _;refine W.cw 11 (.inr ⟨_,_,_,rfl⟩) rfl rfl ?_;intro b2 h2 _;refine W.cw 14 (.inr ⟨_,_,_,rfl⟩) rfl rfl ?_;intro b3 h3 _;refine W.cw 17 (.inr ⟨_,_,_,rfl⟩) rfl rfl ?_;intro b4 h4 _;have s0:=cE (l:=([⟨0,20,⟨0,1⟩⟩,⟨0,30,⟨1,2⟩⟩,⟨5,12,⟨0,0⟩⟩,⟨5,18,⟨0,0⟩⟩]:List Gl)) (e:=90) mT (aj (L) b0 (.cells ((([⟨0,20,⟨0,1⟩⟩,⟨0,30,⟨1,2⟩⟩,⟨5,12,⟨0,0⟩⟩,⟨5,18,⟨0,0⟩⟩]:List Gl)).flatMap eY).toArray 90));have l0:=Le.put h0 (.cells ((([⟨0,20,⟨0,1⟩⟩,⟨0,30,⟨1,2⟩⟩,⟨5,12,⟨0,0⟩⟩,⟨5,18,⟨0,0⟩⟩]:List Gl)).flatMap eY).toArray 90);have s1:=cE (l:=([10,18]:List Int)) (e:=3) aV (aj ((L).put b0 (.cells ((([⟨0,20,⟨0,1⟩⟩,⟨0,30,⟨1,2⟩⟩,⟨5,12,⟨0,0⟩⟩,⟨5,18,⟨0,0⟩⟩]:List Gl)).flatMap eY).toArray 90)) b1 (.cells ((([10,18]:List Int)).flatMap cj).toArray 3));have l1:=Le.put h1 (.cells ((([10,18]:List Int)).flatMap cj).toArray 3);have s2:=cE (l:=([3,5,8]:List Int)) (e:=3) aV (aj (((L).put b0 (.cells ((([⟨0,20,⟨0,1⟩⟩,⟨0,30,⟨1,2⟩⟩,⟨5,12,⟨0,0⟩⟩,⟨5,18,⟨0,0⟩⟩]:List Gl)).flatMap eY).toArray 90)).put b1 (.cells ((([10,18]:List Int)).flatMap cj).toArray 3)) b2 (.cells ((([3,5,8]:List Int)).flatMap cj).toArray 3));have l2:=Le.put h2 (.cells ((([3,5,8]:List Int)).flatMap cj).toArray 3);have s3:=cE (l:=([⟨8,24⟩,⟨5,15⟩]:List bV)) (e:=88) gQ (aj ((((L).put b0 (.cells ((([⟨0,20,⟨0,1⟩⟩,⟨0,30,⟨1,2⟩⟩,⟨5,12,⟨0,0⟩⟩,⟨5,18,⟨0,0⟩⟩]:List Gl)).flatMap eY).toArray 90)).put b1 (.cells ((([10,18]:List Int)).flatMap cj).toArray 3)).put b2 (.cells ((([3,5,8]:List Int)).flatMap cj).toArray 3)) b3 (.cells ((([⟨8,24⟩,⟨5,15⟩]:List bV)).flatMap di).toArray 88));have l3:=Le.put h3 (.cells ((([⟨8,24⟩,⟨5,15⟩]:List bV)).flatMap di).toArray 88);have s4:=cE (l:=([⟨0,0,4,2⟩,⟨0,2,5,0⟩]:List Sg)) (e:=126) kO (aj (((((L).put b0 (.cells ((([⟨0,20,⟨0,1⟩⟩,⟨0,30,⟨1,2⟩⟩,⟨5,12,⟨0,0⟩⟩,⟨5,18,⟨0,0⟩⟩]:List Gl)).flatMap eY).toArray 90)).put b1 (.cells ((([10,18]:List Int)).flatMap cj).toArray 3)).put b2 (.cells ((([3,5,8]:List Int)).flatMap cj).toArray 3)).put b3 (.cells ((([⟨8,24⟩,⟨5,15⟩]:List bV)).flatMap di).toArray 88)) b4 (.cells ((([⟨0,0,4,2⟩,⟨0,2,5,0⟩]:List Sg)).flatMap fE).toArray 126));have l4:=Le.put h4 (.cells ((([⟨0,0,4,2⟩,⟨0,2,5,0⟩]:List Sg)).flatMap fE).toArray 126);refine W.go 99 rfl ?_;refine W.ret r rfl rfl ?_;exact⟨⟨some ⟨b0,0,none⟩,some ⟨b1,0,none⟩,some ⟨b2,0,none⟩,some ⟨b3,0,none⟩,some ⟨b4,0,none⟩,4,2,3,2,2⟩,rfl,l0.trans (l1.trans (l2.trans (l3.trans (l4)))),s0.le (l1.trans (l2.trans (l3.trans (l4)))),s1.le (l2.trans (l3.trans (l4))),s2.le (l3.trans (l4)),s3.le l4,s4,by decide,by decide,by decide,by decide,by decide,Nat.le_refl _⟩
def Su(ws:List Want):Sw:=⟨[[5,3,2],[4,2]],[2,2],1,ws⟩
abbrev rq:Sw:=Su []
theorem CM(ws:List Want)(wa:Option Addr)(wc:Nat)(L:LH)(hw:aX L wa 4 DY ws)(hc:ws.length≤wc):Sp X 19 [.slice wa ws.length wc] L (fun v L'=>∃p,v=A1 (Su ws) p∧Le L L'∧mP L' (Su ws) p):=by
 refine Sp.enter (n:=9) Tryz.func19 rfl rfl rfl rfl fun C hX _ aG r=>?_;refine W.dv [5] 99 rfl ?_;refine W.cw 3 (.inr ⟨_,_,_,rfl⟩) rfl rfl ?_;intro b0 h0 _;refine W.cw 4 (.inr ⟨_,_,_,rfl⟩) rfl rfl ?_;intro b1 h1 _;refine W.dv [8] 99 rfl ?_;refine W.cw 5 (.inr ⟨_,_,_,rfl⟩) rfl rfl ?_;intro b2 h2 _;refine W.cw 6 (.inr ⟨_,_,_,rfl⟩) rfl rfl ?_;intro b3 h3 _;have s0:=cE (l:=([5,3,2]:List Int)) (e:=3) aV (aj (L) b0 (.cells ((([5,3,2]:List Int)).flatMap cj).toArray 3));have l0:=Le.put h0 (.cells ((([5,3,2]:List Int)).flatMap cj).toArray 3);have s1:=cE (l:=([4,2]:List Int)) (e:=3) aV (aj ((L).put b0 (.cells ((([5,3,2]:List Int)).flatMap cj).toArray 3)) b1 (.cells ((([4,2]:List Int)).flatMap cj).toArray 3));have l1:=Le.put h1 (.cells ((([4,2]:List Int)).flatMap cj).toArray 3);have s2:=cE (l:=([((some ⟨b0,0,none⟩,3,3),[5,3,2]),((some ⟨b1,0,none⟩,2,2),[4,2])]:List (Rw Int))) (e:=22) Ip (aj (((L).put b0 (.cells ((([5,3,2]:List Int)).flatMap cj).toArray 3)).put b1 (.cells ((([4,2]:List Int)).flatMap cj).toArray 3)) b2 (.cells ((([((some ⟨b0,0,none⟩,3,3),[5,3,2]),((some ⟨b1,0,none⟩,2,2),[4,2])]:List (Rw Int))).flatMap zt).toArray 22));have l2:=Le.put h2 (.cells ((([((some ⟨b0,0,none⟩,3,3),[5,3,2]),((some ⟨b1,0,none⟩,2,2),[4,2])]:List (Rw Int))).flatMap zt).toArray 22);have s3:=cE (l:=([2,2]:List Int)) (e:=3) aV (aj ((((L).put b0 (.cells ((([5,3,2]:List Int)).flatMap cj).toArray 3)).put b1 (.cells ((([4,2]:List Int)).flatMap cj).toArray 3)).put b2 (.cells ((([((some ⟨b0,0,none⟩,3,3),[5,3,2]),((some ⟨b1,0,none⟩,2,2),[4,2])]:List (Rw Int))).flatMap zt).toArray 22)) b3 (.cells ((([2,2]:List Int)).flatMap cj).toArray 3));have l3:=Le.put h3 (.cells ((([2,2]:List Int)).flatMap cj).toArray 3);refine W.go 99 rfl ?_;refine W.ret r rfl rfl ?_;refine⟨⟨some ⟨b2,0,none⟩,some ⟨b3,0,none⟩,wa,2,2,wc⟩,rfl,l0.trans (l1.trans (l2.trans (l3))),⟨_,rfl,s2.le l3,fun x hx=>?_⟩,s3,hw.le (l0.trans (l1.trans (l2.trans (l3)))),hc⟩;rcases List.mem_cons.1 hx with rfl | hx
 ·exact⟨s0.le (l1.trans (l2.trans (l3))),rfl,Nat.le_refl _⟩
 ·rw[List.mem_singleton.1 hx];exact⟨s1.le (l2.trans (l3)),rfl,Nat.le_refl _⟩
def ng:Bs:=[63]
def qH(b:Bl)(ro:Ro)(s:Sw)(ls:List Bs):kC:=⟨b,ro,s,ls,List.replicate ls.length ng⟩
theorem Ms(b:Bl)(ro:Ro)(s:Sw)(ls:List Bs)(pb pr:BP)(ps:Wp)(la:Option Addr)(lc:Nat)(L:LH)(hb:ny L b pb)(hr:fD L ro pr)(hs:mP L s ps)(hl:aX L la 1 cI ls)(hn:ls.length≤1000):
  Sp X 17 [Bj b pb,qy ro pr,A1 s ps,.slice la ls.length lc] L (fun v L'=>∃p,v=Mr (qH b ro s ls) p∧Le L L'∧nv L' (qH b ro s ls) p):=by
 refine Sp.enter (n:=28) Tryz.func17 rfl rfl rfl rfl fun C hX _ aG r=>?_;refine W.go 99 rfl ?_;refine W.loop (fun w E B L'=>∃(i:Nat) (aa:Option Addr) (ac:Nat),w=ls.length - i∧i≤ls.length∧bM L 1 9 cI L' (.slice aa i ac) (List.replicate i ng)∧E=[(3,.v (.slice la ls.length lc)),(8,.p 3 0),(9,.p 4 0),(10,.v (.int .i64 i))]∧
   B=[some ⟨(Fz b pb).map .v,28⟩,some ⟨(fT ro pr).map .v,48⟩,some ⟨(qM s ps).map .v,52⟩,some ⟨XP.z.cells.toList.map .v,56⟩,some ⟨(Fz b pb++fT ro pr++qM s ps++[Value.slice la ls.length lc,.slice aa i ac]).map .v,56⟩])
  ⟨0,none,0,rfl,Nat.zero_le _,bM.nil (Le.refl _),rfl,rfl⟩ (by exact⟨rfl,rfl,rfl,rfl,trivial⟩) (by exact⟨rfl,rfl,rfl,rfl,rfl,trivial⟩) ?_
 rintro _ _ _ L1 ⟨i,aa,ac,rfl,hi,hg,rfl,rfl⟩ again;refine W.go 99 rfl ?_;refine W.split rfl rfl rfl (fun e1=>W.go 99 rfl ?_) (fun e1=>W.go 99 rfl ?_)
 ·have fB:i<ls.length:=by have:=of_decide_eq_true e1;omega
  have ZQ:(List.replicate i ng).length=i:=List.length_replicate;have U0:List.replicate i ng++[ng]=List.replicate (i+1) ng:=by rw[List.replicate_succ']
  refine W.aB rfl rfl rfl (Ef.grow rfl rfl rfl rfl rfl rfl rfl rfl rfl fJ je hg (ls:=[ng]) (.own rfl rfl rfl rfl) ((by rw[ZQ,List.length_singleton];omega))) ?_;rintro _ _ _ ⟨v1,rfl,rfl,fe,_⟩;rw[U0] at fe;obtain⟨gM,dM,rfl,_⟩:=fe.slice;rw[List.length_replicate] at fe ⊢;refine W.go 99 rfl ?_;exact W.again (again _ _ _ _ (by omega) ⟨i+1,gM,dM,rfl,fB,fe,rfl,rfl⟩) (by exact⟨rfl,rfl,rfl,congrArg some (bu (by omega)),trivial⟩) (by exact⟨rfl,rfl,rfl,rfl,rfl,trivial⟩)
 ·have fB:i=ls.length:=by have:=of_decide_eq_false e1;omega
  subst fB;have nm:(List.replicate ls.length ng).length=ls.length:=List.length_replicate;refine W.ret r rfl rfl ?_;refine⟨⟨pb,pr,ps,la,lc,aa,ac⟩,?_,hg.1,hb.le hg.1,hr.le hg.1,hs.le hg.1,hl.le hg.1,?_⟩
  ·show _=Value.agg (Fz b pb++fT ro pr++qM s ps++[Value.slice la ls.length lc,.slice aa (List.replicate ls.length ng).length ac]).toArray;rw[nm];rfl
  ·have oS:bM L 1 9 cI L1 (.slice aa (List.replicate ls.length ng).length ac) (List.replicate ls.length ng):=by rw[nm];exact hg
   exact(oS.at fJ).2
theorem Lw(b:Bl)(ro:Ro)(s:Sw)(ls:List Bs)(xs:List Ln)(pb pr:BP)(ps:Wp)(la da:Option Addr)(lc dc:Nat)(L:LH)(iN:oA L)(hb:ny L b pb)(hr:fD L ro pr)(hs:mP L s ps)(hl:aX L la 1 cI ls)(w:Bh X (qH b ro s ls) xs)(hd:aX L da 1 cI (gZ ⟨b,ro,s⟩ xs xs.length)):
  Sp X 21 [Bj b pb,qy ro pr,A1 s ps,.slice la ls.length lc,.slice da xs.length dc] L (fun v L'=>v=.bool true∧Dm L L'):=by
 have hn:ls.length≤6:=w.ok.l6;have hx6:=w.l6;have I4:=ni ⟨b,ro,s⟩ xs xs.length;refine Sp.enter (n:=29) Tryz.func21 rfl rfl rfl rfl fun C hX _ aG r=>?_;refine W.go 99 rfl ?_;refine W.aB rfl rfl rfl (Ef.call rfl (Ms b ro s ls pb pr ps la lc _ hb hr hs hl (by omega))) ?_;rintro _ _ _ ⟨_,rfl,rfl,p,rfl,hle,Bv⟩;have hW:=TO (X:=X) (qH b ro s ls) p xs _ (iN.le hle) Bv w;rw[←hX] at hW;refine W.aB rfl rfl rfl (Ef.call rfl (hW)) ?_;rintro _ _ _ ⟨_,rfl,rfl,aa,ac,J,rfl,kD,hg⟩;have cA:=hg.at2 fJ I4;have iM:Dm L _:=((Dm.of_le hle).trans kD).trans (.of_le hg.1);refine W.go 99 rfl ?_;refine W.split rfl rfl rfl (fun c=>?_) (fun c=>absurd c (by decide));refine W.go 99 rfl ?_;have hE:=HT (X:=C.X) aa da ac dc (gZ ⟨b,ro,s⟩ xs xs.length) _ cA (iM.sl hd) (by omega);rw[I4] at hE;refine W.aB rfl rfl rfl (Ef.call rfl (hE)) ?_;rintro _ _ _ ⟨_,rfl,rfl,rfl,rfl⟩;refine W.go 99 rfl ?_;refine W.ret r rfl rfl ?_;exact⟨rfl,iM⟩
end Go.Mz
namespace Go.Mz
open Go
theorem FH{f0:Fi}{xs:List Ln}{out i:Nat}{x:Ln}(hx:xs[i]?=some x):cy f0 xs out (i+1)=mg out i x (cy f0 xs out i):=by
 obtain⟨hi,rfl⟩:=List.getElem?_eq_some_iff.1 hx;unfold cy;rw[List.take_succ_eq_append_getElem hi,nF,List.length_take,Nat.min_eq_left (by omega),Nat.zero_add]
end Go.Mz
set_option maxRecDepth 100000
namespace Go.Mz
open Go.Conc Go.Proofs
variable {X:ax Tryz.prog}
abbrev fiK:Fi:=⟨kM,xS,rq⟩
theorem Hb:kK rq=0:=by decide+kernel
theorem FB:fX kM=0:=by decide+kernel
theorem VP:dK xS=0:=by decide+kernel
theorem O3{b:Bl}{ro:Ro}{s:Sw}{ls:List Bs}{xs:List Ln}(hb:fX b=0)(hr:dK ro=0)(hs:kK s=0)(h6:ls.length≤6)(hp:ls.map gW=xs.map some)(ht:∀l∈ls,l.length≤100∧cV l 63=0):Kk (qH b ro s ls):=
 ⟨hb,hr,hs,(Lv hs).sm,h6,fun l hl=>⟨(ht l hl).1,(ht l hl).2,by
  have:gW l∈xs.map some:=hp▸List.mem_map_of_mem hl;obtain⟨x,_,hx⟩:=List.mem_map.1 this;exact⟨x.1,x.2,hx.symm⟩⟩,List.length_replicate,fun l hl=>by rw[(List.mem_replicate.1 hl).2];decide⟩
end Go.Mz
namespace Go.Mz
open Go
structure Dl(v:Nat)(a:List Int):Prop where
 vl:v<7
 l:a.length=iu v
 a:∀(i:Nat) (n:Int),a[i]?=some n→(0≤n∧n<100)∨(v=2∧i=1∧n=-1)
theorem AV:∀{w:Bs},(∀c∈w,c≠32)→cT w=[w]
 | [],_=>rfl
 | c::l,h=>by
  have hc:(c==32)=false:=by simpa using h c List.mem_cons_self
  unfold cT;rw[AV fun x hx=>h x (List.mem_cons_of_mem _ hx),hc]
theorem xV:∀{w r:Bs},(∀c∈w,c≠32)→cT (w++32::r)=w::cT r
 | [],r,_=>by
  rw[List.nil_append]
  conv=>lhs;unfold cT
  rfl
 | c::l,r,h=>by
  have hc:(c==32)=false:=by simpa using h c List.mem_cons_self
  rw[List.cons_append]
  conv=>lhs;unfold cT
  rw[xV fun x hx=>h x (List.mem_cons_of_mem _ hx),hc]
def lh(q:List Bs):Bs:=q.flatMap fun w=>32::w
theorem vL{w:Bs}:∀{q:List Bs},(∀c∈w,c≠32)→(∀x∈q,∀c∈x,c≠32)→cT (w++lh q)=w::q
 | [],hw,_=>by unfold lh;rw[List.flatMap_nil,List.append_nil];exact AV hw
 | x::q,hw,hq=>by
  have:lh (x::q)=32::(x++lh q):=by unfold lh;rw[List.flatMap_cons];rfl
  rw[this,xV hw,vL (hq x List.mem_cons_self) fun y hy=>hq y (List.mem_cons_of_mem _ hy)]
def oE(n:Int):Bs:=if n<0 then p9 else bH n.toNat
theorem GB:∀n:Fin 100,(∀c∈bH n.val,c≠32∧c≠63)∧CO (bH n.val)=some n.val∧(bH n.val).length≤2∧bH n.val≠p9:=by decide+kernel
theorem A6:∀v:Fin 7,(∀c∈gh v.val,c≠32∧c≠63)∧vT.idxOf? (gh v.val)=some v.val∧(gh v.val).length≤5:=by decide+kernel
theorem TS:∀c∈p9,c≠32∧c≠63:=by decide
theorem DC{n:Int}(h:n<100):(∀c∈oE n,c≠32∧c≠63)∧(oE n).length≤3:=by
 unfold oE
 split
 ·exact⟨TS,by decide⟩
 ·have:=GB ⟨n.toNat,by omega⟩;exact⟨this.1,by have:=this.2.2.1;simp only at this;omega⟩
theorem zj{v:Nat}:∀{a:List Int} {i:Nat},(∀(j:Nat) (n:Int),a[j]?=some n→(0≤n∧n<100)∨(v=2∧i+j=1∧n=-1))→lT v i (a.map oE)=some a
 | [],_,_=>rfl
 | n::a,i,h=>by
  rw[List.map_cons];unfold lT;have ih:lT v (i+1) (a.map oE)=some a:=zj fun j m hj=>by
   have:=h (j+1) m (by simpa using hj);rcases this with h | ⟨h1,h2,h3⟩
   ·exact .inl h
   ·exact .inr ⟨h1,by omega,h3⟩
  have hn:(if v=2∧i=1∧oE n=p9 then some (-1:Int) else(CO (oE n)).map Int.ofNat)=some n:=by
   rcases h 0 n rfl with h0 | ⟨h1,h2,rfl⟩
   ·have e:oE n=bH n.toNat:=by unfold oE;rw[if_neg (by omega)]
    have:=GB ⟨n.toNat,by omega⟩;simp only at this;rw[e,if_neg (fun h=>this.2.2.2 h.2.2),this.2.1];simp only[Option.map_some]
    congr 1
    simp only[Int.ofNat_eq_natCast];omega
   ·rw[if_pos ⟨h1,by omega,rfl⟩]
  rw[hn,ih]
theorem GJ{v:Nat}{a:List Int}(h:Dl v a):gW (gh v++lh (a.map oE))=some (v,a):=by
 have hw:=A6 ⟨v,h.vl⟩;simp only at hw;have aU:∀n∈a,n<100:=fun n hn=>by
  obtain⟨i,hi⟩:=List.mem_iff_getElem?.1 hn;rcases h.a i n hi with h | ⟨_,_,h⟩ <;> omega
 unfold gW;rw[vL (fun c hc=>(hw.1 c hc).1) (fun x hx c hc=>by
  obtain⟨n,hn,rfl⟩:=List.mem_map.1 hx;exact((DC (aU n hn)).1 c hc).1)]
 dsimp only;rw[hw.2.1];dsimp only;rw[if_neg (by rw[List.length_map];exact fun e=>e h.l),zj (v:=v) (i:=0) (fun j n hj=>by
  rcases h.a j n hj with g | ⟨g1,g2,g3⟩
  ·exact .inl g
  ·exact .inr ⟨g1,by omega,g3⟩)]
 rfl
theorem JY{q:List Bs}{c:UInt8}(h:c∈lh q):c=32∨∃w∈q,c∈w:=by
 obtain⟨w,hw,hc⟩:=List.mem_flatMap.1 h;rcases List.mem_cons.1 hc with rfl | hc
 ·exact .inl rfl
 ·exact .inr ⟨w,hw,hc⟩
theorem JX{q:List Bs}{m:Nat}(h:∀w∈q,w.length≤m):(lh q).length≤(m+1) *q.length:=by
 induction q with
 | nil=>exact Nat.le_refl _
 | cons w q ih=>
  have:lh (w::q)=32::(w++lh q):=by unfold lh;rw[List.flatMap_cons];rfl
  have h1:=ih fun y hy=>h y (List.mem_cons_of_mem _ hy);have h2:=h w List.mem_cons_self;rw[this,List.length_cons,List.length_append,List.length_cons,Nat.mul_add];omega
theorem NB{v:Nat}{a:List Int}(h:Dl v a):(gh v++lh (a.map oE)).length≤40:=by
 have hw:=(A6 ⟨v,h.vl⟩).2.2;simp only at hw;have aU:∀n∈a,n<100:=fun n hn=>by
  obtain⟨i,hi⟩:=List.mem_iff_getElem?.1 hn;rcases h.a i n hi with h | ⟨_,_,h⟩ <;> omega
 have ha:a.length≤4:=by
  rw[h.l];have:∀v:Fin 7,iu v.val≤4:=by decide
  exact this ⟨v,h.vl⟩
 have h2:=JX (q:=a.map oE) (m:=3) fun w hw=>by
  obtain⟨n,hn,rfl⟩:=List.mem_map.1 hw;exact(DC (aU n hn)).2
 rw[List.length_map] at h2;rw[List.length_append];omega
theorem RG{v:Nat}{a:List Int}(h:Dl v a):∀c∈gh v++lh (a.map oE),c≠63:=fun c hc=>by
 have aU:∀n∈a,n<100:=fun n hn=>by
  obtain⟨i,hi⟩:=List.mem_iff_getElem?.1 hn;rcases h.a i n hi with h | ⟨_,_,h⟩ <;> omega
 rcases List.mem_append.1 hc with hc | hc
 ·have:=A6 ⟨v,h.vl⟩;exact(this.1 c hc).2
 ·rcases JY hc with rfl | ⟨w,hw,hc⟩
  ·decide
  ·obtain⟨n,hn,rfl⟩:=List.mem_map.1 hw;exact((DC (aU n hn)).1 c hc).2
end Go.Mz
set_option maxRecDepth 100000
namespace Go.Mz
open Go.Conc Go.Proofs
variable {X:ax Tryz.prog}
theorem Ks{K L L':LH}{k k2:Nat}{e e2:TypeId}{v v2 v':Value}{len GF K6:Nat}{cs Pb iY:List Value}{oa ob R4:Option Nat}(ha:dt L k e v len cs oa)(hb:dt L k2 e2 v2 GF Pb ob)(tw:∀o,oa=some o→ob≠some o)(hK:∀o,oa=some o→K o=none)(hle:Le K L)(hw:dt L' k e v' K6 iY R4)
  (hc:(L'=L∧R4=none∧oa=none)∨∃b c,R4=some b∧L'=L.put b (.cells c e)∧((oa=some b∧∃c0,L b=some (.cells c0 e (0,0),true)∧c.size=c0.size)∨L b=none)):
  dt L' k2 e2 v2 GF Pb ob∧(∀o,R4=some o→ob≠some o)∧(∀o,R4=some o→K o=none)∧Le K L':=by
 rcases hc with⟨rfl,rfl,_⟩ | ⟨q,c,rfl,rfl,⟨rfl,_⟩ | hn⟩
 ·exact⟨hb,fun _ h=>(by cases h),fun _ h=>(by cases h),hle⟩
 ·have hKq:=hK q rfl;have Qm:=tw q rfl;exact⟨hb.keep fun o ho=>au _ _ (fun e=>by subst e;exact Qm ho),fun _ h=>(by cases h;exact Qm),fun _ h=>(by cases h;exact hKq),aC hle hKq _⟩
 ·have Qm:ob≠some q:=fun e=>by
   subst e;exact hb.blk hn
  exact⟨hb.keep fun o ho=>au _ _ (fun e=>by subst e;exact Qm ho),fun _ h=>(by cases h;exact Qm),fun _ h=>(by cases h;exact aP hle hn),hle.trans (Le.put hn _)⟩
abbrev fG(x:Ln):Bs:=mj x.1 x.2
theorem Et{x:Ln}(h:Dl x.1 x.2):gW (fG x)=some x∧(fG x).length≤40∧cV (fG x) 63=0:=
 ⟨GJ h,NB h,List.count_eq_zero.2 fun hm=>RG h _ hm rfl⟩
theorem aaa{x:Ln}(h:Dl x.1 x.2)(hk:sE X x.1):Km X x:=⟨hk,h.l,fun h3=>by
 have hl:x.2.length=1:=by rw[h.l,h3];rfl
 rcases h.a 0 (x.2.getD 0 0) (by rw[List.getD_eq_getElem?_getD,List.getElem?_eq_getElem (show 0<x.2.length by omega)];rfl) with g | ⟨_,g,_⟩
 ·exact g.1
 ·cases g⟩
theorem Dh{b:Bl}{ro:Ro}{s:Sw}{xs:List Ln}(hb:fX b=0)(hr:dK ro=0)(hs:kK s=0)(h6:xs.length≤6)(hl:∀x∈xs,Dl x.1 x.2∧sE X x.1)(hp:∀i x,xs[i]?=some x→x.1=6→Dp (cy ⟨b,ro,s⟩ xs (dR ⟨b,ro,s⟩ xs i) i).1.s):Bh X (qH b ro s (xs.map fG)) xs:=by
 have hpp:(xs.map fG).map gW=xs.map some:=by
  rw[List.map_map];exact List.map_congr_left fun x hx=>(Et (hl x hx).1).1
 exact⟨O3 hb hr hs (by rw[List.length_map];exact h6) hpp (fun l oT=>by
  obtain⟨x,hx,rfl⟩:=List.mem_map.1 oT;exact⟨Nat.le_trans (Et (hl x hx).1).2.1 (by decide),(Et (hl x hx).1).2.2⟩),hpp,fun x hx=>aaa (hl x hx).1 (hl x hx).2,hp⟩
end Go.Mz
namespace Go.Mz
open Go
structure sF(x:Ro)(f hs:List Int)(gl:Nat):Prop where
 g1:1≤x.ai.length
 g2:x.ai.length≤gl
 gb:∀g∈x.ai,0≤g.made∧g.made≤9∧4≤g.cS∧g.cS≤24∧0≤g.bI.lo∧g.bI.lo≤g.bI.hi∧g.bI.hi≤3
 t1:1≤x.steps.length
 t3:x.steps.length≤3
 tb:∀s∈x.steps,2≤s∧s≤40
 OY:x.steps.Pairwise (·<·)
 d1:x.aA.length=x.steps.length+1
 du:∀n∈x.aA,0≤n∧n≤9
 p1:1≤x.samples.length
 p2:x.samples.length≤2
 sp:∀s∈x.samples,0≤s.lo∧s.lo≤s.hi∧s.hi≤24
 si:x.ak=[]
 tr:Dv x f hs
structure uC(x:Ro)(f hs:List Int)(s:Sg):Prop where
 r:nN x f hs s
 e:de x s=0
theorem zG:∀{l:List Gl},(∀g∈l,ix g=0)→c8 l=0
 | [],_=>rfl
 | g::l,h=>by
  unfold c8;rw[h g List.mem_cons_self,if_neg (by decide)];exact zG fun x hx=>h x (List.mem_cons_of_mem _ hx)
theorem iP{n lo hi:Int}(h:lo≤n∧n≤hi):bq n lo hi=true:=by unfold bq;simp;omega
theorem LD{s:bV}{m:Int}(h:0≤s.lo∧s.lo≤s.hi∧s.hi≤m):eE s m=0:=by
 unfold eE;rw[iP (by omega),iP (by omega),if_neg (by simp),if_neg (by omega)]
theorem Ht{m:Int}:∀{l:List bV},(∀s∈l,0≤s.lo∧s.lo≤s.hi∧s.hi≤m)→fq m l=0
 | [],_=>rfl
 | s::l,h=>by
  unfold fq;rw[LD (h s List.mem_cons_self),if_neg (by decide)];exact Ht fun x hx=>h x (List.mem_cons_of_mem _ hx)
theorem AQ{n lo hi:Int}(h:lo≤n∧n≤hi):bA n lo hi=0:=by unfold bA;rw[if_neg (by omega),if_neg (by omega)]
theorem Hw:∀{p:Option Int} {l:List Int},(∀n∈l,1≤n∧n≤40)→l.Pairwise (·<·)→(∀q,p=some q→∀n∈l,q<n)→df p l=0
 | _,[],_,_,_=>rfl
 | p,n::l,h,hp,hq=>by
  obtain⟨h1,h2⟩:=List.pairwise_cons.1 hp;have ih:=Hw (p:=some n) (l:=l) (fun x hx=>h x (List.mem_cons_of_mem _ hx)) h2 fun q e x hx=>by cases e;exact h1 x hx
  unfold df;rw[iP (h n List.mem_cons_self),if_neg (by decide),ih];cases p with
  | none=>rfl
  | some q=>
   have:=hq q rfl n List.mem_cons_self;rw[if_neg (by simp;omega)]
theorem C9{r:Ro}:∀{l:List Sg},(∀s∈l,de r s=0)→ib r l=0
 | [],_=>rfl
 | s::l,h=>by
  unfold ib;rw[h s List.mem_cons_self,if_neg (by decide)];exact C9 fun x hx=>h x (List.mem_cons_of_mem _ hx)
theorem EV{x:Ro}{ss:List Sg}{s:Sg}:de {x with ak:=ss} s=de x s:=rfl
theorem yS{x:Ro}{f hs:List Int}{gl:Nat}{ss:List Sg}(h:sF x f hs gl)(h4:gl≤4)(hs:∀s∈ss,de x s=0)(h8:ss.length≤8):dK {x with ak:=ss}=0:=by
 have g1:=h.g1;have g2:=h.g2;have t1:=h.t1;have t3:=h.t3;have p1:=h.p1;have p2:=h.p2;have jX:dq x.samples 2 40=0:=by
  unfold dq;rw[AQ (by omega),if_neg (by decide)];exact Ht fun s hs=>by have:=h.sp s hs;omega
 have iN:c8 x.ai=0:=zG fun g hg=>by
  have:=h.gb g hg;unfold ix;rw[iP (by omega),iP (by omega),if_neg (by simp)];exact LD (by omega)
 have cu:df none x.steps=0:=Hw (fun n hn=>by have:=h.tb n hn;omega) h.OY (fun q e=>by cases e);have IL:(x.aA.all fun n=>bq n 0 99)=true:=List.all_eq_true.2 fun n hn=>iP (by have:=h.du n hn;omega);have oQ:=h.d1;unfold dK;dsimp only;rw[AQ (by omega),if_neg (by decide),iN,if_neg (by decide),AQ (by omega),if_neg (by decide),cu,if_neg (by decide),if_neg (by omega),IL,if_neg (by decide),jX,if_neg (by decide),if_neg (by omega)];exact C9 fun s iA=>hs s iA
theorem ra{x:Ro}{f hs:List Int}{gl:Nat}{ss ts:List Sg}(h:sF x f hs gl)(hr:∀s∈ts,nN x f hs s):aT {x with ak:=ss} ts≠[]:=by
 have:=pU (r:={x with ak:=ss}) (ss:=ts) (f:=f) (cs:=hs) ⟨h.tr.fl,h.tr.fi,h.tr.cl,h.tr.ci⟩ hr;intro e;rw[e] at this;cases this
theorem Fu{x:Ro}{f hs:List Int}{gl:Nat}{ss:List Sg}{s:Sg}(h:sF x f hs gl)(h4:gl≤4)(iO:∀s∈ss,uC x f hs s)(h8:ss.length<8)(hs:uC x f hs s):iD {x with ak:=ss} s=({x with ak:=ss++[s]},0):=by
 unfold iD;rw[yS h h4 (fun s hs=>(iO s hs).e) (by omega),if_neg (by decide)];dsimp only;rw[if_neg (by omega),EV,hs.e,if_neg (by decide),if_neg];rintro⟨_,h2⟩;exact ra h (fun t ht=>by
  rcases List.mem_append.1 ht with ht | ht
  ·exact(iO t ht).r
  ·rw[List.mem_singleton.1 ht];exact hs.r) h2
end Go.Mz
set_option maxRecDepth 100000
namespace Go.Mz
open Go.Conc Go.Proofs
variable {X:ax Tryz.prog}
theorem OJ(J L:LH)(b:Nat)(ad:Option Addr)(cap:Nat)(l:List Int)(n gl:Nat)(h:gp J L b ad cap l n)(hn:n≤900000)(hl:l.length≤140737488355328)(hp:1≤gl)(ZJ:gl≤4):
  Sp X 74 [pt b,.int .i64 gl] L (fun v L'=>∃x f hs p J' m fa fc ha hc,v=.tuple #[qy x p,.slice fa f.length fc,.slice ha hs.length hc]∧sF x f hs gl∧m≤n+100∧Le J J'∧gp J' L' b ad cap l m∧fD J' x p∧aN J' fa f∧aN J' ha hs∧p.a4=none∧p.c4=0):=by
 refine Sp.enter (n:=136) Tryz.func74 rfl rfl rfl rfl fun C hX _ aG r=>?_;refine W.go 99 rfl ?_;refine W.aB rfl rfl rfl (Ef.call rfl (nA 1 gl h (by omega) hl (by omega) (by omega) (by omega))) ?_;rintro _ _ _ ⟨_,rfl,rfl,y,rfl,hy1,Vb,hq⟩;refine W.go 99 rfl ?_;obtain⟨q,rfl⟩:∃q:Nat,y=q:=⟨y.toNat,by omega⟩;refine W.loop (fun w E B L'=>∃(i:Nat) (gs:List Gl) (ff:List Int) (ga fa:Option Addr) (gc fc m:Nat) (og of':Option Nat),w=i∧i+gs.length=q∧ff.length=gs.length∧m≤n+1+7 *gs.length∧(∀g∈gs,0≤g.made∧g.made≤9∧4≤g.cS∧g.cS≤24∧0≤g.bI.lo∧g.bI.lo≤g.bI.hi∧g.bI.hi≤3)∧(∀(i:Nat) (x:Int) (g:Gl),ff[i]?=some x→gs[i]?=some g→eo x g.bI)∧gp J L' b ad cap l m∧
   Gw J L' 4 90 (.slice ga gs.length gc) gs.length (gs.flatMap eY) og∧Gw J L' 1 3 (.slice fa ff.length fc) ff.length (ff.flatMap cj) of'∧
   E=[(0,.v (pt b)),(4,.p 0 0),(7,.p 1 0),(8,.v (.slice fa ff.length fc)),(9,.v (.slice none 0 0)),(10,.v (.int .i64 i))]∧B=[some ⟨nR.z.cells.toList.map .v,48⟩,some ⟨[.v (.slice ga gs.length gc),.v (.slice none 0 0),.v (.slice none 0 0),.v (.slice none 0 0),.v (.slice none 0 0)],48⟩])
  ⟨q,[],[],none,none,0,0,n+1,none,none,rfl,by simp,rfl,by simp,by simp,by simp,hq.h,Gw.nil,Gw.nil,rfl,rfl⟩ (by exact⟨rfl,rfl,rfl,rfl,rfl,rfl,trivial⟩) (by exact⟨rfl,rfl,trivial⟩) ?_
 clear hq;rintro i _ _ L1 ⟨_,gs,ff,ga,fa,gc,fc,m,og,of',rfl,hiq,yo,hm,hgs,hff,hh,Nd,Nc,rfl,rfl⟩ again;refine W.go 99 rfl ?_;refine W.split rfl rfl rfl (fun e1=>?_) (fun e1=>?_)
 ·obtain⟨i,rfl⟩:∃j,i=j+1:=⟨i - 1,by have:(0:Int)<i:=(by simpa using e1);omega⟩;refine W.go 99 rfl ?_;refine W.aB rfl rfl rfl (Ef.call rfl (sG 3 hh (by omega) hl (by omega))) ?_;rintro _ _ _ ⟨_,rfl,rfl,y3,rfl,hy3,hq⟩;have Xf:=Nd.cA hh (by decide) hq.k;have W8:=Nc.cA hh (by decide) hq.k;have fA:=hq.h;clear hq Nd Nc hh;refine W.dv [30] 99 rfl ?_;refine W.cw 29 (.inr ⟨_,_,_,rfl⟩) rfl rfl ?_;intro b1 dN _;refine W.aB rfl rfl rfl (Ef.call rfl (v7 (some ⟨b1,0,none⟩) 4 [0,0,1,(y3:Int)] (fA.put dN _) (wM [0,0,1,(y3:Int)] (aj _ _ _)) (fun a ha=>by cases ha;exact fA.off dN) (by omega) hl (by show 4≤1000000;decide) (by show 1≤4;decide))) ?_;rintro _ _ _ ⟨_,rfl,rfl,z,rfl,hz,hq⟩;have Xg:=(Xf.put dN _).cA (fA.put dN _) (by decide) hq.k;have W9:=(W8.put dN _).cA (fA.put dN _) (by decide) hq.k;have kE:=hq.h;clear hq Xf W8 fA;have Ve:0≤z∧z≤3:=by simp at hz;omega
  refine W.go 99 rfl ?_;refine W.aB rfl rfl rfl (Ef.call rfl (sG 9 kE (by omega) hl (by omega))) ?_;rintro _ _ _ ⟨_,rfl,rfl,y9,rfl,hy9,hq⟩;have Xh:=Xg.cA kE (by decide) hq.k;have Xa:=W9.cA kE (by decide) hq.k;have mC:=hq.h;clear hq Xg W9 kE;refine W.dv [35] 99 rfl ?_;refine W.cw 34 (.inr ⟨_,_,_,rfl⟩) rfl rfl ?_;intro b2 eR _;refine W.aB rfl rfl rfl (Ef.call rfl (v7 (some ⟨b2,0,none⟩) 4 [0,1,3,(y9:Int)] (mC.put eR _) (wM [0,1,3,(y9:Int)] (aj _ _ _)) (fun a ha=>by cases ha;exact mC.off eR) (by omega) hl (by show 4≤1000000;decide) (by show 1≤4;decide))) ?_;rintro _ _ _ ⟨_,rfl,rfl,mk,rfl,QT,hq⟩;have Xi:=(Xh.put eR _).cA (mC.put eR _) (by decide) hq.k;have Xb:=(Xa.put eR _).cA (mC.put eR _) (by decide) hq.k;have qp:=hq.h;clear hq Xh Xa mC;have Xz:0≤mk∧mk≤9:=by simp at QT;omega
  refine W.go 99 rfl ?_;refine W.aB rfl rfl rfl (Ef.call rfl (nA 4 24 qp (by omega) hl (by omega) (by omega) (by omega))) ?_;rintro _ _ _ ⟨_,rfl,rfl,co,rfl,II,abG,hq⟩;have Xj:=Xi.cA qp (by decide) hq.k;have Xc:=Xb.cA qp (by decide) hq.k;have IN:=hq.h;clear hq Xi Xb qp;refine W.dv [42] 99 rfl ?_;refine W.cw 41 (.inr ⟨_,_,_,rfl⟩) rfl rfl ?_;intro b3 tC _;refine W.aB rfl rfl rfl (Ef.call rfl (v7 (some ⟨b3,0,none⟩) 3 [0,1,2] (IN.put tC _) (wM [0,1,2] (aj _ _ _)) (fun a ha=>by cases ha;exact IN.off tC) (by omega) hl (by decide) (by decide))) ?_;rintro _ _ _ ⟨_,rfl,rfl,u,rfl,hu,hq⟩;have QE:=(Xj.put tC _).cA (IN.put tC _) (by decide) hq.k;have Xd:=(Xc.put tC _).cA (IN.put tC _) (by decide) hq.k;have hh6:=hq.h;clear hq Xj Xc IN;have Ns:0≤u∧u≤2:=by simp at hu;omega
  have hw:IntKind.i64.wrap (z+u)=z+u:=wrap64_in _ (by omega) (by omega);refine W.dv [44] 99 rfl ?_;rw[hw];refine W.go 99 rfl ?_;have Gm:z≤(if z+u<3 then z+u else 3)∧(if z+u<3 then z+u else 3)≤3:=by split <;> omega
  generalize(if z+u<3 then z+u else 3)=w at Gm ⊢;refine W.cG (E':=[(0,.v (pt b)),(4,.p 0 0),(7,.p 1 0),(8,.v (.slice fa ff.length fc)),(9,.v (.slice none 0 0)),(10,.v (.int .i64 ((i+1:Nat):Int))),(12,.p 5 0)]) (B':=[some ⟨nR.z.cells.toList.map .v,48⟩,some ⟨[.v (.slice ga gs.length gc),.v (.slice none 0 0),.v (.slice none 0 0),.v (.slice none 0 0),.v (.slice none 0 0)],48⟩,none,none,none,some ⟨(eY ⟨mk,co,⟨z,w⟩⟩).map .v,90⟩]) (by exact⟨rfl,rfl,rfl,rfl,rfl,rfl,rfl,trivial⟩) (by exact⟨rfl,rfl,rfl,rfl,rfl,rfl,trivial⟩) ?_;refine W.drawn (by kernel_rfl) oY (aE _) ?_;refine DD.run' [0,1,2,3,5,6,7,8,9,10,11,12] rfl ?_;refine DD.act 4 rfl rfl rfl rfl rfl (Ef.lX (len:=gs.length) (m:=1) (vs:=eY ⟨mk,co,⟨z,w⟩⟩) rfl rfl rfl rfl rfl rfl rfl rfl rfl (B7 _) QE.o (.own rfl rfl rfl rfl) (by omega)) ((by rintro _ _ _ ⟨_,_,rfl,rfl,_⟩;exact⟨aE _,rfl,.inl rfl⟩)) ?_;rintro _ _ _ ⟨v1,BK,rfl,rfl,qv,iL⟩;obtain⟨ga',gc',rfl,Xk,UO,eL⟩:=ju QE hh6 (by decide) qv iL;have Xe:=Xd.rest eL (by decide);clear qv iL eL QE Xd hh6;refine DD.run' [16] rfl ?_;refine DD.act 13 rfl rfl rfl rfl rfl (Ef.call rfl (nA z w UO (by omega) hl (by omega) (by omega) (by omega))) (by rintro _ _ _ ⟨_,rfl,rfl,_⟩;exact⟨aE _,rfl,.inl rfl⟩) ?_;rintro _ _ _ ⟨_,rfl,rfl,fv,rfl,qn,jT,hq⟩;have Xl:=Xk.cA UO (by decide) hq.k;have QD:=Xe.cA UO (by decide) hq.k;have hh8:=hq.h;clear hq Xk Xe UO;refine DD.run' [14] rfl ?_;refine DD.act 15 rfl rfl rfl rfl rfl (Ef.lX (len:=ff.length) (m:=1) (vs:=cj fv) rfl rfl rfl rfl rfl rfl rfl rfl rfl (iF _) QD.o (.own rfl rfl rfl rfl) (by omega)) ((by rintro _ _ _ ⟨_,_,rfl,rfl,_⟩;exact⟨aE _,rfl,.inl rfl⟩)) ?_;rintro _ _ _ ⟨v2,GY,rfl,rfl,oU,nk⟩;obtain⟨Yz,fc',rfl,abU,hh9,eL⟩:=ju QD hh8 (by decide) oU nk;have abV:=Xl.rest eL (by decide);clear oU nk eL Xl QD hh8;refine DD.act 17 rfl rfl rfl rfl rfl (Ef.ui rfl) (by rintro _ _ _ ⟨rfl,rfl,rfl⟩;exact⟨aE _,rfl,.inr rfl⟩) ?_;rintro _ _ _ ⟨rfl,rfl,rfl⟩;refine DD.run' [18] rfl ?_;refine .fin rfl ?_;refine W.go 99 rfl ?_;have e1:(gs++[(⟨mk,co,⟨z,w⟩⟩:Gl)]).length=gs.length+1:=by simp
  have e2:(ff++[fv]).length=ff.length+1:=by simp
  exact W.again (again i _ _ _ (by omega) ⟨i,gs++[(⟨mk,co,⟨z,w⟩⟩:Gl)],ff++[fv],ga',Yz,gc',fc',_,BK,GY,rfl,by omega,by omega,by omega,fun g hg=>by
   rcases List.mem_append.1 hg with hg | hg
   ·exact hgs g hg
   ·rw[List.mem_singleton.1 hg];exact⟨Xz.1,Xz.2,II,abG,Ve.1,Gm.1,Gm.2⟩,fun j x g hx hg=>by
   by_cases hj:j<gs.length
   ·rw[List.getElem?_append_left (by omega)] at hx;rw[List.getElem?_append_left hj] at hg;exact hff j x g hx hg
   ·have hj2:=(List.getElem?_eq_some_iff.1 hg).1;have yu:j=gs.length:=by omega
    subst yu;rw[List.getElem?_append_right (by omega),yo,Nat.sub_self] at hx;rw[List.getElem?_append_right (by omega),Nat.sub_self] at hg;cases hx;cases hg;exact⟨qn,jT⟩,hh9,abV,abU,rfl,rfl⟩) (by rw[e2];exact⟨rfl,rfl,rfl,rfl,rfl,congrArg (fun z=>some (SV.v (Value.int .i64 z))) (KB (by omega)),trivial⟩) (by rw[e1];exact⟨rfl,rfl,trivial⟩)
 have qq:i=0:=by have:¬(0:Int)<i:=(by simpa using e1);omega
 subst qq;clear again e1;obtain⟨_,hsG,hcG⟩:=Nd.nC hh (by decide) mT;obtain⟨_,hsF,hcF⟩:=Nc.nC hh (by decide) aV;have Uz:=hh.cD;have fA:=hh.all;clear Nd Nc hh;generalize P1:L1.cD b=J1 at hsG hsF Uz fA;clear P1;refine W.go 99 rfl ?_;refine W.aB rfl rfl rfl (Ef.call rfl (nA 2 14 fA (by omega) hl (by omega) (by omega) (by omega))) ?_;rintro _ _ _ ⟨_,rfl,rfl,n0,rfl,BC,El,hq⟩;refine W.go 99 rfl ?_;have kE:=hq.h;clear hq fA;refine W.aB rfl rfl rfl (Ef.call rfl (nA 1 3 kE (by omega) hl (by omega) (by omega) (by omega))) ?_;rintro _ _ _ ⟨_,rfl,rfl,y,rfl,hy3,hy4,hq⟩;refine W.go 99 rfl ?_;have mC:=hq.h;clear hq kE;obtain⟨q2,rfl⟩:∃q:Nat,y=q:=⟨y.toNat,by omega⟩;refine W.loop (fun w E B L'=>∃(i:Nat) (st:List Int) (nx:Int) (sa:Option Addr) (sc m2:Nat) (os:Option Nat),w=i∧i+st.length=q2∧m2≤m+2+st.length∧(∀s∈st,2≤s∧s<nx)∧st.Pairwise (·<·)∧2≤nx∧nx≤14+6 * (st.length:Int)∧(∀s∈st,s≤26)∧gp J1 L' b ad cap l m2∧
   Gw J1 L' 1 3 (.slice sa st.length sc) st.length (st.flatMap cj) os∧
   E=[(0,.v (pt b)),(4,.p 0 0),(7,.p 1 0),(8,.v (.slice fa ff.length fc)),(9,.v (.slice none 0 0)),(13,.v (.int .i64 nx)),(14,.v (.int .i64 i))]∧B=[some ⟨nR.z.cells.toList.map .v,48⟩,some ⟨[.v (.slice ga gs.length gc),.v (.slice sa st.length sc),.v (.slice none 0 0),.v (.slice none 0 0),.v (.slice none 0 0)],48⟩])
  ⟨q2,[],n0,none,0,_,none,rfl,by simp,by simp,by simp,by simp,BC,by simpa using El,by simp,mC,Gw.nil,rfl,rfl⟩ (by exact⟨rfl,rfl,rfl,rfl,rfl,rfl,rfl,trivial⟩) (by exact⟨rfl,rfl,trivial⟩) ?_
 clear mC;rintro i _ _ L2 ⟨_,st,nx,sa,sc,m2,os,rfl,adM,BB,cu,hpw,qx,adR,Re,hh,Bz,rfl,rfl⟩ again;refine W.go 99 rfl ?_;refine W.split rfl rfl rfl (fun e1=>?_) (fun e1=>?_)
 ·obtain⟨i,rfl⟩:∃j,i=j+1:=⟨i - 1,by have:(0:Int)<i:=(by simpa using e1);omega⟩;refine W.go 99 rfl ?_;refine W.aB rfl rfl rfl (Ef.lX (len:=st.length) (m:=1) (vs:=cj nx) rfl rfl rfl rfl rfl rfl rfl rfl rfl (iF _) Bz.o (.own rfl rfl rfl rfl) (by omega)) ?_;rintro _ _ _ ⟨v1,BK,rfl,rfl,qv,iL⟩;obtain⟨sa',sc',rfl,Xt,fA,_⟩:=ju Bz hh (by decide) qv iL;clear qv iL Bz hh;refine W.go 99 rfl ?_;refine W.aB rfl rfl rfl (Ef.call rfl (nA 1 6 fA (by omega) hl (by omega) (by omega) (by omega))) ?_;rintro _ _ _ ⟨_,rfl,rfl,u,rfl,Rj,hu6,hq⟩;have Gf:=Xt.cA fA (by decide) hq.k;have kE:=hq.h;clear hq Xt fA;have hw:IntKind.i64.wrap (nx+u)=nx+u:=wrap64_in _ (by omega) (by omega);refine W.go 99 rfl ?_;have e2:(st++[nx]).length=st.length+1:=by simp
  exact W.again (again i _ _ _ (by omega) ⟨i,st++[nx],nx+u,sa',sc',_,BK,rfl,by omega,by omega,fun s hs=>by
   rcases List.mem_append.1 hs with hs | hs
   ·have:=cu s hs;omega
   ·rw[List.mem_singleton.1 hs];omega,List.pairwise_append.2 ⟨hpw,List.pairwise_singleton ..,fun a ha c hc=>by rw[List.mem_singleton.1 hc];exact(cu a ha).2⟩,by omega,by omega,fun s hs=>by
   rcases List.mem_append.1 hs with hs | hs
   ·exact Re s hs
   ·rw[List.mem_singleton.1 hs];omega,kE,Gf,rfl,rfl⟩) (by exact⟨rfl,rfl,rfl,rfl,rfl,congrArg (fun z=>some (SV.v (Value.int .i64 z))) hw,congrArg (fun z=>some (SV.v (Value.int .i64 z))) (KB (by omega)),trivial⟩) (by rw[e2];exact⟨rfl,rfl,trivial⟩)
 have qq:i=0:=by have:¬(0:Int)<i:=(by simpa using e1);omega
 subst qq;clear again e1;obtain⟨_,U1,hcS⟩:=Bz.nC hh (by decide) aV;have yh:=hh.cD;have fA:=hh.all;clear Bz hh;generalize P1:L2.cD b=J2 at U1 yh fA;clear P1;refine W.go 99 rfl ?_;refine W.loop (fun w E B L'=>∃(i:Nat) (du:List Int) (da:Option Addr) (dc m3:Nat) (od:Option Nat),w=st.length+1 - i∧i≤st.length+1∧du.length=i∧m3≤m2+2 *i∧(∀d∈du,0≤d∧d≤9)∧gp J2 L' b ad cap l m3∧
   Gw J2 L' 1 3 (.slice da du.length dc) du.length (du.flatMap cj) od∧
   E=[(0,.v (pt b)),(4,.p 0 0),(7,.p 1 0),(8,.v (.slice fa ff.length fc)),(9,.v (.slice none 0 0)),(15,.v (.int .i64 i))]∧B=[some ⟨nR.z.cells.toList.map .v,48⟩,some ⟨[.v (.slice ga gs.length gc),.v (.slice sa st.length sc),.v (.slice da du.length dc),.v (.slice none 0 0),.v (.slice none 0 0)],48⟩])
  ⟨0,[],none,0,m2,none,rfl,by omega,rfl,by omega,by simp,fA,Gw.nil,rfl,rfl⟩ (by exact⟨rfl,rfl,rfl,rfl,rfl,rfl,trivial⟩) (by exact⟨rfl,rfl,trivial⟩) ?_
 clear fA;rintro _ _ _ L3 ⟨i,du,da,dc,m3,od,rfl,hi,kQ,l5,IL,hh,jU,rfl,rfl⟩ again;refine W.go 99 rfl ?_;refine W.split rfl rfl rfl (fun e1=>?_) (fun e1=>?_)
 ·have hi:i≤st.length:=by have:=of_decide_eq_true e1;omega
  have jY:IntKind.i64.wrap (2 * (i:Int))=2 * (i:Int):=wrap64_in _ (by omega) (by omega);have I2:IntKind.i64.wrap (2 * (i:Int)+1)=2 * (i:Int)+1:=wrap64_in _ (by omega) (by omega);refine W.go 99 rfl ?_;refine W.drawn (by kernel_rfl) oY (aE _) ?_;refine DD.run' [0,1,2,3,4,5,6,7] rfl ?_;rw[jY,I2];refine DD.act 8 rfl rfl rfl rfl rfl (Ef.call rfl (sG 9 hh (by omega) hl (by omega))) (by rintro _ _ _ ⟨_,rfl,rfl,_⟩;exact⟨aE _,rfl,.inl rfl⟩) ?_;rintro _ _ _ ⟨_,rfl,rfl,y9,rfl,hy9,hq⟩;have W7:=jU.cA hh (by decide) hq.k;have fA:=hq.h;clear hq jU hh;refine DD.run' [9] rfl ?_;refine DD.act 10 rfl rfl rfl rfl rfl (Ef.cw 98 (.inr ⟨_,_,_,rfl⟩) rfl rfl (fun b9 tE _=>Ef.call rfl (v7 (some ⟨b9,0,none⟩) 3 [(i:Int),2 * (i:Int)+1,(y9:Int)] (fA.put tE _) (wM [(i:Int),2 * (i:Int)+1,(y9:Int)] (aj _ _ _)) (fun a ha=>by cases ha;exact fA.off tE) (by omega) hl (by show 3≤1000000;decide) (by show 1≤3;decide)))) (by rintro _ _ _ ⟨_,_,_,_,rfl,rfl,_⟩;exact⟨aE _,rfl,.inl rfl⟩) ?_;rintro _ _ _ ⟨b9,tE,_,_,rfl,rfl,z,rfl,hz,hq⟩;have QB:=(W7.put tE _).cA (fA.put tE _) (by decide) hq.k;have kE:=hq.h;clear hq W7;have Ve:0≤z∧z≤9:=by simp at hz;omega
  refine DD.run' [11] rfl ?_;refine DD.act 12 rfl rfl rfl rfl rfl (Ef.lX (len:=du.length) (m:=1) (vs:=cj z) rfl rfl rfl rfl rfl rfl rfl rfl rfl (iF _) QB.o (.own rfl rfl rfl rfl) (by omega)) ((by rintro _ _ _ ⟨_,_,rfl,rfl,_⟩;exact⟨aE _,rfl,.inl rfl⟩)) ?_;rintro _ _ _ ⟨v2,GY,rfl,rfl,oU,nk⟩;obtain⟨da',dc',rfl,abT,mC,_⟩:=ju QB kE (by decide) oU nk;clear QB kE fA oU nk;refine DD.run' [13] rfl ?_;refine DD.act 14 rfl rfl rfl rfl rfl (Ef.ui rfl) (by rintro _ _ _ ⟨rfl,rfl,rfl⟩;exact⟨aE _,rfl,.inr rfl⟩) ?_;rintro _ _ _ ⟨rfl,rfl,rfl⟩;refine .fin rfl ?_;refine W.go 99 rfl ?_;have e2:(du++[z]).length=du.length+1:=by simp
  exact W.again (again _ _ _ _ (by omega) ⟨i+1,du++[z],da',dc',_,GY,rfl,by omega,by omega,by omega,fun s hs=>by
   rcases List.mem_append.1 hs with hs | hs
   ·exact IL s hs
   ·rw[List.mem_singleton.1 hs];exact Ve,mC,abT,rfl,rfl⟩) (by exact⟨rfl,rfl,rfl,rfl,rfl,congrArg some (bu (by omega)),trivial⟩) (by rw[e2];exact⟨rfl,rfl,trivial⟩)
 have iZ:i=st.length+1:=by have:=of_decide_eq_false e1;omega
 clear again e1 hi;obtain⟨_,hsD,hcD⟩:=jU.nC hh (by decide) aV;have PZ:=hh.cD;have fA:=hh.all;clear jU hh;generalize P1:L3.cD b=J3 at hsD PZ fA;clear P1;refine W.go 99 rfl ?_;refine W.aB rfl rfl rfl (Ef.call rfl (nA 1 2 fA (by omega) hl (by omega) (by omega) (by omega))) ?_;rintro _ _ _ ⟨_,rfl,rfl,y,rfl,hy5,hy6,hq⟩;refine W.go 99 rfl ?_;have kE:=hq.h;clear hq fA;obtain⟨q4,rfl⟩:∃q:Nat,y=q:=⟨y.toNat,by omega⟩;refine W.loop (fun w E B L'=>∃(i:Nat) (ss:List bV) (hs:List Int) (ya ha:Option Addr) (yc hc m4:Nat) (os oh:Option Nat),w=i∧i+ss.length=q4∧hs.length=ss.length∧m4≤m3+1+3 *ss.length∧(∀s∈ss,0≤s.lo∧s.lo≤s.hi∧s.hi≤24)∧(∀(i:Nat) (x:Int) (s:bV),hs[i]?=some x→ss[i]?=some s→eo x s)∧gp J3 L' b ad cap l m4∧
   Gw J3 L' 2 88 (.slice ya ss.length yc) ss.length (ss.flatMap di) os∧Gw J3 L' 1 3 (.slice ha hs.length hc) hs.length (hs.flatMap cj) oh∧
   E=[(0,.v (pt b)),(4,.p 0 0),(7,.p 1 0),(8,.v (.slice fa ff.length fc)),(9,.v (.slice ha hs.length hc)),(16,.v (.int .i64 i))]∧B=[some ⟨nR.z.cells.toList.map .v,48⟩,some ⟨[.v (.slice ga gs.length gc),.v (.slice sa st.length sc),.v (.slice da du.length dc),.v (.slice ya ss.length yc),.v (.slice none 0 0)],48⟩])
  ⟨q4,[],[],none,none,0,0,_,none,none,rfl,by simp,rfl,by simp,by simp,by simp,kE,Gw.nil,Gw.nil,rfl,rfl⟩ (by exact⟨rfl,rfl,rfl,rfl,rfl,rfl,trivial⟩) (by exact⟨rfl,rfl,trivial⟩) ?_
 clear kE;rintro i4 _ _ L4 ⟨_,ss,hs,ya,ha,yc,hc,m4,os,oh,rfl,hi4,hhl,hm4,iO,Ei,hh,QH,Zo,rfl,rfl⟩ again;refine W.go 99 rfl ?_;refine W.split rfl rfl rfl (fun e1=>?_) (fun e1=>?_)
 ·obtain⟨i4,rfl⟩:∃j,i4=j+1:=⟨i4 - 1,by have:(0:Int)<i4:=(by simpa using e1);omega⟩;refine W.go 99 rfl ?_;refine W.aB rfl rfl rfl (Ef.call rfl (sG 16 hh (by omega) hl (by omega))) ?_;rintro _ _ _ ⟨_,rfl,rfl,y3,rfl,adS,hq⟩;have Xq:=QH.cA hh (by decide) hq.k;have Xm:=Zo.cA hh (by decide) hq.k;have fA:=hq.h;clear hq QH Zo hh;refine W.dv [115] 99 rfl ?_;refine W.cw 114 (.inr ⟨_,_,_,rfl⟩) rfl rfl ?_;intro b1 dN _;refine W.aB rfl rfl rfl (Ef.call rfl (v7 (some ⟨b1,0,none⟩) 4 [0,2,5,8] (fA.put dN _) (wM [0,2,5,8] (aj _ _ _)) (fun a ha=>by cases ha;exact fA.off dN) (by omega) hl (by decide) (by decide))) ?_;rintro _ _ _ ⟨_,rfl,rfl,u,rfl,hu,hq⟩;have QI:=(Xq.put dN _).cA (fA.put dN _) (by decide) hq.k;have Xn:=(Xm.put dN _).cA (fA.put dN _) (by decide) hq.k;have kE:=hq.h;clear hq Xq Xm fA;have Ns:0≤u∧u≤8:=by simp at hu;omega
  have hw:IntKind.i64.wrap ((y3:Int)+u)=(y3:Int)+u:=wrap64_in _ (by omega) (by omega);refine W.dv [117] 99 rfl ?_;rw[hw];refine W.go 99 rfl ?_;refine W.cG (E':=[(0,.v (pt b)),(4,.p 0 0),(7,.p 1 0),(8,.v (.slice fa ff.length fc)),(9,.v (.slice ha hs.length hc)),(16,.v (.int .i64 ((i4+1:Nat):Int))),(18,.p 3 0)]) (B':=[some ⟨nR.z.cells.toList.map .v,48⟩,some ⟨[.v (.slice ga gs.length gc),.v (.slice sa st.length sc),.v (.slice da du.length dc),.v (.slice ya ss.length yc),.v (.slice none 0 0)],48⟩,none,some ⟨(di ⟨(y3:Int),(y3:Int)+u⟩).map .v,88⟩]) (by exact⟨rfl,rfl,rfl,rfl,rfl,rfl,rfl,trivial⟩) (by exact⟨rfl,rfl,rfl,rfl,trivial⟩) ?_;refine W.drawn (by kernel_rfl) oY (aE _) ?_;refine DD.run' [0,1,2,3,5,6,7,8,9,10] rfl ?_;refine DD.act 4 rfl rfl rfl rfl rfl (Ef.lX (len:=ss.length) (m:=1) (vs:=di ⟨(y3:Int),(y3:Int)+u⟩) rfl rfl rfl rfl rfl rfl rfl rfl rfl (oJ _) QI.o (.own rfl rfl rfl rfl) (by omega)) ((by rintro _ _ _ ⟨_,_,rfl,rfl,_⟩;exact⟨aE _,rfl,.inl rfl⟩)) ?_;rintro _ _ _ ⟨v1,BK,rfl,rfl,qv,iL⟩;obtain⟨ya',yc',rfl,Xr,mC,eL⟩:=ju QI kE (by decide) qv iL;have Xo:=Xn.rest eL (by decide);clear qv iL eL QI Xn kE;refine DD.run' [14] rfl ?_;refine DD.act 11 rfl rfl rfl rfl rfl (Ef.call rfl (nA (y3:Int) ((y3:Int)+u) mC (by omega) hl (by omega) (by omega) (by omega))) (by rintro _ _ _ ⟨_,rfl,rfl,_⟩;exact⟨aE _,rfl,.inl rfl⟩) ?_;rintro _ _ _ ⟨_,rfl,rfl,fv,rfl,qn,jT,hq⟩;have Xs:=Xr.cA mC (by decide) hq.k;have QF:=Xo.cA mC (by decide) hq.k;have qp:=hq.h;clear hq Xr Xo mC;refine DD.run' [12] rfl ?_;refine DD.act 13 rfl rfl rfl rfl rfl (Ef.lX (len:=hs.length) (m:=1) (vs:=cj fv) rfl rfl rfl rfl rfl rfl rfl rfl rfl (iF _) QF.o (.own rfl rfl rfl rfl) (by omega)) ((by rintro _ _ _ ⟨_,_,rfl,rfl,_⟩;exact⟨aE _,rfl,.inl rfl⟩)) ?_;rintro _ _ _ ⟨v2,GY,rfl,rfl,oU,nk⟩;obtain⟨u7,Eb,rfl,abW,IN,eL⟩:=ju QF qp (by decide) oU nk;have ab0:=Xs.rest eL (by decide);clear oU nk eL Xs QF qp;refine DD.act 15 rfl rfl rfl rfl rfl (Ef.ui rfl) (by rintro _ _ _ ⟨rfl,rfl,rfl⟩;exact⟨aE _,rfl,.inr rfl⟩) ?_;rintro _ _ _ ⟨rfl,rfl,rfl⟩;refine DD.run' [16] rfl ?_;refine .fin rfl ?_;refine W.go 99 rfl ?_;have e1:(ss++[(⟨(y3:Int),(y3:Int)+u⟩:bV)]).length=ss.length+1:=by simp
  have e2:(hs++[fv]).length=hs.length+1:=by simp
  exact W.again (again i4 _ _ _ (by omega) ⟨i4,ss++[(⟨(y3:Int),(y3:Int)+u⟩:bV)],hs++[fv],ya',u7,yc',Eb,_,BK,GY,rfl,by omega,by omega,by omega,fun g hg=>by
   rcases List.mem_append.1 hg with hg | hg
   ·exact iO g hg
   ·rw[List.mem_singleton.1 hg];show 0≤(y3:Int)∧(y3:Int)≤(y3:Int)+u∧(y3:Int)+u≤24;omega,fun j x g hx hg=>by
   by_cases hj:j<ss.length
   ·rw[List.getElem?_append_left (by omega)] at hx;rw[List.getElem?_append_left hj] at hg;exact Ei j x g hx hg
   ·have hj2:=(List.getElem?_eq_some_iff.1 hg).1;have yu:j=ss.length:=by omega
    subst yu;rw[List.getElem?_append_right (by omega),hhl,Nat.sub_self] at hx;rw[List.getElem?_append_right (by omega),Nat.sub_self] at hg;cases hx;cases hg;exact⟨qn,jT⟩,IN,ab0,abW,rfl,rfl⟩) (by rw[e2];exact⟨rfl,rfl,rfl,rfl,rfl,congrArg (fun z=>some (SV.v (Value.int .i64 z))) (KB (by omega)),trivial⟩) (by rw[e1];exact⟨rfl,rfl,trivial⟩)
 have qq:i4=0:=by have:¬(0:Int)<i4:=(by simpa using e1);omega
 subst qq;clear again e1;obtain⟨_,hsY,hcY⟩:=QH.nC hh (by decide) gQ;obtain⟨_,hsH,hcH⟩:=Zo.nC hh (by decide) aV;have P0:=hh.cD;have fA:=hh.all;refine W.go 99 rfl ?_;refine W.ret r rfl rfl ?_;refine⟨⟨gs,st,du,ss,[]⟩,ff,hs,⟨ga,sa,da,ya,none,gc,sc,dc,yc,0⟩,L4.cD b,m4,fa,fc,ha,hc,rfl,⟨by show 1≤gs.length;omega,by show gs.length≤gl;omega,hgs,by show 1≤st.length;omega,by show st.length≤3;omega,fun s hs=>⟨(cu s hs).1,by have:=Re s hs;omega⟩,hpw,by show du.length=st.length+1;omega,IL,by show 1≤ss.length;omega,by show ss.length≤2;omega,iO,rfl,⟨yo,hff,hhl,Ei⟩⟩,by omega,Uz.trans (yh.trans (PZ.trans P0)),fA,?_,hsF.le (yh.trans (PZ.trans P0)),hsH,rfl,rfl⟩;exact⟨hsG.le (yh.trans (PZ.trans P0)),U1.le (PZ.trans P0),hsD.le P0,hsY,Hr,by show gs.length≤1000000;omega,by show st.length≤1000000;omega,by show du.length≤1000000;omega,by show ss.length≤1000000;omega,by show 0≤1000000;decide,Nat.le_refl _⟩
theorem y2(c g:Int)(L:LH):Sp X 45 [.int .i64 c,.int .i64 g] L (fun v L'=>v=.int .i64 (eJ c g)∧L=L'):=by
 by_cases h1:g<c
 ·have e:eJ c g=0:=by unfold eJ;rw[if_pos h1]
  rw[e];refine Sp.enter (n:=11) Tryz.func45 rfl rfl rfl rfl fun C hX _ aG r=>?_;refine W.go 99 rfl ?_;rw[decide_eq_true h1];refine W.split rfl rfl rfl (fun c=>?_) (fun c=>absurd c (by decide));refine W.go 99 rfl ?_;exact W.ret r rfl rfl ⟨rfl,rfl⟩
 ·by_cases h2:c<g
  ·have e:eJ c g=2:=by unfold eJ;rw[if_neg h1,if_pos h2]
   rw[e];refine Sp.enter (n:=11) Tryz.func45 rfl rfl rfl rfl fun C hX _ aG r=>?_;refine W.go 99 rfl ?_;rw[decide_eq_false h1];refine W.split rfl rfl rfl (fun c=>absurd c (by decide)) (fun c=>?_);refine W.go 99 rfl ?_;refine W.split rfl rfl rfl (fun h=>absurd h (by simp;omega)) (fun _=>?_);refine W.go 99 rfl ?_;exact W.ret r rfl rfl ⟨rfl,rfl⟩
  ·have e:eJ c g=1:=by unfold eJ;rw[if_neg h1,if_neg h2]
   rw[e];refine Sp.enter (n:=11) Tryz.func45 rfl rfl rfl rfl fun C hX _ aG r=>?_;refine W.go 99 rfl ?_;rw[decide_eq_false h1];refine W.split rfl rfl rfl (fun c=>absurd c (by decide)) (fun c=>?_);refine W.go 99 rfl ?_;refine W.split rfl rfl rfl (fun _=>?_) (fun h=>absurd h (by simp;omega));refine W.go 99 rfl ?_;exact W.ret r rfl rfl ⟨rfl,rfl⟩
theorem y4(g:Gl)(f y:Int)(L:LH)(hf:0≤f∧f≤3)(hg:0≤g.made∧g.made≤60∧0≤g.cS∧g.cS≤40)(hy:0≤y∧y≤60):Sp X 46 [.agg (eY g).toArray,.int .i64 f,.int .i64 y] L (fun v L'=>v=.int .i64 (max 0 (g.cS - f * (y - g.made)))∧L=L'):=by
 have e1:IntKind.i64.wrap (y - g.made)=y - g.made:=wrap64_in _ (by omega) (by omega);have hb:-1000≤f * (y - g.made)∧f * (y - g.made)≤1000:=by
  have h1:f=0∨f=1∨f=2∨f=3:=by omega
  rcases h1 with e | e | e | e <;> rw[e] <;> omega
 have e2:IntKind.i64.wrap (f * (y - g.made))=f * (y - g.made):=wrap64_in _ (by omega) (by omega);have e3:IntKind.i64.wrap (g.cS - f * (y - g.made))=g.cS - f * (y - g.made):=wrap64_in _ (by omega) (by omega);refine Sp.enter (n:=17) Tryz.func46 rfl rfl rfl rfl fun C hX _ aG r=>?_;refine W.dv [16] 99 rfl ?_;rw[e1,e2,e3];refine W.go 99 rfl ?_;refine W.ret r rfl rfl ?_;refine⟨congrArg (Value.int .i64) ?_,rfl⟩;show(if 0<_ then _ else _)=_
 split <;> omega
theorem HR(x:Ro)(p:BP)(c:Int)(L:LH)(h:aN L p.a1 x.steps)(hn:x.steps.length≤1000):Sp X 47 [qy x p,.int .i64 c] L (fun v L'=>v=.int .i64 (bT x c)∧L=L'):=by
 obtain⟨a0,a1,a2,a3,a4,k0,k1,k2,k3,k4⟩:=p;refine Sp.enter (n:=24) Tryz.func47 rfl rfl rfl rfl fun C hX _ aG r=>?_;refine W.go 99 rfl ?_;refine W.loop (fun m' E B L'=>∃i:Nat,m'=x.steps.length - i∧i≤x.steps.length∧L=L'∧E=[(1,.v (.int .i64 c)),(2,.p 0 0),(5,.v (.int .i64 (((x.steps.take i).countP fun s=>decide (s≤c):Nat):Int))),(6,.v (.int .i64 i))]∧B=[some ⟨(fT x ⟨a0,a1,a2,a3,a4,k0,k1,k2,k3,k4⟩).map .v,48⟩])
  ⟨0,rfl,by omega,rfl,rfl,rfl⟩ (by exact⟨rfl,rfl,rfl,rfl,trivial⟩) (by exact⟨rfl,trivial⟩) ?_
 rintro _ _ _ _ ⟨i,rfl,hi,rfl,rfl,rfl⟩ again;have jR:(x.steps.take i).countP (fun s=>decide (s≤c))≤i:=Nat.le_trans List.countP_le_length (by rw[List.length_take];omega);refine W.go 99 rfl ?_;refine W.split rfl rfl rfl (fun e1=>W.go 99 rfl ?_) (fun e1=>W.go 99 rfl ?_)
 ·have fB:i<x.steps.length:=by have:=of_decide_eq_true e1;omega
  have hx:=List.getElem?_eq_getElem fB;have eI:x.steps.take (i+1)=x.steps.take i++[x.steps[i]]:=List.take_succ_eq_append_getElem fB;obtain⟨a,ha⟩:=h.addr fB;obtain rfl:a1=some a:=ha;have qu:=aX.int (show aN L (some a) x.steps from h) hx;generalize x.steps[i]=s at hx eI qu;refine W.vf rfl rfl rfl rfl (Vf.aW rfl rfl rfl rfl rfl rfl rfl (fB)) ?_;refine W.go 99 rfl ?_;refine W.vf rfl rfl rfl rfl (Vf.load rfl rfl rfl (qu)) ?_;refine W.go 99 rfl ?_
  by_cases hs:s≤c
  ·have Ec:(x.steps.take (i+1)).countP (fun s=>decide (s≤c))=(x.steps.take i).countP (fun s=>decide (s≤c))+1:=by rw[eI,List.countP_append];simp[hs]
   rw[decide_eq_true hs];refine W.split rfl rfl rfl (fun c=>?_) (fun c=>absurd c (by decide));refine W.go 99 rfl ?_;exact W.again (again _ _ _ _ (by omega) ⟨i+1,rfl,fB,rfl,rfl,rfl⟩) ⟨rfl,rfl,(by rw[Ec];exact congrArg some (bu (by omega))),congrArg some (bu (by omega)),trivial⟩ ⟨rfl,trivial⟩
  ·have Ec:(x.steps.take (i+1)).countP (fun s=>decide (s≤c))=(x.steps.take i).countP (fun s=>decide (s≤c)):=by rw[eI,List.countP_append];simp[hs]
   rw[decide_eq_false hs];refine W.split rfl rfl rfl (fun c=>absurd c (by decide)) (fun c=>?_);refine W.go 99 rfl ?_;exact W.again (again _ _ _ _ (by omega) ⟨i+1,rfl,fB,rfl,rfl,rfl⟩) ⟨rfl,rfl,(by rw[Ec];rfl),congrArg some (bu (by omega)),trivial⟩ ⟨rfl,trivial⟩
 ·have iZ:i=x.steps.length:=by have:=of_decide_eq_false e1;omega
  subst iZ;refine W.ret r rfl rfl ?_;rw[List.take_length];exact⟨rfl,rfl⟩
section
variable {J L L':LH}{b:Nat}{ad:Option Addr}{cap:Nat}{l:List Int}{n k:Nat}{e:TypeId}{v:Value}{len:Nat}{cs:List Value}{ob:Option Nat}
theorem Gw.on(h:Gw J L k e v len cs ob)(hh:gp J L b ad cap l n)(he:e≠96)(hk:∀y x,y≠b→L y=some x→L' y=some x):Gw J L' k e v len cs ob:=
 ⟨h.o.keep fun o ho=>by
  obtain⟨c,g⟩:=h.o.ty ho;rw[g];refine hk o _ (fun e'=>?_) g;obtain⟨sd,g2⟩:=hh.blk;subst e';rw[g] at g2;cases g2;exact he rfl,h.j⟩
end
theorem H6(J L:LH)(b:Nat)(ad:Option Addr)(cap:Nat)(l:List Int)(n gl:Nat)(x x0:Ro)(p:BP)(f hs:List Int)(fa ha:Option Addr)(fc hc:Nat)(h:gp J L b ad cap l n)(hx:fD J x p)(hn:n≤900000)(hl:l.length≤140737488355328)(hm:sF x0 f hs gl)(yp:gl≤4)(Gz:x={x0 with ak:=x.ak})(F9:aN J fa f)(Gg:aN J ha hs):
  Sp X 82 [pt b,qy x p,.slice fa f.length fc,.slice ha hs.length hc] L (fun v L'=>∃s,v=.agg (fE s).toArray∧uC x0 f hs s∧gp J L' b ad cap l (n+4)∧∀y o,y≠b→L y=some o→L' y=some o):=by
 obtain⟨p0,p1,p2,p3,p4,c0,c1,c2,c3,c4⟩:=p;have g1:=hm.g1;have g2:=hm.g2;have EF:=hm.p1;have NO:=hm.p2;have exg:x.ai=x0.ai:=by rw[Gz]
 have exs:x.samples=x0.samples:=by rw[Gz]
 have egl:x.ai.length=x0.ai.length:=by rw[exg]
 have esl:x.samples.length=x0.samples.length:=by rw[exs]
 have w1:IntKind.i64.wrap ((x.samples.length:Int) - 1)=((x0.samples.length - 1:Nat):Int):=by rw[wrap64_in _ (by omega) (by omega)];omega
 have w2:IntKind.i64.wrap ((x.ai.length:Int) - 1)=((x0.ai.length - 1:Nat):Int):=by rw[wrap64_in _ (by omega) (by omega)];omega
 have hga:aX J p0 4 eY x0.ai:=exg▸hx.h0;refine Sp.enter (n:=56) Tryz.func82 rfl rfl rfl rfl fun C hX _ aG r=>?_;refine W.go 99 rfl ?_;refine W.drawn (by kernel_rfl) oY (aE _) ?_;refine DD.run' [0,1,2,3,4,6,7,8,9,10,13] rfl ?_;rw[w1,w2];refine DD.act 5 rfl rfl rfl rfl rfl (Ef.call rfl (sG (x0.samples.length - 1) h (by omega) hl (by omega))) (by rintro _ _ _ ⟨_,rfl,rfl,_⟩;exact⟨aE _,rfl,.inl rfl⟩) ?_;rintro _ _ _ ⟨_,rfl,rfl,sm,rfl,kT,hq⟩;have fA:=hq.h;have lK:=hq.k;clear hq;refine DD.act 11 rfl rfl rfl rfl rfl (Ef.call rfl (sG (x0.ai.length - 1) fA (by omega) hl (by omega))) (by rintro _ _ _ ⟨_,rfl,rfl,_⟩;exact⟨aE _,rfl,.inl rfl⟩) ?_;rintro _ _ _ ⟨_,rfl,rfl,gi,rfl,lI,hq⟩;have kE:=hq.h;have tL:=hq.k;clear hq fA;refine DD.run' [12] rfl ?_;refine DD.act 14 rfl rfl rfl rfl rfl (Ef.ui rfl) (by rintro _ _ _ ⟨rfl,rfl,rfl⟩;exact⟨aE _,rfl,.inl rfl⟩) ?_;rintro _ _ _ ⟨rfl,rfl,rfl⟩;refine .fin rfl ?_;have iN:gi<x0.ai.length:=by omega
 have sA:sm<x0.samples.length:=by omega
 refine W.cG (E':=[(0,.v (pt b)),(2,.v (.slice fa f.length fc)),(3,.v (.slice ha hs.length hc)),(5,.p 0 0),(8,.p 1 0),(9,.p 2 0)]) (B':=[some ⟨(fT x ⟨p0,p1,p2,p3,p4,c0,c1,c2,c3,c4⟩).map .v,48⟩,some ⟨A2.z.cells.toList.map .v,126⟩,some ⟨[.v (.int .i64 sm),.v (.int .i64 gi),.v (.int .i64 0),.v (.int .i64 0)],126⟩]) (by exact⟨rfl,rfl,rfl,rfl,rfl,rfl,trivial⟩) (by exact⟨rfl,rfl,rfl,trivial⟩) ?_;obtain⟨a,Y0⟩:=hga.addr iN;subst Y0;have yq:=List.getElem?_eq_getElem iN;have QA:=hm.gb _ (List.getElem_mem iN);have jU:x0.ai.getD gi ⟨0,0,⟨0,0⟩⟩=x0.ai[gi]:=by rw[List.getD_eq_getElem?_getD,yq];rfl
 have Eh:f[gi]?=some (f.getD gi 0):=by rw[List.getD_eq_getElem?_getD,List.getElem?_eq_getElem (show gi<f.length by have:=hm.tr.fl;omega)];rfl
 have vd:hs[sm]?=some (hs.getD sm 0):=by rw[List.getD_eq_getElem?_getD,List.getElem?_eq_getElem (show sm<hs.length by have:=hm.tr.cl;omega)];rfl
 have Qw:0≤f.getD gi 0∧f.getD gi 0≤3:=by
  have:=hm.tr.fi gi _ _ Eh yq;unfold eo at this;omega
 have zQ:=hga.whole yq rfl;generalize x0.ai[gi]=g at yq QA jU zQ;refine W.go 99 rfl ?_;refine W.vf rfl rfl rfl rfl (Vf.idx rfl rfl rfl rfl rfl rfl ((show gi<x.ai.length by omega))) ?_;refine W.go 99 rfl ?_;refine W.vf rfl rfl rfl rfl (Vf.cO rfl rfl rfl (kE.le.cH zQ)) ?_;refine W.go 99 rfl ?_;obtain⟨af,rfl⟩:=F9.addr (List.getElem?_eq_some_iff.1 Eh).1;obtain⟨ah,rfl⟩:=Gg.addr (List.getElem?_eq_some_iff.1 vd).1;refine W.cG (E':=[(0,.v (pt b)),(2,.v (.slice (some af) f.length fc)),(3,.v (.slice (some ah) hs.length hc)),(8,.p 1 0),(9,.p 2 0),(10,.p 3 0)]) (B':=[some ⟨(fT x ⟨some a,p1,p2,p3,p4,c0,c1,c2,c3,c4⟩).map .v,48⟩,some ⟨A2.z.cells.toList.map .v,126⟩,some ⟨[.v (.int .i64 sm),.v (.int .i64 gi),.v (.int .i64 0),.v (.int .i64 0)],126⟩,some ⟨(eY g).map .v,90⟩]) (by exact⟨rfl,rfl,rfl,rfl,rfl,rfl,trivial⟩) (by exact⟨rfl,rfl,rfl,rfl,trivial⟩) ?_;refine W.drawn (by kernel_rfl) oY (aE _) ?_;refine DD.run' [0,1,2,3] rfl ?_;refine DD.act 4 rfl rfl rfl rfl rfl (Ef.call rfl (sG 9 kE (by omega) hl (by omega))) (by rintro _ _ _ ⟨_,rfl,rfl,_⟩;exact⟨aE _,rfl,.inl rfl⟩) ?_;rintro _ _ _ ⟨_,rfl,rfl,y9,rfl,hy9,hq⟩;have mC:=hq.h;have hk3:=hq.k;clear hq;rename_i L3 _ _;refine DD.run' [5] rfl ?_;refine DD.act 6 rfl rfl rfl rfl rfl (Ef.cw 35 (.inr ⟨_,_,_,rfl⟩) rfl rfl (fun b9 tE _=>Ef.call rfl (v7 (some ⟨b9,0,none⟩) 5 [0,1,2,4,(y9:Int)] (mC.put tE _) (wM [0,1,2,4,(y9:Int)] (aj _ _ _)) (fun a ha=>by cases ha;exact mC.off tE) (by omega) hl (by show 5≤1000000;decide) (by show 1≤5;decide)))) (by rintro _ _ _ ⟨_,_,_,_,rfl,rfl,_⟩;exact⟨aE _,rfl,.inl rfl⟩) ?_;rintro _ _ _ ⟨b9,tE,_,_,rfl,rfl,z,rfl,hz,hq⟩;have qp:=hq.h;have Zs:=hq.k;clear hq;have Ve:0≤z∧z≤9:=by simp at hz;omega
 have hwy:IntKind.i64.wrap (g.made+z)=g.made+z:=wrap64_in _ (by omega) (by omega);refine DD.run' [7,8] rfl ?_;rw[hwy];refine DD.act 9 rfl rfl rfl rfl rfl (Ef.ui rfl) (by rintro _ _ _ ⟨rfl,rfl,rfl⟩;exact⟨aE _,rfl,.inr rfl⟩) ?_;rintro _ _ _ ⟨rfl,rfl,rfl⟩;refine .fin rfl ?_;have hJ:=qp.le;refine W.cG (E':=[(2,.v (.slice (some af) f.length fc)),(3,.v (.slice (some ah) hs.length hc)),(8,.p 1 0),(9,.p 2 0),(10,.p 3 0)]) (B':=[some ⟨(fT x ⟨some a,p1,p2,p3,p4,c0,c1,c2,c3,c4⟩).map .v,48⟩,some ⟨A2.z.cells.toList.map .v,126⟩,some ⟨[.v (.int .i64 sm),.v (.int .i64 gi),.v (.int .i64 (g.made+z)),.v (.int .i64 0)],126⟩,some ⟨(eY g).map .v,90⟩]) (by exact⟨rfl,rfl,rfl,rfl,rfl,trivial⟩) (by exact⟨rfl,rfl,rfl,rfl,trivial⟩) ?_;refine W.go 99 rfl ?_;refine W.drawn (by kernel_rfl) _ (Le.refl _) ?_;refine DD.run' [0,1,2,5,6,7,8,11,12] rfl ?_;refine DD.vf 3 rfl rfl rfl rfl rfl (Vf.aW rfl rfl rfl rfl rfl rfl rfl ((List.getElem?_eq_some_iff.1 vd).1)) ?_;refine DD.vf 4 rfl rfl rfl rfl rfl (Vf.load rfl rfl rfl ((Gg.le hJ).int vd)) ?_;refine DD.vf 9 rfl rfl rfl rfl rfl (Vf.aW rfl rfl rfl rfl rfl rfl rfl ((List.getElem?_eq_some_iff.1 Eh).1)) ?_;refine DD.vf 10 rfl rfl rfl rfl rfl (Vf.load rfl rfl rfl ((F9.le hJ).int Eh)) ?_;refine DD.act 13 rfl rfl rfl rfl rfl (Ef.call rfl (y4 g (f.getD gi 0) (g.made+z) _ Qw (by omega) (by omega))) (by rintro _ _ _ ⟨_,rfl,rfl,rfl,rfl⟩;exact⟨Le.refl _,rfl,.inl rfl⟩) ?_;rintro _ _ _ ⟨_,rfl,rfl,rfl,rfl⟩;refine DD.act 14 rfl rfl rfl rfl rfl (Ef.call rfl (y2 (hs.getD sm 0) (max 0 (g.cS - f.getD gi 0 * (g.made+z - g.made))) _)) (by rintro _ _ _ ⟨_,rfl,rfl,rfl,rfl⟩;exact⟨Le.refl _,rfl,.inl rfl⟩) ?_;rintro _ _ _ ⟨_,rfl,rfl,rfl,rfl⟩;refine DD.run' [15] rfl ?_;refine DD.act 16 rfl rfl rfl rfl rfl (Ef.ui rfl) (by rintro _ _ _ ⟨rfl,rfl,rfl⟩;exact⟨Le.refl _,rfl,.inr rfl⟩) ?_;rintro _ _ _ ⟨rfl,rfl,rfl⟩;refine .fin rfl ?_;refine W.go 99 rfl ?_;refine W.ret r rfl rfl ?_;refine⟨⟨sm,gi,g.made+z,eJ (hs.getD sm 0) (max 0 (g.cS - f.getD gi 0 * (g.made+z - g.made)))⟩,rfl,⟨?_,?_⟩,qp,fun y o hy ho=>?_⟩
 ·unfold nN;dsimp only;rw[Int.toNat_natCast,Int.toNat_natCast];have tG:bQ x0 f gi (g.made+z)=max 0 (g.cS - f.getD gi 0 * (g.made+z - g.made)):=by unfold bQ;rw[jU]
  rw[tG];have hsx:=List.getElem?_eq_getElem sA;have Qs:=hm.tr.ci sm _ _ vd hsx;have Gu:=hm.sp _ (List.getElem_mem sA);unfold eo at Qs;exact Ly (by omega) (by omega)
 ·unfold de;have q1:bq (sm:Int) 0 ((x0.samples.length:Int) - 1)=true:=by unfold bq;simp;omega
  have q2:bq (gi:Int) 0 ((x0.ai.length:Int) - 1)=true:=by unfold bq;simp;omega
  have q3:bq (g.made+z) 0 60=true:=by unfold bq;simp;omega
  have q4:bq (eJ (hs.getD sm 0) (max 0 (g.cS - f.getD gi 0 * (g.made+z - g.made)))) 0 2=true:=by
   rcases yT (hs.getD sm 0) (max 0 (g.cS - f.getD gi 0 * (g.made+z - g.made))) with h | h | h <;> rw[h] <;> rfl
  dsimp only;rw[q1,q2,q3,q4,Int.toNat_natCast,jU];simp;omega
 ·have e1:=lK y hy;have e2:=tL y hy;have e3:=hk3 y hy;have e4:=Zs y hy;have e5:=(e3.trans (e2.trans e1)).trans ho;rw[e4,au _ _ (fun e=>by subst e;rw[e5] at tE;cases tE)];exact e5
theorem Mi(J L:LH)(b:Nat)(ad:Option Addr)(cap:Nat)(l:List Int)(n gl:Nat)(h:gp J L b ad cap l n)(hn:n≤800000)(hl:l.length≤140737488355328)(hp:1≤gl)(ZJ:gl≤4):
  Sp X 42 [pt b,.int .i64 gl] L (fun v L'=>∃x0 ss f hs p J' m fa fc ha hc,v=.tuple #[qy {x0 with ak:=ss} p,.slice fa f.length fc,.slice ha hs.length hc]∧sF x0 f hs gl∧(∀s∈ss,uC x0 f hs s)∧ss.length≤4∧m≤n+200∧Le J J'∧gp J' L' b ad cap l m∧fD J' {x0 with ak:=ss} p∧aN J' fa f∧aN J' ha hs):=by
 refine Sp.enter (n:=37) Tryz.func42 rfl rfl rfl rfl fun C hX _ aG r=>?_;refine W.go 99 rfl ?_;refine W.aB rfl rfl rfl (Ef.call rfl (OJ J L b ad cap l n gl h (by omega) hl hp ZJ)) ?_;rintro _ _ _ ⟨_,rfl,rfl,x0,f,hs,p,J1,m,fa,fc,ha,hc,rfl,hm,Nj,Uz,hh,bE,F9,Gg,ha4,II⟩;obtain⟨xg,Ts,xd,Tq,xsi⟩:=x0;obtain rfl:xsi=[]:=hm.si;refine W.go 99 rfl ?_;refine W.aB rfl rfl rfl (Ef.call rfl (sG 4 hh (by omega) hl (by omega))) ?_;rintro _ _ _ ⟨_,rfl,rfl,q,rfl,hq4,hq⟩;have fA:=hq.h;clear hq hh;obtain⟨p0,p1,p2,p3,p4,c0,c1,c2,c3,c4⟩:=p;simp only at ha4 II;subst ha4 II;refine W.dv [20] 99 rfl ?_;refine W.loop (fun w E B L'=>∃(i:Nat) (ss:List Sg) (sa:Option Addr) (sc m2:Nat) (os:Option Nat),w=i∧i+ss.length=q∧m2≤m+1+4 *ss.length∧(∀s∈ss,uC ⟨xg,Ts,xd,Tq,[]⟩ f hs s)∧gp J1 L' b ad cap l m2∧
   Gw J1 L' 4 126 (.slice sa ss.length sc) ss.length (ss.flatMap fE) os∧
   E=[(0,.v (pt b)),(4,.p 0 0),(7,.p 1 0),(8,.v (.slice fa f.length fc)),(9,.v (.slice ha hs.length hc)),(10,.v (.int .i64 i))]∧B=[some ⟨nR.z.cells.toList.map .v,48⟩,some ⟨[.v (.slice p0 xg.length c0),.v (.slice p1 Ts.length c1),.v (.slice p2 xd.length c2),.v (.slice p3 Tq.length c3),.v (.slice sa ss.length sc)],48⟩])
  ⟨q,[],none,0,m+1,none,rfl,by simp,by simp,by simp,fA,Gw.nil,rfl,rfl⟩ (by exact⟨rfl,rfl,rfl,rfl,rfl,rfl,trivial⟩) (by exact⟨rfl,rfl,trivial⟩) ?_
 clear fA;rintro i _ _ L1 ⟨_,ss,sa,sc,m2,os,rfl,hiq,BB,iO,hh,Bz,rfl,rfl⟩ again;refine W.go 99 rfl ?_;refine W.split rfl rfl rfl (fun e1=>?_) (fun e1=>?_)
 ·obtain⟨i,rfl⟩:∃j,i=j+1:=⟨i - 1,by have:(0:Int)<i:=(by simpa using e1);omega⟩;obtain⟨sA,cA,qg⟩:=Bz.nC hh (by decide) kO;have cz:=hh.all;have hS:=H6 (X:=X) (L1.cD b) L1 b ad cap l m2 gl ⟨xg,Ts,xd,Tq,ss⟩ ⟨xg,Ts,xd,Tq,[]⟩ ⟨p0,p1,p2,p3,sa,c0,c1,c2,c3,sc⟩ f hs fa ha fc hc cz ⟨bE.h0.le hh.cD,bE.h1.le hh.cD,bE.h2.le hh.cD,bE.h3.le hh.cD,cA,bE.n0,bE.n1,bE.n2,bE.n3,(by show ss.length≤1000000;omega),qg⟩ (by omega) hl hm ZJ rfl (F9.le hh.cD) (Gg.le hh.cD);refine W.go 99 rfl ?_;refine W.drawn (by kernel_rfl) oY (aE _) ?_;refine DD.run' [0,1,2,3,4,5] rfl ?_;rw[←hX] at hS;refine DD.act 6 rfl rfl rfl rfl rfl (Ef.call rfl (hS)) (by rintro _ _ _ ⟨_,rfl,rfl,_⟩;exact⟨aE _,rfl,.inl rfl⟩) ?_;rintro _ _ _ ⟨_,rfl,rfl,s,rfl,yz,kE,tL⟩;have Gf:=Bz.on hh (by decide) tL;have mC:gp J1 _ b ad cap l (m2+4):=⟨hh.cD.trans kE.le,hh.jb,kE.blk,hh.ints⟩;clear kE tL Bz cA cz hS;refine DD.run' [7] rfl ?_;refine DD.act 8 rfl rfl rfl rfl rfl (Ef.lX (len:=ss.length) (m:=1) (vs:=fE s) rfl rfl rfl rfl rfl rfl rfl rfl rfl (MI _) Gf.o (.own rfl rfl rfl rfl) (by omega)) ((by rintro _ _ _ ⟨_,_,rfl,rfl,_⟩;exact⟨aE _,rfl,.inl rfl⟩)) ?_;rintro _ _ _ ⟨v1,BK,rfl,rfl,qv,iL⟩;obtain⟨sa',sc',rfl,ab1,qp,_⟩:=ju Gf mC (by decide) qv iL;clear qv iL Gf mC hh;refine DD.run' [9] rfl ?_;refine DD.act 10 rfl rfl rfl rfl rfl (Ef.ui rfl) (by rintro _ _ _ ⟨rfl,rfl,rfl⟩;exact⟨aE _,rfl,.inr rfl⟩) ?_;rintro _ _ _ ⟨rfl,rfl,rfl⟩;refine .fin rfl ?_;refine W.go 99 rfl ?_;have e2:(ss++[s]).length=ss.length+1:=by simp
  exact W.again (again i _ _ _ (by omega) ⟨i,ss++[s],sa',sc',_,BK,rfl,by omega,by omega,fun g hg=>by
   rcases List.mem_append.1 hg with hg | hg
   ·exact iO g hg
   ·rw[List.mem_singleton.1 hg];exact yz,qp,ab1,rfl,rfl⟩) (by exact⟨rfl,rfl,rfl,rfl,rfl,congrArg (fun z=>some (SV.v (Value.int .i64 z))) (KB (by omega)),trivial⟩) (by rw[e2];exact⟨rfl,rfl,trivial⟩)
 ·have qq:i=0:=by have:¬(0:Int)<i:=(by simpa using e1);omega
  subst qq;clear again e1;obtain⟨_,U1,hcS⟩:=Bz.nC hh (by decide) kO;have yh:=hh.cD;have fA:=hh.all;refine W.go 99 rfl ?_;refine W.ret r rfl rfl ?_;exact⟨⟨xg,Ts,xd,Tq,[]⟩,ss,f,hs,⟨p0,p1,p2,p3,sa,c0,c1,c2,c3,sc⟩,L1.cD b,m2,fa,fc,ha,hc,rfl,hm,iO,by omega,by omega,Uz.trans yh,fA,⟨bE.h0.le yh,bE.h1.le yh,bE.h2.le yh,bE.h3.le yh,U1,bE.n0,bE.n1,bE.n2,bE.n3,(by show ss.length≤1000000;omega),hcS⟩,F9.le yh,Gg.le yh⟩
end Go.Mz
namespace Go.Mz
open Go
abbrev FGp:=List Int×List bV
def vz(ro:Ro)(sm:Nat)(y:Int)(gl:List Nat)(x:FGp):List (List Int×Nat):=(fI (x.2.getD sm ⟨0,0⟩)).map fun c=>(jz ro x.1 c y gl,bT ro c)
def vy(ro:Ro)(sm:Nat)(y:Int)(gl:List Nat):List (List Int×Nat):=(aT ro ro.ak).flatMap (vz ro sm y gl)
def EK(P:List (List Int×Nat)):Bool:=P.all fun p=>P.all fun q=>p.1 !=q.1||p.2==q.2
def eS(ro:Ro)(sm:Nat)(y:Int)(gl:List Nat):Bool:=EK (vy ro sm y gl)
theorem pg{P:List (List Int×Nat)}:EK P=true↔∀p∈P,∀q∈P,p.1=q.1→p.2=q.2:=by
 unfold EK;rw[List.all_eq_true]
 constructor
 ·intro h p hp q hq e;have:=List.all_eq_true.1 (h p hp) q hq
  simpa [e] using this
 ·intro h p hp;rw[List.all_eq_true];intro q hq
  by_cases e:p.1=q.1
  ·simp[h p hp q hq e]
  ·simp[e]
theorem JL{ro:Ro}{sm:Nat}{y:Int}{gl:List Nat}(h:eS ro sm y gl=true):C4 ro sm y gl:=by
 intro x hx z hz c d hc hd e;have h:=pg.1 h;have CF:∀{s:bV} {c:Int},eo c s→c∈fI s:=fun{s c} h=>by
  unfold eo at h;unfold fI;exact List.mem_map.2 ⟨(c - s.lo).toNat,List.mem_range.2 (by omega),by omega⟩
 exact h (jz ro x.1 c y gl,bT ro c) (List.mem_flatMap.2 ⟨x,hx,List.mem_map.2 ⟨c,CF hc,rfl⟩⟩) (jz ro z.1 d y gl,bT ro d) (List.mem_flatMap.2 ⟨z,hz,List.mem_map.2 ⟨d,CF hd,rfl⟩⟩) e
def mY(ro:Ro)(y:Int):List Nat:=(List.range ro.ai.length).filter fun k=>decide ((ro.ai.getD k ⟨0,0,⟨0,0⟩⟩).made≤y)
def fY(so:List Nat→Bool)(l:List Nat):Nat→List Nat→Nat→Option (List Nat)
 | 0,own,_=>if so own then some own else none
 | k+1,own,eH=>(List.range (l.length - k - eH)).findSome? fun i=>fY so l k (own++[l.getD (eH+i) 0]) (eH+i+1)
def hZ(so:List Nat→Bool)(l:List Nat):Option (List Nat):=(List.range (l.length+1)).findSome? fun m=>fY so l m [] 0
def qC(ro:Ro)(sm y:Int):List Nat×Int:=
 if dK ro≠0 then([],dK ro) else
 if !bq sm 0 ((ro.samples.length:Int) - 1) then([],3) else
 if !bq y 0 60 then([],1) else
 if aT ro ro.ak=[] then([],9) else
 match hZ (eS ro sm.toNat y) (mY ro y) with
 | some l=>(l,0)
 | none=>([],11)
theorem Co{so:List Nat→Bool}{l:List Nat}:∀{k:Nat} {own:List Nat} {eH:Nat} {r:List Nat},fY so l k own eH=some r→so r=true∧r.length=own.length+k∧∀n∈r,n∈own∨n∈l
 | 0,own,eH,r,h=>by
  unfold fY at h
  split at h
  ·cases h;exact⟨by assumption,rfl,fun n hn=>.inl hn⟩
  ·cases h
 | k+1,own,eH,r,h=>by
  unfold fY at h;obtain⟨i,hi,hg⟩:=List.exists_of_findSome?_eq_some h;have fB:=List.mem_range.1 hi;obtain⟨h1,h2,h3⟩:=Co hg;rw[List.length_append,List.length_singleton] at h2;refine⟨h1,by omega,fun n hn=>?_⟩;rcases h3 n hn with h4 | h4
  ·rcases List.mem_append.1 h4 with h5 | h5
   ·exact .inl h5
   ·rw[List.mem_singleton.1 h5];refine .inr ?_;rw[List.getD_eq_getElem?_getD,List.getElem?_eq_getElem (show eH+i<l.length by omega)];exact List.getElem_mem _
  ·exact .inr h4
theorem FW{so:List Nat→Bool}{l r:List Nat}(h:hZ so l=some r):so r=true∧r.length≤l.length∧∀n∈r,n∈l:=by
 unfold hZ at h;obtain⟨m,hm,hg⟩:=List.exists_of_findSome?_eq_some h;have:=List.mem_range.1 hm;obtain⟨h1,h2,h3⟩:=Co hg;rw[List.length_nil] at h2;exact⟨h1,by omega,fun n hn=>(h3 n hn).elim (fun h=>by cases h) id⟩
theorem Z4:qC xS 0 5=([3],0):=by decide+kernel
end Go.Mz
set_option maxRecDepth 100000
namespace Go.Mz
open Go.Conc
section
variable {P:Program}{H:Value→LH→Prop}{R:LH}
theorem Jy(n:Nat)(xs:List Int):Instr.sameBits (n+1) (bX xs) (bX xs)=true:=by
 unfold bX Instr.sameBits;rw[Bool.and_eq_true];refine⟨by simp,List.all_eq_true.2 fun p hp=>?_⟩;obtain⟨i,hi⟩:=List.mem_iff_getElem?.1 hp;rw[List.getElem?_zip_eq_some] at hi;simp only[List.getElem?_map,Option.map_eq_some_iff] at hi;obtain⟨⟨x,hx,e1⟩,⟨y,hy,e2⟩⟩:=hi;rw[hx] at hy;cases hy;obtain⟨a,b⟩:=p;simp only at e1 e2;subst e1 e2;unfold Instr.sameBits;simp
theorem FZ{t e:TypeId}{n:Nat}{xs:List Int}(hu:P.underlying t=some (.array n e))(he:P.underlying e=some (.int .i64))(hs:(P.info? e).map (·.size)=some 1)(ha:eV P e=some false)(hx:xs.length=n){y:MapEntry}(hy:y.key=bX xs):
  ∀(es:List MapEntry) (i j:Nat),es[j]?=some y→(∀(j':Nat) (z:MapEntry),j'<j→es[j']?=some z→∃ys:List Int,ys.length=n∧z.key=bX ys∧ys≠xs)→∀(Q:Option (Nat×Value)→LH→Prop),az P Q H (Instr.findAsking t (bX xs) es i) R=Q (some (i+j,y.val)) R
 | [],_,_,h,_,_=>by simp at h
 | z::es,i,0,h,_,Q=>by
  cases h;rw[Instr.findAsking,hy,ae];show az P _ H (Op.equalIn (9998+2) t _ _) R=_;rw[rO hu he hs ha hx hx,decide_eq_true rfl]
  rfl
 | z::es,i,j+1,h,hb,Q=>by
  obtain⟨ys,h1,h2,h3⟩:=hb 0 z (by omega) rfl;rw[Instr.findAsking,h2,ae];show az P _ H (Op.equalIn (9998+2) t _ _) R=_;rw[rO hu he hs ha hx h1,decide_eq_false (fun e=>h3 e.symm)];have:=FZ hu he hs ha hx hy es (i+1) j (by simpa using h) (fun j' z' hj hz=>hb (j'+1) z' (by omega) (by simpa using hz)) Q;rw[show i+(j+1)=i+1+j by omega];exact this
theorem FY{t e:TypeId}{n:Nat}{xs:List Int}{es:List MapEntry}(hu:P.underlying t=some (.array n e))(he:P.underlying e=some (.int .i64))(hs:(P.info? e).map (·.size)=some 1)(ha:eV P e=some false)(hx:xs.length=n){y:MapEntry}{j:Nat}(hy:y.key=bX xs)(hj:es[j]?=some y)
  (hk:∀z∈es,∃ys:List Int,z.key=bX ys)(hb:∀(j':Nat) (z:MapEntry),j'<j→es[j']?=some z→∃ys:List Int,ys.length=n∧z.key=bX ys∧ys≠xs)(Q:Option (Nat×Value)→LH→Prop):az P Q H (Instr.findKey t (bX xs) es) R=Q (some (j,y.val)) R:=by
 unfold Instr.findKey;rw[ae,ao hu];cases es with
 | nil=>simp at hj
 | cons z es=>
  rw[uU (z::es) hk 0 (by simp)];have:=FZ (H:=H) (R:=R) hu he hs ha hx hy (z::es) 0 j hj hb Q;rw[Nat.zero_add] at this;exact this
end
section
variable {P:Program}{C:Cx P}{E:a8}{B:List (Option Bx)}{L:LH}{dst:Option Tmp}{ty:TypeId}{pos:String}{af:Array Edge}{gd:Option (Nat×Bool)}
theorem Ef.RQ{t kt et:TypeId}{x y u:Operand}{r i:Nat}{sk su:SV}{kv uv:Value}{es:Array MapEntry}{clk:Nat}{e:MapEntry}(hx:aL E x=some (.v (.map (some r))))(hy:aL E y=some sk)(dk:den dr sk=some kv)(hw:aL E u=some su)(du:den dr su=some uv)(hu:P.underlying t=some (.map kt et))(hL:L r=some (.map es clk,true))(he:es[i]?=some e)(hk:e.key=kv)(hv:e.val=uv)(Gu:Instr.sameBits 10000 kv kv=true)
  (hc:∀(e:Bool) (Q:Unit→LH→Prop) (H:Value→LH→Prop) (R:LH),az P Q H (Instr.checkKey e 10000 kt kv) R=Q () R)(hf:∀(Q:Option (Nat×Value)→LH→Prop) (H:Value→LH→Prop) (R:LH),az P Q H (Instr.findKey kt kv es.toList) R=Q (some (i,uv)) R):
  Ef C ⟨dst,.mapUpdate t x y u,ty,pos,af,gd⟩ E B L (xu L B):=by
 intro T R β hE hH;have ex:=(Option.some.inj (hE.val hx)).symm;have ey:ev T y=kv:=Option.some.inj ((hE.val hy).symm.trans (cP dk β));have eu:ev T u=uv:=Option.some.inj ((hE.val hw).symm.trans (cP du β));refine⟨rfl,?_⟩;simp only[execOp,ex,ey,eu];rw[ae];unfold Instr.mapUpdate;rw[ae,ao hu];simp only;rw[ae,fV (hH.le _ _ hL)];simp only;rw[ae,hc,ae,hf];simp only[he,Option.map_some,Option.getD_some,hk];unfold Instr.keyThatStays;rw[if_pos Gu,ae,ar];have em:es.modify i (fun e=>{e with key:=kv,val:=uv})=es:=by
  apply Array.ext_getElem?;intro j;rw[Array.getElem?_modify]
  split
  ·rename_i lJ;subst lJ;rw[he];cases e;simp only at hk hv;subst hk hv
   rfl
  ·rfl
 rw[em];rw[eO (hH.le _ _ hL) rfl rfl];have dP:L.put r (.map es clk)=L:=by
  funext b
  by_cases hb:b=r
  ·subst hb;rw[aj,hL]
  ·rw[au _ _ hb]
 have:=hH.m9 hL (o':=.map es clk) (aj R r (.map es clk)) (fun b' bG=>au R _ bG);rw[dP] at this;exact⟨.v undef,B,_,⟨rfl,rfl,rfl⟩,rfl,this,fun _ _=>rfl⟩
theorem Ef.My{t kt et:TypeId}{x:Operand}{r:Nat}{es:Array MapEntry}{clk:Nat}(hx:aL E x=some (.v (.map (some r))))(hu:P.underlying t=some (.map kt et))(hL:L r=some (.map es clk,true)):
  Ef C ⟨dst,.call {callee:=.builtin .clear,args:=#[x],argTypes:=#[t]},ty,pos,af,gd⟩ E B L (fun sv B' L'=>sv=.v (.tuple #[])∧B'=B∧L'=L.put r (.map #[] clk)):=by
 intro T R β hE hH;have ex:=(Option.some.inj (hE.val hx)).symm;refine⟨rfl,?_⟩;simp only[execOp,resolve,List.map_toArray,List.map_cons,List.map_nil,ex,pure,Sem.bind,bind,invoke,builtin,Builtin.clear_];simp only[List.getElem?_toArray,List.getElem?_cons_zero];show az P _ _ ((_>>= _)>>= _) R;rw[ae,ae,ao hu];show az P _ _ (getObj r>>= _) R;rw[ae,fV (hH.le _ _ hL)];show az P _ _ (setObj r (.map #[] clk)>>= _) R;rw[ae,eO (hH.le _ _ hL) rfl rfl];exact⟨_,B,_,⟨rfl,rfl,rfl⟩,rfl,hH.m9 hL (aj _ _ _) (fun b' bG=>au R _ bG),fun _ _=>rfl⟩
end
end Go.Mz
